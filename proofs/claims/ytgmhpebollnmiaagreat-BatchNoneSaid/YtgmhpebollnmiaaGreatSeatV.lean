/- Texts of a proof: no condition. -/
import Derived.Test.YtgmhpebollnmiaaGreatTwoC
import Derived.Test.YtgmhpebollnmiaaGreatSeatE
import Derived.KernelRfl
set_option autoImplicit true
set_option relaxedAutoImplicit true
set_option linter.all false
set_option linter.unusedVariables false
set_option linter.unusedSimpArgs false
set_option maxRecDepth 100000
set_option linter.unusedVariables false
namespace Go.L1
open Go Go.Proofs
noncomputable def E_asterismlaw13_BatchNone : FnE := fun call lp args h => match args with
 | [] => F_asterismlaw13_BatchNone call lp  h
 | _ => none
theorem G_asterismlaw13_BatchNone : Good pg N_asterismlaw13_BatchNone E_asterismlaw13_BatchNone := by
  intro call lp args h r hc hl hh
  unfold E_asterismlaw13_BatchNone at hh
  split at hh
  · rw [← F_asterismlaw13_BatchNone_eq] at hh
    exact ic_asterismlaw13_BatchNone ((F_asterismlaw13_BatchNone_eq _ _ _).symm.trans (F_mono hc hl hh))
  · cases hh
noncomputable def E_asterismlaw12_begun : FnE := fun call lp args h => match args with
 | [] => F_asterismlaw12_begun call lp  h
 | _ => none
theorem G_asterismlaw12_begun : Good pg N_asterismlaw12_begun E_asterismlaw12_begun := by
  intro call lp args h r hc hl hh
  unfold E_asterismlaw12_begun at hh
  split at hh
  · rw [← F_asterismlaw12_begun_eq] at hh
    exact ic_asterismlaw12_begun ((F_asterismlaw12_begun_eq _ _ _).symm.trans (F_mono hc hl hh))
  · cases hh
noncomputable def E_asterismlaw12_Star : FnE := fun call lp args h => match args with
 | [] => F_asterismlaw12_Star call lp  h
 | _ => none
theorem G_asterismlaw12_Star : Good pg N_asterismlaw12_Star E_asterismlaw12_Star := by
  intro call lp args h r hc hl hh
  unfold E_asterismlaw12_Star at hh
  split at hh
  · rw [← F_asterismlaw12_Star_eq] at hh
    exact ic_asterismlaw12_Star ((F_asterismlaw12_Star_eq _ _ _).symm.trans (F_mono hc hl hh))
  · cases hh
noncomputable def E_data_DB_Copy : FnE := fun call lp args h => match args with
 | [x0] => F_data_DB_Copy call lp x0 h
 | _ => none
theorem G_data_DB_Copy : Good pg N_data_DB_Copy E_data_DB_Copy := by
  intro call lp args h r hc hl hh
  unfold E_data_DB_Copy at hh
  split at hh
  · rw [← F_data_DB_Copy_eq] at hh
    exact ic_data_DB_Copy _ ((F_data_DB_Copy_eq _ _ _ _).symm.trans (F_mono hc hl hh))
  · cases hh
noncomputable def E_data_DB_ByKey : FnE := fun call lp args h => match args with
 | [x0, x1, x2] => F_data_DB_ByKey call lp x0 x1 x2 h
 | _ => none
theorem G_data_DB_ByKey : Good pg N_data_DB_ByKey E_data_DB_ByKey := by
  intro call lp args h r hc hl hh
  unfold E_data_DB_ByKey at hh
  split at hh
  · rw [← F_data_DB_ByKey_eq] at hh
    exact ic_data_DB_ByKey _ _ _ ((F_data_DB_ByKey_eq _ _ _ _ _ _).symm.trans (F_mono hc hl hh))
  · cases hh
noncomputable def E_data_DB_Value : FnE := fun call lp args h => match args with
 | [x0, x1, x2, x3] => F_data_DB_Value call lp x0 x1 x2 x3 h
 | _ => none
theorem G_data_DB_Value : Good pg N_data_DB_Value E_data_DB_Value := by
  intro call lp args h r hc hl hh
  unfold E_data_DB_Value at hh
  split at hh
  · rw [← F_data_DB_Value_eq] at hh
    exact ic_data_DB_Value _ _ _ _ ((F_data_DB_Value_eq _ _ _ _ _ _ _).symm.trans (F_mono hc hl hh))
  · cases hh
noncomputable def E_asterismlaw13_begun : FnE := fun call lp args h => match args with
 | [] => F_asterismlaw13_begun call lp  h
 | _ => none
theorem G_asterismlaw13_begun : Good pg N_asterismlaw13_begun E_asterismlaw13_begun := by
  intro call lp args h r hc hl hh
  unfold E_asterismlaw13_begun at hh
  split at hh
  · rw [← F_asterismlaw13_begun_eq] at hh
    exact ic_asterismlaw13_begun ((F_asterismlaw13_begun_eq _ _ _).symm.trans (F_mono hc hl hh))
  · cases hh
noncomputable def E_batch_Apply : FnE := fun call lp args h => match args with
 | [x0, x1] => F_batch_Apply call lp x0 x1 h
 | _ => none
theorem G_batch_Apply : Good pg N_batch_Apply E_batch_Apply := by
  intro call lp args h r hc hl hh
  unfold E_batch_Apply at hh
  split at hh
  · rw [← F_batch_Apply_eq] at hh
    exact ic_batch_Apply _ _ ((F_batch_Apply_eq _ _ _ _ _).symm.trans (F_mono hc hl hh))
  · cases hh
noncomputable def E_asterismref12_DB_Apply : FnE := fun call lp args h => match args with
 | [x0, x1] => F_asterismref12_DB_Apply call lp x0 x1 h
 | _ => none
theorem G_asterismref12_DB_Apply : Good pg N_asterismref12_DB_Apply E_asterismref12_DB_Apply := by
  intro call lp args h r hc hl hh
  unfold E_asterismref12_DB_Apply at hh
  split at hh
  · rw [← F_asterismref12_DB_Apply_eq] at hh
    exact ic_asterismref12_DB_Apply _ _ ((F_asterismref12_DB_Apply_eq _ _ _ _ _).symm.trans (F_mono hc hl hh))
  · cases hh
noncomputable def E_asterismlaw13_EqFault : FnE := fun call lp args h => match args with
 | [x0, x1] => F_asterismlaw13_EqFault call lp x0 x1 h
 | _ => none
theorem G_asterismlaw13_EqFault : Good pg N_asterismlaw13_EqFault E_asterismlaw13_EqFault := by
  intro call lp args h r hc hl hh
  unfold E_asterismlaw13_EqFault at hh
  split at hh
  · rw [← F_asterismlaw13_EqFault_eq] at hh
    exact ic_asterismlaw13_EqFault _ _ ((F_asterismlaw13_EqFault_eq _ _ _ _ _).symm.trans (F_mono hc hl hh))
  · cases hh
noncomputable def E_asterismlaw13_num : FnE := fun call lp args h => match args with
 | [x0] => F_asterismlaw13_num call lp x0 h
 | _ => none
theorem G_asterismlaw13_num : Good pg N_asterismlaw13_num E_asterismlaw13_num := by
  intro call lp args h r hc hl hh
  unfold E_asterismlaw13_num at hh
  split at hh
  · rw [← F_asterismlaw13_num_eq] at hh
    exact ic_asterismlaw13_num _ ((F_asterismlaw13_num_eq _ _ _ _).symm.trans (F_mono hc hl hh))
  · cases hh
noncomputable def E_asterismlaw13_text : FnE := fun call lp args h => match args with
 | [x0] => F_asterismlaw13_text call lp x0 h
 | _ => none
theorem G_asterismlaw13_text : Good pg N_asterismlaw13_text E_asterismlaw13_text := by
  intro call lp args h r hc hl hh
  unfold E_asterismlaw13_text at hh
  split at hh
  · rw [← F_asterismlaw13_text_eq] at hh
    exact ic_asterismlaw13_text _ ((F_asterismlaw13_text_eq _ _ _ _).symm.trans (F_mono hc hl hh))
  · cases hh
noncomputable def E_data_New : FnE := fun call lp args h => match args with
 | [] => F_data_New call lp  h
 | _ => none
theorem G_data_New : Good pg N_data_New E_data_New := by
  intro call lp args h r hc hl hh
  unfold E_data_New at hh
  split at hh
  · rw [← F_data_New_eq] at hh
    exact ic_data_New ((F_data_New_eq _ _ _).symm.trans (F_mono hc hl hh))
  · cases hh
noncomputable def E_data_DB_Table : FnE := fun call lp args h => match args with
 | [x0, x1] => F_data_DB_Table call lp x0 x1 h
 | _ => none
theorem G_data_DB_Table : Good pg N_data_DB_Table E_data_DB_Table := by
  intro call lp args h r hc hl hh
  unfold E_data_DB_Table at hh
  split at hh
  · rw [← F_data_DB_Table_eq] at hh
    exact ic_data_DB_Table _ _ ((F_data_DB_Table_eq _ _ _ _ _).symm.trans (F_mono hc hl hh))
  · cases hh
noncomputable def E_data_DB_Schema : FnE := fun call lp args h => match args with
 | [x0] => F_data_DB_Schema call lp x0 h
 | _ => none
theorem G_data_DB_Schema : Good pg N_data_DB_Schema E_data_DB_Schema := by
  intro call lp args h r hc hl hh
  unfold E_data_DB_Schema at hh
  split at hh
  · rw [← F_data_DB_Schema_eq] at hh
    exact ic_data_DB_Schema _ ((F_data_DB_Schema_eq _ _ _ _).symm.trans (F_mono hc hl hh))
  · cases hh
noncomputable def E_table_Table_Insert : FnE := fun call lp args h => match args with
 | [x0, x1] => F_table_Table_Insert call lp x0 x1 h
 | _ => none
theorem G_table_Table_Insert : Good pg N_table_Table_Insert E_table_Table_Insert := by
  intro call lp args h r hc hl hh
  unfold E_table_Table_Insert at hh
  split at hh
  · rw [← F_table_Table_Insert_eq] at hh
    exact ic_table_Table_Insert _ _ ((F_table_Table_Insert_eq _ _ _ _ _).symm.trans (F_mono hc hl hh))
  · cases hh
noncomputable def E_asterismlaw11_Begun : FnE := fun call lp args h => match args with
 | [] => F_asterismlaw11_Begun call lp  h
 | _ => none
theorem G_asterismlaw11_Begun : Good pg N_asterismlaw11_Begun E_asterismlaw11_Begun := by
  intro call lp args h r hc hl hh
  unfold E_asterismlaw11_Begun at hh
  split at hh
  · rw [← F_asterismlaw11_Begun_eq] at hh
    exact ic_asterismlaw11_Begun ((F_asterismlaw11_Begun_eq _ _ _).symm.trans (F_mono hc hl hh))
  · cases hh
noncomputable def E_asterismlaw9_Star : FnE := fun call lp args h => match args with
 | [] => F_asterismlaw9_Star call lp  h
 | _ => none
theorem G_asterismlaw9_Star : Good pg N_asterismlaw9_Star E_asterismlaw9_Star := by
  intro call lp args h r hc hl hh
  unfold E_asterismlaw9_Star at hh
  split at hh
  · rw [← F_asterismlaw9_Star_eq] at hh
    exact ic_asterismlaw9_Star ((F_asterismlaw9_Star_eq _ _ _).symm.trans (F_mono hc hl hh))
  · cases hh
noncomputable def E_data_DB_Add : FnE := fun call lp args h => match args with
 | [x0, x1] => F_data_DB_Add call lp x0 x1 h
 | _ => none
theorem G_data_DB_Add : Good pg N_data_DB_Add E_data_DB_Add := by
  intro call lp args h r hc hl hh
  unfold E_data_DB_Add at hh
  split at hh
  · rw [← F_data_DB_Add_eq] at hh
    exact ic_data_DB_Add _ _ ((F_data_DB_Add_eq _ _ _ _ _).symm.trans (F_mono hc hl hh))
  · cases hh
noncomputable def E_asterismref12_DB_Add : FnE := fun call lp args h => match args with
 | [x0, x1] => F_asterismref12_DB_Add call lp x0 x1 h
 | _ => none
theorem G_asterismref12_DB_Add : Good pg N_asterismref12_DB_Add E_asterismref12_DB_Add := by
  intro call lp args h r hc hl hh
  unfold E_asterismref12_DB_Add at hh
  split at hh
  · rw [← F_asterismref12_DB_Add_eq] at hh
    exact ic_asterismref12_DB_Add _ _ ((F_asterismref12_DB_Add_eq _ _ _ _ _).symm.trans (F_mono hc hl hh))
  · cases hh
noncomputable def E_asterismref8_Schema_Find : FnE := fun call lp args h => match args with
 | [x0, x1] => F_asterismref8_Schema_Find call lp x0 x1 h
 | _ => none
theorem G_asterismref8_Schema_Find : Good pg N_asterismref8_Schema_Find E_asterismref8_Schema_Find := by
  intro call lp args h r hc hl hh
  unfold E_asterismref8_Schema_Find at hh
  split at hh
  · rw [← F_asterismref8_Schema_Find_eq] at hh
    exact ic_asterismref8_Schema_Find _ _ ((F_asterismref8_Schema_Find_eq _ _ _ _ _).symm.trans (F_mono hc hl hh))
  · cases hh
noncomputable def E_table_Table_Delete : FnE := fun call lp args h => match args with
 | [x0, x1] => F_table_Table_Delete call lp x0 x1 h
 | _ => none
theorem G_table_Table_Delete : Good pg N_table_Table_Delete E_table_Table_Delete := by
  intro call lp args h r hc hl hh
  unfold E_table_Table_Delete at hh
  split at hh
  · rw [← F_table_Table_Delete_eq] at hh
    exact ic_table_Table_Delete _ _ ((F_table_Table_Delete_eq _ _ _ _ _).symm.trans (F_mono hc hl hh))
  · cases hh
noncomputable def E_table_Table_Set : FnE := fun call lp args h => match args with
 | [x0, x1, x2, x3] => F_table_Table_Set call lp x0 x1 x2 x3 h
 | _ => none
theorem G_table_Table_Set : Good pg N_table_Table_Set E_table_Table_Set := by
  intro call lp args h r hc hl hh
  unfold E_table_Table_Set at hh
  split at hh
  · rw [← F_table_Table_Set_eq] at hh
    exact ic_table_Table_Set _ _ _ _ ((F_table_Table_Set_eq _ _ _ _ _ _ _).symm.trans (F_mono hc hl hh))
  · cases hh
noncomputable def E_schema_Schema_Names : FnE := fun call lp args h => match args with
 | [x0] => F_schema_Schema_Names call lp x0 h
 | _ => none
theorem G_schema_Schema_Names : Good pg N_schema_Schema_Names E_schema_Schema_Names := by
  intro call lp args h r hc hl hh
  unfold E_schema_Schema_Names at hh
  split at hh
  · rw [← F_schema_Schema_Names_eq] at hh
    exact ic_schema_Schema_Names _ ((F_schema_Schema_Names_eq _ _ _ _).symm.trans (F_mono hc hl hh))
  · cases hh
noncomputable def E_schema_Schema_Find : FnE := fun call lp args h => match args with
 | [x0, x1] => F_schema_Schema_Find call lp x0 x1 h
 | _ => none
theorem G_schema_Schema_Find : Good pg N_schema_Schema_Find E_schema_Schema_Find := by
  intro call lp args h r hc hl hh
  unfold E_schema_Schema_Find at hh
  split at hh
  · rw [← F_schema_Schema_Find_eq] at hh
    exact ic_schema_Schema_Find _ _ ((F_schema_Schema_Find_eq _ _ _ _ _).symm.trans (F_mono hc hl hh))
  · cases hh
noncomputable def E_schema_Schema_Add : FnE := fun call lp args h => match args with
 | [x0, x1] => F_schema_Schema_Add call lp x0 x1 h
 | _ => none
theorem G_schema_Schema_Add : Good pg N_schema_Schema_Add E_schema_Schema_Add := by
  intro call lp args h r hc hl hh
  unfold E_schema_Schema_Add at hh
  split at hh
  · rw [← F_schema_Schema_Add_eq] at hh
    exact ic_schema_Schema_Add _ _ ((F_schema_Schema_Add_eq _ _ _ _ _).symm.trans (F_mono hc hl hh))
  · cases hh
noncomputable def E_table_Table_Copy : FnE := fun call lp args h => match args with
 | [x0] => F_table_Table_Copy call lp x0 h
 | _ => none
theorem G_table_Table_Copy : Good pg N_table_Table_Copy E_table_Table_Copy := by
  intro call lp args h r hc hl hh
  unfold E_table_Table_Copy at hh
  split at hh
  · rw [← F_table_Table_Copy_eq] at hh
    exact ic_table_Table_Copy _ ((F_table_Table_Copy_eq _ _ _ _).symm.trans (F_mono hc hl hh))
  · cases hh
noncomputable def E_table_Table_Form : FnE := fun call lp args h => match args with
 | [x0] => F_table_Table_Form call lp x0 h
 | _ => none
theorem G_table_Table_Form : Good pg N_table_Table_Form E_table_Table_Form := by
  intro call lp args h r hc hl hh
  unfold E_table_Table_Form at hh
  split at hh
  · rw [← F_table_Table_Form_eq] at hh
    exact ic_table_Table_Form _ ((F_table_Table_Form_eq _ _ _ _).symm.trans (F_mono hc hl hh))
  · cases hh
noncomputable def E_table_Table_Live : FnE := fun call lp args h => match args with
 | [x0] => F_table_Table_Live call lp x0 h
 | _ => none
theorem G_table_Table_Live : Good pg N_table_Table_Live E_table_Table_Live := by
  intro call lp args h r hc hl hh
  unfold E_table_Table_Live at hh
  split at hh
  · rw [← F_table_Table_Live_eq] at hh
    exact ic_table_Table_Live _ ((F_table_Table_Live_eq _ _ _ _).symm.trans (F_mono hc hl hh))
  · cases hh
noncomputable def E_bitmap_Map_All : FnE := fun call lp args h => match args with
 | [x0] => F_bitmap_Map_All call lp x0 h
 | _ => none
theorem G_bitmap_Map_All : Good pg N_bitmap_Map_All E_bitmap_Map_All := by
  intro call lp args h r hc hl hh
  unfold E_bitmap_Map_All at hh
  split at hh
  · rw [← F_bitmap_Map_All_eq] at hh
    exact ic_bitmap_Map_All _ ((F_bitmap_Map_All_eq _ _ _ _).symm.trans (F_mono hc hl hh))
  · cases hh
noncomputable def E_table_Table_Get : FnE := fun call lp args h => match args with
 | [x0, x1, x2] => F_table_Table_Get call lp x0 x1 x2 h
 | _ => none
theorem G_table_Table_Get : Good pg N_table_Table_Get E_table_Table_Get := by
  intro call lp args h r hc hl hh
  unfold E_table_Table_Get at hh
  split at hh
  · rw [← F_table_Table_Get_eq] at hh
    exact ic_table_Table_Get _ _ _ ((F_table_Table_Get_eq _ _ _ _ _ _).symm.trans (F_mono hc hl hh))
  · cases hh
noncomputable def E_val_Eq : FnE := fun call lp args h => match args with
 | [x0, x1] => F_val_Eq call lp x0 x1 h
 | _ => none
theorem G_val_Eq : Good pg N_val_Eq E_val_Eq := by
  intro call lp args h r hc hl hh
  unfold E_val_Eq at hh
  split at hh
  · rw [← F_val_Eq_eq] at hh
    exact ic_val_Eq _ _ ((F_val_Eq_eq _ _ _ _ _).symm.trans (F_mono hc hl hh))
  · cases hh
noncomputable def E_asterismref8_ColOf : FnE := fun call lp args h => match args with
 | [x0, x1] => F_asterismref8_ColOf call lp x0 x1 h
 | _ => none
theorem G_asterismref8_ColOf : Good pg N_asterismref8_ColOf E_asterismref8_ColOf := by
  intro call lp args h r hc hl hh
  unfold E_asterismref8_ColOf at hh
  split at hh
  · rw [← F_asterismref8_ColOf_eq] at hh
    exact ic_asterismref8_ColOf _ _ ((F_asterismref8_ColOf_eq _ _ _ _ _).symm.trans (F_mono hc hl hh))
  · cases hh
noncomputable def E_path_Col : FnE := fun call lp args h => match args with
 | [x0, x1, x2] => F_path_Col call lp x0 x1 x2 h
 | _ => none
theorem G_path_Col : Good pg N_path_Col E_path_Col := by
  intro call lp args h r hc hl hh
  unfold E_path_Col at hh
  split at hh
  · rw [← F_path_Col_eq] at hh
    exact ic_path_Col _ _ _ ((F_path_Col_eq _ _ _ _ _ _).symm.trans (F_mono hc hl hh))
  · cases hh
noncomputable def E_bitmap_Map_Has : FnE := fun call lp args h => match args with
 | [x0, x1] => F_bitmap_Map_Has call lp x0 x1 h
 | _ => none
theorem G_bitmap_Map_Has : Good pg N_bitmap_Map_Has E_bitmap_Map_Has := by
  intro call lp args h r hc hl hh
  unfold E_bitmap_Map_Has at hh
  split at hh
  · rw [← F_bitmap_Map_Has_eq] at hh
    exact ic_bitmap_Map_Has _ _ ((F_bitmap_Map_Has_eq _ _ _ _ _).symm.trans (F_mono hc hl hh))
  · cases hh
noncomputable def E_schema_Schema_Col : FnE := fun call lp args h => match args with
 | [x0, x1, x2] => F_schema_Schema_Col call lp x0 x1 x2 h
 | _ => none
theorem G_schema_Schema_Col : Good pg N_schema_Schema_Col E_schema_Schema_Col := by
  intro call lp args h r hc hl hh
  unfold E_schema_Schema_Col at hh
  split at hh
  · rw [← F_schema_Schema_Col_eq] at hh
    exact ic_schema_Schema_Col _ _ _ ((F_schema_Schema_Col_eq _ _ _ _ _ _).symm.trans (F_mono hc hl hh))
  · cases hh
noncomputable def E_bitmap_Map_Count : FnE := fun call lp args h => match args with
 | [x0] => F_bitmap_Map_Count call lp x0 h
 | _ => none
theorem G_bitmap_Map_Count : Good pg N_bitmap_Map_Count E_bitmap_Map_Count := by
  intro call lp args h r hc hl hh
  unfold E_bitmap_Map_Count at hh
  split at hh
  · rw [← F_bitmap_Map_Count_eq] at hh
    exact ic_bitmap_Map_Count _ ((F_bitmap_Map_Count_eq _ _ _ _).symm.trans (F_mono hc hl hh))
  · cases hh
noncomputable def E_table_Table_Next : FnE := fun call lp args h => match args with
 | [x0] => F_table_Table_Next call lp x0 h
 | _ => none
theorem G_table_Table_Next : Good pg N_table_Table_Next E_table_Table_Next := by
  intro call lp args h r hc hl hh
  unfold E_table_Table_Next at hh
  split at hh
  · rw [← F_table_Table_Next_eq] at hh
    exact ic_table_Table_Next _ ((F_table_Table_Next_eq _ _ _ _).symm.trans (F_mono hc hl hh))
  · cases hh
noncomputable def E_table_Table_Row : FnE := fun call lp args h => match args with
 | [x0, x1] => F_table_Table_Row call lp x0 x1 h
 | _ => none
theorem G_table_Table_Row : Good pg N_table_Table_Row E_table_Table_Row := by
  intro call lp args h r hc hl hh
  unfold E_table_Table_Row at hh
  split at hh
  · rw [← F_table_Table_Row_eq] at hh
    exact ic_table_Table_Row _ _ ((F_table_Table_Row_eq _ _ _ _ _).symm.trans (F_mono hc hl hh))
  · cases hh
noncomputable def E_asterismlaw12_Begun : FnE := fun call lp args h => match args with
 | [] => F_asterismlaw12_Begun call lp  h
 | _ => none
theorem G_asterismlaw12_Begun : Good pg N_asterismlaw12_Begun E_asterismlaw12_Begun := by
  intro call lp args h r hc hl hh
  unfold E_asterismlaw12_Begun at hh
  split at hh
  · rw [← F_asterismlaw12_Begun_eq] at hh
    exact ic_asterismlaw12_Begun ((F_asterismlaw12_Begun_eq _ _ _).symm.trans (F_mono hc hl hh))
  · cases hh
noncomputable def E_batch_one : FnE := fun call lp args h => match args with
 | [x0, x1] => F_batch_one call lp x0 x1 h
 | _ => none
theorem G_batch_one : Good pg N_batch_one E_batch_one := by
  intro call lp args h r hc hl hh
  unfold E_batch_one at hh
  split at hh
  · rw [← F_batch_one_eq] at hh
    exact ic_batch_one _ _ ((F_batch_one_eq _ _ _ _ _).symm.trans (F_mono hc hl hh))
  · cases hh
noncomputable def E_asterismref12_DB_one : FnE := fun call lp args h => match args with
 | [x0, x1] => F_asterismref12_DB_one call lp x0 x1 h
 | _ => none
theorem G_asterismref12_DB_one : Good pg N_asterismref12_DB_one E_asterismref12_DB_one := by
  intro call lp args h r hc hl hh
  unfold E_asterismref12_DB_one at hh
  split at hh
  · rw [← F_asterismref12_DB_one_eq] at hh
    exact ic_asterismref12_DB_one _ _ ((F_asterismref12_DB_one_eq _ _ _ _ _).symm.trans (F_mono hc hl hh))
  · cases hh
noncomputable def E_schema_New : FnE := fun call lp args h => match args with
 | [] => F_schema_New call lp  h
 | _ => none
theorem G_schema_New : Good pg N_schema_New E_schema_New := by
  intro call lp args h r hc hl hh
  unfold E_schema_New at hh
  split at hh
  · rw [← F_schema_New_eq] at hh
    exact ic_schema_New ((F_schema_New_eq _ _ _).symm.trans (F_mono hc hl hh))
  · cases hh
noncomputable def E_table_Table_may : FnE := fun call lp args h => match args with
 | [x0, x1, x2] => F_table_Table_may call lp x0 x1 x2 h
 | _ => none
theorem G_table_Table_may : Good pg N_table_Table_may E_table_Table_may := by
  intro call lp args h r hc hl hh
  unfold E_table_Table_may at hh
  split at hh
  · rw [← F_table_Table_may_eq] at hh
    exact ic_table_Table_may _ _ _ ((F_table_Table_may_eq _ _ _ _ _ _).symm.trans (F_mono hc hl hh))
  · cases hh
noncomputable def E_column_Column_Append : FnE := fun call lp args h => match args with
 | [x0, x1] => F_column_Column_Append call lp x0 x1 h
 | _ => none
theorem G_column_Column_Append : Good pg N_column_Column_Append E_column_Column_Append := by
  intro call lp args h r hc hl hh
  unfold E_column_Column_Append at hh
  split at hh
  · rw [← F_column_Column_Append_eq] at hh
    exact ic_column_Column_Append _ _ ((F_column_Column_Append_eq _ _ _ _ _).symm.trans (F_mono hc hl hh))
  · cases hh
noncomputable def E_bitmap_Or : FnE := fun call lp args h => match args with
 | [x0, x1] => F_bitmap_Or call lp x0 x1 h
 | _ => none
theorem G_bitmap_Or : Good pg N_bitmap_Or E_bitmap_Or := by
  intro call lp args h r hc hl hh
  unfold E_bitmap_Or at hh
  split at hh
  · rw [← F_bitmap_Or_eq] at hh
    exact ic_bitmap_Or _ _ ((F_bitmap_Or_eq _ _ _ _ _).symm.trans (F_mono hc hl hh))
  · cases hh
noncomputable def E_bitmap_Of : FnE := fun call lp args h => match args with
 | [x0] => F_bitmap_Of call lp x0 h
 | _ => none
theorem G_bitmap_Of : Good pg N_bitmap_Of E_bitmap_Of := by
  intro call lp args h r hc hl hh
  unfold E_bitmap_Of at hh
  split at hh
  · rw [← F_bitmap_Of_eq] at hh
    exact ic_bitmap_Of _ ((F_bitmap_Of_eq _ _ _ _).symm.trans (F_mono hc hl hh))
  · cases hh
noncomputable def E_asterismlaw11_begun : FnE := fun call lp args h => match args with
 | [] => F_asterismlaw11_begun call lp  h
 | _ => none
theorem G_asterismlaw11_begun : Good pg N_asterismlaw11_begun E_asterismlaw11_begun := by
  intro call lp args h r hc hl hh
  unfold E_asterismlaw11_begun at hh
  split at hh
  · rw [← F_asterismlaw11_begun_eq] at hh
    exact ic_asterismlaw11_begun ((F_asterismlaw11_begun_eq _ _ _).symm.trans (F_mono hc hl hh))
  · cases hh
noncomputable def E_table_New : FnE := fun call lp args h => match args with
 | [x0] => F_table_New call lp x0 h
 | _ => none
theorem G_table_New : Good pg N_table_New E_table_New := by
  intro call lp args h r hc hl hh
  unfold E_table_New at hh
  split at hh
  · rw [← F_table_New_eq] at hh
    exact ic_table_New _ ((F_table_New_eq _ _ _ _).symm.trans (F_mono hc hl hh))
  · cases hh
noncomputable def E_asterismref8_Schema_May : FnE := fun call lp args h => match args with
 | [x0, x1] => F_asterismref8_Schema_May call lp x0 x1 h
 | _ => none
theorem G_asterismref8_Schema_May : Good pg N_asterismref8_Schema_May E_asterismref8_Schema_May := by
  intro call lp args h r hc hl hh
  unfold E_asterismref8_Schema_May at hh
  split at hh
  · rw [← F_asterismref8_Schema_May_eq] at hh
    exact ic_asterismref8_Schema_May _ _ ((F_asterismref8_Schema_May_eq _ _ _ _ _).symm.trans (F_mono hc hl hh))
  · cases hh
noncomputable def E_asterismref8_Form : FnE := fun call lp args h => match args with
 | [x0] => F_asterismref8_Form call lp x0 h
 | _ => none
theorem G_asterismref8_Form : Good pg N_asterismref8_Form E_asterismref8_Form := by
  intro call lp args h r hc hl hh
  unfold E_asterismref8_Form at hh
  split at hh
  · rw [← F_asterismref8_Form_eq] at hh
    exact ic_asterismref8_Form _ ((F_asterismref8_Form_eq _ _ _ _).symm.trans (F_mono hc hl hh))
  · cases hh
noncomputable def E_bitmap_Without : FnE := fun call lp args h => match args with
 | [x0, x1] => F_bitmap_Without call lp x0 x1 h
 | _ => none
theorem G_bitmap_Without : Good pg N_bitmap_Without E_bitmap_Without := by
  intro call lp args h r hc hl hh
  unfold E_bitmap_Without at hh
  split at hh
  · rw [← F_bitmap_Without_eq] at hh
    exact ic_bitmap_Without _ _ ((F_bitmap_Without_eq _ _ _ _ _).symm.trans (F_mono hc hl hh))
  · cases hh
noncomputable def E_column_Column_Set : FnE := fun call lp args h => match args with
 | [x0, x1, x2] => F_column_Column_Set call lp x0 x1 x2 h
 | _ => none
theorem G_column_Column_Set : Good pg N_column_Column_Set E_column_Column_Set := by
  intro call lp args h r hc hl hh
  unfold E_column_Column_Set at hh
  split at hh
  · rw [← F_column_Column_Set_eq] at hh
    exact ic_column_Column_Set _ _ _ ((F_column_Column_Set_eq _ _ _ _ _ _).symm.trans (F_mono hc hl hh))
  · cases hh
noncomputable def E_table_Table_col : FnE := fun call lp args h => match args with
 | [x0, x1] => F_table_Table_col call lp x0 x1 h
 | _ => none
theorem G_table_Table_col : Good pg N_table_Table_col E_table_Table_col := by
  intro call lp args h r hc hl hh
  unfold E_table_Table_col at hh
  split at hh
  · rw [← F_table_Table_col_eq] at hh
    exact ic_table_Table_col _ _ ((F_table_Table_col_eq _ _ _ _ _).symm.trans (F_mono hc hl hh))
  · cases hh
noncomputable def E_slices_IndexFunc_api_Table_api_Table : FnE := fun call lp args h => match args with
 | [x0, x1] => F_slices_IndexFunc_api_Table_api_Table call lp x0 x1 h
 | _ => none
theorem G_slices_IndexFunc_api_Table_api_Table : Good pg N_slices_IndexFunc_api_Table_api_Table E_slices_IndexFunc_api_Table_api_Table := by
  intro call lp args h r hc hl hh
  unfold E_slices_IndexFunc_api_Table_api_Table at hh
  split at hh
  · rw [← F_slices_IndexFunc_api_Table_api_Table_eq] at hh
    exact ic_slices_IndexFunc_api_Table_api_Table _ _ ((F_slices_IndexFunc_api_Table_api_Table_eq _ _ _ _ _).symm.trans (F_mono hc hl hh))
  · cases hh
noncomputable def E_schema_Schema_Find_1 : FnE := fun call lp args h => match args with
 | [x0, x1] => F_schema_Schema_Find_1 call lp x0 x1 h
 | _ => none
theorem G_schema_Schema_Find_1 : Good pg N_schema_Schema_Find_1 E_schema_Schema_Find_1 := by
  intro call lp args h r hc hl hh
  unfold E_schema_Schema_Find_1 at hh
  split at hh
  · rw [← F_schema_Schema_Find_1_eq] at hh
    exact ic_schema_Schema_Find_1 _ _ ((F_schema_Schema_Find_1_eq _ _ _ _ _).symm.trans (F_mono hc hl hh))
  · cases hh
noncomputable def E_schema_copied : FnE := fun call lp args h => match args with
 | [x0] => F_schema_copied call lp x0 h
 | _ => none
theorem G_schema_copied : Good pg N_schema_copied E_schema_copied := by
  intro call lp args h r hc hl hh
  unfold E_schema_copied at hh
  split at hh
  · rw [← F_schema_copied_eq] at hh
    exact ic_schema_copied _ ((F_schema_copied_eq _ _ _ _).symm.trans (F_mono hc hl hh))
  · cases hh
noncomputable def E_schema_Schema_named : FnE := fun call lp args h => match args with
 | [x0, x1] => F_schema_Schema_named call lp x0 x1 h
 | _ => none
theorem G_schema_Schema_named : Good pg N_schema_Schema_named E_schema_Schema_named := by
  intro call lp args h r hc hl hh
  unfold E_schema_Schema_named at hh
  split at hh
  · rw [← F_schema_Schema_named_eq] at hh
    exact ic_schema_Schema_named _ _ ((F_schema_Schema_named_eq _ _ _ _ _).symm.trans (F_mono hc hl hh))
  · cases hh
noncomputable def E_slices_ContainsFunc_api_Col_api_Col : FnE := fun call lp args h => match args with
 | [x0, x1] => F_slices_ContainsFunc_api_Col_api_Col call lp x0 x1 h
 | _ => none
theorem G_slices_ContainsFunc_api_Col_api_Col : Good pg N_slices_ContainsFunc_api_Col_api_Col E_slices_ContainsFunc_api_Col_api_Col := by
  intro call lp args h r hc hl hh
  unfold E_slices_ContainsFunc_api_Col_api_Col at hh
  split at hh
  · rw [← F_slices_ContainsFunc_api_Col_api_Col_eq] at hh
    exact ic_slices_ContainsFunc_api_Col_api_Col _ _ ((F_slices_ContainsFunc_api_Col_api_Col_eq _ _ _ _ _).symm.trans (F_mono hc hl hh))
  · cases hh
noncomputable def E_schema_Schema_Add_1 : FnE := fun call lp args h => match args with
 | [x0] => F_schema_Schema_Add_1 call lp x0 h
 | _ => none
theorem G_schema_Schema_Add_1 : Good pg N_schema_Schema_Add_1 E_schema_Schema_Add_1 := by
  intro call lp args h r hc hl hh
  unfold E_schema_Schema_Add_1 at hh
  split at hh
  · rw [← F_schema_Schema_Add_1_eq] at hh
    exact ic_schema_Schema_Add_1 _ ((F_schema_Schema_Add_1_eq _ _ _ _).symm.trans (F_mono hc hl hh))
  · cases hh
noncomputable def E_schema_Schema_refs : FnE := fun call lp args h => match args with
 | [x0, x1] => F_schema_Schema_refs call lp x0 x1 h
 | _ => none
theorem G_schema_Schema_refs : Good pg N_schema_Schema_refs E_schema_Schema_refs := by
  intro call lp args h r hc hl hh
  unfold E_schema_Schema_refs at hh
  split at hh
  · rw [← F_schema_Schema_refs_eq] at hh
    exact ic_schema_Schema_refs _ _ ((F_schema_Schema_refs_eq _ _ _ _ _).symm.trans (F_mono hc hl hh))
  · cases hh
noncomputable def E_schema_col : FnE := fun call lp args h => match args with
 | [x0, x1] => F_schema_col call lp x0 x1 h
 | _ => none
theorem G_schema_col : Good pg N_schema_col E_schema_col := by
  intro call lp args h r hc hl hh
  unfold E_schema_col at hh
  split at hh
  · rw [← F_schema_col_eq] at hh
    exact ic_schema_col _ _ ((F_schema_col_eq _ _ _ _ _).symm.trans (F_mono hc hl hh))
  · cases hh
noncomputable def E_column_Column_Len : FnE := fun call lp args h => match args with
 | [x0] => F_column_Column_Len call lp x0 h
 | _ => none
theorem G_column_Column_Len : Good pg N_column_Column_Len E_column_Column_Len := by
  intro call lp args h r hc hl hh
  unfold E_column_Column_Len at hh
  split at hh
  · rw [← F_column_Column_Len_eq] at hh
    exact ic_column_Column_Len _ ((F_column_Column_Len_eq _ _ _ _).symm.trans (F_mono hc hl hh))
  · cases hh
noncomputable def E_column_Column_At : FnE := fun call lp args h => match args with
 | [x0, x1] => F_column_Column_At call lp x0 x1 h
 | _ => none
theorem G_column_Column_At : Good pg N_column_Column_At E_column_Column_At := by
  intro call lp args h r hc hl hh
  unfold E_column_Column_At at hh
  split at hh
  · rw [← F_column_Column_At_eq] at hh
    exact ic_column_Column_At _ _ ((F_column_Column_At_eq _ _ _ _ _).symm.trans (F_mono hc hl hh))
  · cases hh
noncomputable def E_slices_Clone_api_Col_api_Col : FnE := fun call lp args h => match args with
 | [x0] => F_slices_Clone_api_Col_api_Col call lp x0 h
 | _ => none
theorem G_slices_Clone_api_Col_api_Col : Good pg N_slices_Clone_api_Col_api_Col E_slices_Clone_api_Col_api_Col := by
  intro call lp args h r hc hl hh
  unfold E_slices_Clone_api_Col_api_Col at hh
  split at hh
  · rw [← F_slices_Clone_api_Col_api_Col_eq] at hh
    exact ic_slices_Clone_api_Col_api_Col _ ((F_slices_Clone_api_Col_api_Col_eq _ _ _ _).symm.trans (F_mono hc hl hh))
  · cases hh
noncomputable def E_slices_Clone_api_Dep_api_Dep : FnE := fun call lp args h => match args with
 | [x0] => F_slices_Clone_api_Dep_api_Dep call lp x0 h
 | _ => none
theorem G_slices_Clone_api_Dep_api_Dep : Good pg N_slices_Clone_api_Dep_api_Dep E_slices_Clone_api_Dep_api_Dep := by
  intro call lp args h r hc hl hh
  unfold E_slices_Clone_api_Dep_api_Dep at hh
  split at hh
  · rw [← F_slices_Clone_api_Dep_api_Dep_eq] at hh
    exact ic_slices_Clone_api_Dep_api_Dep _ ((F_slices_Clone_api_Dep_api_Dep_eq _ _ _ _).symm.trans (F_mono hc hl hh))
  · cases hh
noncomputable def E_slices_Clone_string_string : FnE := fun call lp args h => match args with
 | [x0] => F_slices_Clone_string_string call lp x0 h
 | _ => none
theorem G_slices_Clone_string_string : Good pg N_slices_Clone_string_string E_slices_Clone_string_string := by
  intro call lp args h r hc hl hh
  unfold E_slices_Clone_string_string at hh
  split at hh
  · rw [← F_slices_Clone_string_string_eq] at hh
    exact ic_slices_Clone_string_string _ ((F_slices_Clone_string_string_eq _ _ _ _).symm.trans (F_mono hc hl hh))
  · cases hh
noncomputable def E_bitmap_Map_All_1 : FnE := fun call lp args h => match args with
 | [x0, x1] => F_bitmap_Map_All_1 call lp x0 x1 h
 | _ => none
theorem G_bitmap_Map_All_1 : Good pg N_bitmap_Map_All_1 E_bitmap_Map_All_1 := by
  intro call lp args h r hc hl hh
  unfold E_bitmap_Map_All_1 at hh
  split at hh
  · rw [← F_bitmap_Map_All_1_eq] at hh
    exact ic_bitmap_Map_All_1 _ _ ((F_bitmap_Map_All_1_eq _ _ _ _ _).symm.trans (F_mono hc hl hh))
  · cases hh
noncomputable def E_val_Compare : FnE := fun call lp args h => match args with
 | [x0, x1] => F_val_Compare call lp x0 x1 h
 | _ => none
theorem G_val_Compare : Good pg N_val_Compare E_val_Compare := by
  intro call lp args h r hc hl hh
  unfold E_val_Compare at hh
  split at hh
  · rw [← F_val_Compare_eq] at hh
    exact ic_val_Compare _ _ ((F_val_Compare_eq _ _ _ _ _).symm.trans (F_mono hc hl hh))
  · cases hh
noncomputable def E_slices_ContainsFunc_2_int_2_int : FnE := fun call lp args h => match args with
 | [x0, x1] => F_slices_ContainsFunc_2_int_2_int call lp x0 x1 h
 | _ => none
theorem G_slices_ContainsFunc_2_int_2_int : Good pg N_slices_ContainsFunc_2_int_2_int E_slices_ContainsFunc_2_int_2_int := by
  intro call lp args h r hc hl hh
  unfold E_slices_ContainsFunc_2_int_2_int at hh
  split at hh
  · rw [← F_slices_ContainsFunc_2_int_2_int_eq] at hh
    exact ic_slices_ContainsFunc_2_int_2_int _ _ ((F_slices_ContainsFunc_2_int_2_int_eq _ _ _ _ _).symm.trans (F_mono hc hl hh))
  · cases hh
noncomputable def E_bitmap_Map_Has_1 : FnE := fun call lp args h => match args with
 | [x0, x1] => F_bitmap_Map_Has_1 call lp x0 x1 h
 | _ => none
theorem G_bitmap_Map_Has_1 : Good pg N_bitmap_Map_Has_1 E_bitmap_Map_Has_1 := by
  intro call lp args h r hc hl hh
  unfold E_bitmap_Map_Has_1 at hh
  split at hh
  · rw [← F_bitmap_Map_Has_1_eq] at hh
    exact ic_bitmap_Map_Has_1 _ _ ((F_bitmap_Map_Has_1_eq _ _ _ _ _).symm.trans (F_mono hc hl hh))
  · cases hh
noncomputable def E_bitmap_Map_Rank : FnE := fun call lp args h => match args with
 | [x0, x1] => F_bitmap_Map_Rank call lp x0 x1 h
 | _ => none
theorem G_bitmap_Map_Rank : Good pg N_bitmap_Map_Rank E_bitmap_Map_Rank := by
  intro call lp args h r hc hl hh
  unfold E_bitmap_Map_Rank at hh
  split at hh
  · rw [← F_bitmap_Map_Rank_eq] at hh
    exact ic_bitmap_Map_Rank _ _ ((F_bitmap_Map_Rank_eq _ _ _ _ _).symm.trans (F_mono hc hl hh))
  · cases hh
noncomputable def E_val_May : FnE := fun call lp args h => match args with
 | [x0] => F_val_May call lp x0 h
 | _ => none
theorem G_val_May : Good pg N_val_May E_val_May := by
  intro call lp args h r hc hl hh
  unfold E_val_May at hh
  split at hh
  · rw [← F_val_May_eq] at hh
    exact ic_val_May _ ((F_val_May_eq _ _ _ _).symm.trans (F_mono hc hl hh))
  · cases hh
noncomputable def E_column_Column_may : FnE := fun call lp args h => match args with
 | [x0, x1] => F_column_Column_may call lp x0 x1 h
 | _ => none
theorem G_column_Column_may : Good pg N_column_Column_may E_column_Column_may := by
  intro call lp args h r hc hl hh
  unfold E_column_Column_may at hh
  split at hh
  · rw [← F_column_Column_may_eq] at hh
    exact ic_column_Column_may _ _ ((F_column_Column_may_eq _ _ _ _ _).symm.trans (F_mono hc hl hh))
  · cases hh
noncomputable def E_column_Column_count : FnE := fun call lp args h => match args with
 | [x0, x1] => F_column_Column_count call lp x0 x1 h
 | _ => none
theorem G_column_Column_count : Good pg N_column_Column_count E_column_Column_count := by
  intro call lp args h r hc hl hh
  unfold E_column_Column_count at hh
  split at hh
  · rw [← F_column_Column_count_eq] at hh
    exact ic_column_Column_count _ _ ((F_column_Column_count_eq _ _ _ _ _).symm.trans (F_mono hc hl hh))
  · cases hh
noncomputable def E_slices_Concat_2_int_2_int : FnE := fun call lp args h => match args with
 | [x0] => F_slices_Concat_2_int_2_int call lp x0 h
 | _ => none
theorem G_slices_Concat_2_int_2_int : Good pg N_slices_Concat_2_int_2_int E_slices_Concat_2_int_2_int := by
  intro call lp args h r hc hl hh
  unfold E_slices_Concat_2_int_2_int at hh
  split at hh
  · rw [← F_slices_Concat_2_int_2_int_eq] at hh
    exact ic_slices_Concat_2_int_2_int _ ((F_slices_Concat_2_int_2_int_eq _ _ _ _).symm.trans (F_mono hc hl hh))
  · cases hh
noncomputable def E_slices_SortFunc_2_int_2_int : FnE := fun call lp args h => match args with
 | [x0, x1] => F_slices_SortFunc_2_int_2_int call lp x0 x1 h
 | _ => none
theorem G_slices_SortFunc_2_int_2_int : Good pg N_slices_SortFunc_2_int_2_int E_slices_SortFunc_2_int_2_int := by
  intro call lp args h r hc hl hh
  unfold E_slices_SortFunc_2_int_2_int at hh
  split at hh
  · rw [← F_slices_SortFunc_2_int_2_int_eq] at hh
    exact ic_slices_SortFunc_2_int_2_int _ _ ((F_slices_SortFunc_2_int_2_int_eq _ _ _ _ _).symm.trans (F_mono hc hl hh))
  · cases hh
noncomputable def E_bitmap_Or_1 : FnE := fun call lp args h => match args with
 | [x0, x1] => F_bitmap_Or_1 call lp x0 x1 h
 | _ => none
theorem G_bitmap_Or_1 : Good pg N_bitmap_Or_1 E_bitmap_Or_1 := by
  intro call lp args h r hc hl hh
  unfold E_bitmap_Or_1 at hh
  split at hh
  · rw [← F_bitmap_Or_1_eq] at hh
    exact ic_bitmap_Or_1 _ _ ((F_bitmap_Or_1_eq _ _ _ _ _).symm.trans (F_mono hc hl hh))
  · cases hh
noncomputable def E_bitmap_Map_add : FnE := fun call lp args h => match args with
 | [x0, x1, x2] => F_bitmap_Map_add call lp x0 x1 x2 h
 | _ => none
theorem G_bitmap_Map_add : Good pg N_bitmap_Map_add E_bitmap_Map_add := by
  intro call lp args h r hc hl hh
  unfold E_bitmap_Map_add at hh
  split at hh
  · rw [← F_bitmap_Map_add_eq] at hh
    exact ic_bitmap_Map_add _ _ _ ((F_bitmap_Map_add_eq _ _ _ _ _ _).symm.trans (F_mono hc hl hh))
  · cases hh
noncomputable def E_slices_Clone_int_int : FnE := fun call lp args h => match args with
 | [x0] => F_slices_Clone_int_int call lp x0 h
 | _ => none
theorem G_slices_Clone_int_int : Good pg N_slices_Clone_int_int E_slices_Clone_int_int := by
  intro call lp args h r hc hl hh
  unfold E_slices_Clone_int_int at hh
  split at hh
  · rw [← F_slices_Clone_int_int_eq] at hh
    exact ic_slices_Clone_int_int _ ((F_slices_Clone_int_int_eq _ _ _ _).symm.trans (F_mono hc hl hh))
  · cases hh
noncomputable def E_slices_Sort_int_int : FnE := fun call lp args h => match args with
 | [x0] => F_slices_Sort_int_int call lp x0 h
 | _ => none
theorem G_slices_Sort_int_int : Good pg N_slices_Sort_int_int E_slices_Sort_int_int := by
  intro call lp args h r hc hl hh
  unfold E_slices_Sort_int_int at hh
  split at hh
  · rw [← F_slices_Sort_int_int_eq] at hh
    exact ic_slices_Sort_int_int _ ((F_slices_Sort_int_int_eq _ _ _ _).symm.trans (F_mono hc hl hh))
  · cases hh
noncomputable def E_asterismlaw11_shop : FnE := fun call lp args h => match args with
 | [] => F_asterismlaw11_shop call lp  h
 | _ => none
theorem G_asterismlaw11_shop : Good pg N_asterismlaw11_shop E_asterismlaw11_shop := by
  intro call lp args h r hc hl hh
  unfold E_asterismlaw11_shop at hh
  split at hh
  · rw [← F_asterismlaw11_shop_eq] at hh
    exact ic_asterismlaw11_shop ((F_asterismlaw11_shop_eq _ _ _).symm.trans (F_mono hc hl hh))
  · cases hh
noncomputable def E_asterismlaw11_row : FnE := fun call lp args h => match args with
 | [x0, x1] => F_asterismlaw11_row call lp x0 x1 h
 | _ => none
theorem G_asterismlaw11_row : Good pg N_asterismlaw11_row E_asterismlaw11_row := by
  intro call lp args h r hc hl hh
  unfold E_asterismlaw11_row at hh
  split at hh
  · rw [← F_asterismlaw11_row_eq] at hh
    exact ic_asterismlaw11_row _ _ ((F_asterismlaw11_row_eq _ _ _ _ _).symm.trans (F_mono hc hl hh))
  · cases hh
noncomputable def E_table_Table_Words : FnE := fun call lp args h => match args with
 | [x0, x1] => F_table_Table_Words call lp x0 x1 h
 | _ => none
theorem G_table_Table_Words : Good pg N_table_Table_Words E_table_Table_Words := by
  intro call lp args h r hc hl hh
  unfold E_table_Table_Words at hh
  split at hh
  · rw [← F_table_Table_Words_eq] at hh
    exact ic_table_Table_Words _ _ ((F_table_Table_Words_eq _ _ _ _ _).symm.trans (F_mono hc hl hh))
  · cases hh
noncomputable def E_column_New : FnE := fun call lp args h => match args with
 | [x0] => F_column_New call lp x0 h
 | _ => none
theorem G_column_New : Good pg N_column_New E_column_New := by
  intro call lp args h r hc hl hh
  unfold E_column_New at hh
  split at hh
  · rw [← F_column_New_eq] at hh
    exact ic_column_New _ ((F_column_New_eq _ _ _ _).symm.trans (F_mono hc hl hh))
  · cases hh
noncomputable def E_asterismref8_names : FnE := fun call lp args h => match args with
 | [x0, x1] => F_asterismref8_names call lp x0 x1 h
 | _ => none
theorem G_asterismref8_names : Good pg N_asterismref8_names E_asterismref8_names := by
  intro call lp args h r hc hl hh
  unfold E_asterismref8_names at hh
  split at hh
  · rw [← F_asterismref8_names_eq] at hh
    exact ic_asterismref8_names _ _ ((F_asterismref8_names_eq _ _ _ _ _).symm.trans (F_mono hc hl hh))
  · cases hh
noncomputable def E_bitmap_And : FnE := fun call lp args h => match args with
 | [x0, x1] => F_bitmap_And call lp x0 x1 h
 | _ => none
theorem G_bitmap_And : Good pg N_bitmap_And E_bitmap_And := by
  intro call lp args h r hc hl hh
  unfold E_bitmap_And at hh
  split at hh
  · rw [← F_bitmap_And_eq] at hh
    exact ic_bitmap_And _ _ ((F_bitmap_And_eq _ _ _ _ _).symm.trans (F_mono hc hl hh))
  · cases hh
noncomputable def E_bitmap_Not : FnE := fun call lp args h => match args with
 | [x0, x1] => F_bitmap_Not call lp x0 x1 h
 | _ => none
theorem G_bitmap_Not : Good pg N_bitmap_Not E_bitmap_Not := by
  intro call lp args h r hc hl hh
  unfold E_bitmap_Not at hh
  split at hh
  · rw [← F_bitmap_Not_eq] at hh
    exact ic_bitmap_Not _ _ ((F_bitmap_Not_eq _ _ _ _ _).symm.trans (F_mono hc hl hh))
  · cases hh
noncomputable def E_dict_Dict_Take : FnE := fun call lp args h => match args with
 | [x0, x1] => F_dict_Dict_Take call lp x0 x1 h
 | _ => none
theorem G_dict_Dict_Take : Good pg N_dict_Dict_Take E_dict_Dict_Take := by
  intro call lp args h r hc hl hh
  unfold E_dict_Dict_Take at hh
  split at hh
  · rw [← F_dict_Dict_Take_eq] at hh
    exact ic_dict_Dict_Take _ _ ((F_dict_Dict_Take_eq _ _ _ _ _).symm.trans (F_mono hc hl hh))
  · cases hh
noncomputable def E_slices_IndexFunc_api_Col_api_Col : FnE := fun call lp args h => match args with
 | [x0, x1] => F_slices_IndexFunc_api_Col_api_Col call lp x0 x1 h
 | _ => none
theorem G_slices_IndexFunc_api_Col_api_Col : Good pg N_slices_IndexFunc_api_Col_api_Col E_slices_IndexFunc_api_Col_api_Col := by
  intro call lp args h r hc hl hh
  unfold E_slices_IndexFunc_api_Col_api_Col at hh
  split at hh
  · rw [← F_slices_IndexFunc_api_Col_api_Col_eq] at hh
    exact ic_slices_IndexFunc_api_Col_api_Col _ _ ((F_slices_IndexFunc_api_Col_api_Col_eq _ _ _ _ _).symm.trans (F_mono hc hl hh))
  · cases hh
noncomputable def E_table_Table_col_1 : FnE := fun call lp args h => match args with
 | [x0, x1] => F_table_Table_col_1 call lp x0 x1 h
 | _ => none
theorem G_table_Table_col_1 : Good pg N_table_Table_col_1 E_table_Table_col_1 := by
  intro call lp args h r hc hl hh
  unfold E_table_Table_col_1 at hh
  split at hh
  · rw [← F_table_Table_col_1_eq] at hh
    exact ic_table_Table_col_1 _ _ ((F_table_Table_col_1_eq _ _ _ _ _).symm.trans (F_mono hc hl hh))
  · cases hh
noncomputable def E_val_Name : FnE := fun call lp args h => match args with
 | [x0] => F_val_Name call lp x0 h
 | _ => none
theorem G_val_Name : Good pg N_val_Name E_val_Name := by
  intro call lp args h r hc hl hh
  unfold E_val_Name at hh
  split at hh
  · rw [← F_val_Name_eq] at hh
    exact ic_val_Name _ ((F_val_Name_eq _ _ _ _).symm.trans (F_mono hc hl hh))
  · cases hh
noncomputable def E_schema_twice : FnE := fun call lp args h => match args with
 | [x0] => F_schema_twice call lp x0 h
 | _ => none
theorem G_schema_twice : Good pg N_schema_twice E_schema_twice := by
  intro call lp args h r hc hl hh
  unfold E_schema_twice at hh
  split at hh
  · rw [← F_schema_twice_eq] at hh
    exact ic_schema_twice _ ((F_schema_twice_eq _ _ _ _).symm.trans (F_mono hc hl hh))
  · cases hh
noncomputable def E_slices_ContainsFunc_api_Dep_api_Dep : FnE := fun call lp args h => match args with
 | [x0, x1] => F_slices_ContainsFunc_api_Dep_api_Dep call lp x0 x1 h
 | _ => none
theorem G_slices_ContainsFunc_api_Dep_api_Dep : Good pg N_slices_ContainsFunc_api_Dep_api_Dep E_slices_ContainsFunc_api_Dep_api_Dep := by
  intro call lp args h r hc hl hh
  unfold E_slices_ContainsFunc_api_Dep_api_Dep at hh
  split at hh
  · rw [← F_slices_ContainsFunc_api_Dep_api_Dep_eq] at hh
    exact ic_slices_ContainsFunc_api_Dep_api_Dep _ _ ((F_slices_ContainsFunc_api_Dep_api_Dep_eq _ _ _ _ _).symm.trans (F_mono hc hl hh))
  · cases hh
noncomputable def E_schema_Schema_named_1 : FnE := fun call lp args h => match args with
 | [x0, x1] => F_schema_Schema_named_1 call lp x0 x1 h
 | _ => none
theorem G_schema_Schema_named_1 : Good pg N_schema_Schema_named_1 E_schema_Schema_named_1 := by
  intro call lp args h r hc hl hh
  unfold E_schema_Schema_named_1 at hh
  split at hh
  · rw [← F_schema_Schema_named_1_eq] at hh
    exact ic_schema_Schema_named_1 _ _ ((F_schema_Schema_named_1_eq _ _ _ _ _).symm.trans (F_mono hc hl hh))
  · cases hh
noncomputable def E_schema_dep : FnE := fun call lp args h => match args with
 | [x0, x1] => F_schema_dep call lp x0 x1 h
 | _ => none
theorem G_schema_dep : Good pg N_schema_dep E_schema_dep := by
  intro call lp args h r hc hl hh
  unfold E_schema_dep at hh
  split at hh
  · rw [← F_schema_dep_eq] at hh
    exact ic_schema_dep _ _ ((F_schema_dep_eq _ _ _ _ _).symm.trans (F_mono hc hl hh))
  · cases hh
noncomputable def E_schema_col_1 : FnE := fun call lp args h => match args with
 | [x0, x1] => F_schema_col_1 call lp x0 x1 h
 | _ => none
theorem G_schema_col_1 : Good pg N_schema_col_1 E_schema_col_1 := by
  intro call lp args h r hc hl hh
  unfold E_schema_col_1 at hh
  split at hh
  · rw [← F_schema_col_1_eq] at hh
    exact ic_schema_col_1 _ _ ((F_schema_col_1_eq _ _ _ _ _).symm.trans (F_mono hc hl hh))
  · cases hh
noncomputable def E_cmp_Or_int : FnE := fun call lp args h => match args with
 | [x0] => F_cmp_Or_int call lp x0 h
 | _ => none
theorem G_cmp_Or_int : Good pg N_cmp_Or_int E_cmp_Or_int := by
  intro call lp args h r hc hl hh
  unfold E_cmp_Or_int at hh
  split at hh
  · rw [← F_cmp_Or_int_eq] at hh
    exact ic_cmp_Or_int _ ((F_cmp_Or_int_eq _ _ _ _).symm.trans (F_mono hc hl hh))
  · cases hh
noncomputable def E_cmp_Compare_int : FnE := fun call lp args h => match args with
 | [x0, x1] => F_cmp_Compare_int call lp x0 x1 h
 | _ => none
theorem G_cmp_Compare_int : Good pg N_cmp_Compare_int E_cmp_Compare_int := by
  intro call lp args h r hc hl hh
  unfold E_cmp_Compare_int at hh
  split at hh
  · rw [← F_cmp_Compare_int_eq] at hh
    exact ic_cmp_Compare_int _ _ ((F_cmp_Compare_int_eq _ _ _ _ _).symm.trans (F_mono hc hl hh))
  · cases hh
noncomputable def E_cmp_Compare_int64 : FnE := fun call lp args h => match args with
 | [x0, x1] => F_cmp_Compare_int64 call lp x0 x1 h
 | _ => none
theorem G_cmp_Compare_int64 : Good pg N_cmp_Compare_int64 E_cmp_Compare_int64 := by
  intro call lp args h r hc hl hh
  unfold E_cmp_Compare_int64 at hh
  split at hh
  · rw [← F_cmp_Compare_int64_eq] at hh
    exact ic_cmp_Compare_int64 _ _ ((F_cmp_Compare_int64_eq _ _ _ _ _).symm.trans (F_mono hc hl hh))
  · cases hh
noncomputable def E_cmp_Compare_string : FnE := fun call lp args h => match args with
 | [x0, x1] => F_cmp_Compare_string call lp x0 x1 h
 | _ => none
theorem G_cmp_Compare_string : Good pg N_cmp_Compare_string E_cmp_Compare_string := by
  intro call lp args h r hc hl hh
  unfold E_cmp_Compare_string at hh
  split at hh
  · rw [← F_cmp_Compare_string_eq] at hh
    exact ic_cmp_Compare_string _ _ ((F_cmp_Compare_string_eq _ _ _ _ _).symm.trans (F_mono hc hl hh))
  · cases hh
noncomputable def E_slices_IndexFunc_2_int_2_int : FnE := fun call lp args h => match args with
 | [x0, x1] => F_slices_IndexFunc_2_int_2_int call lp x0 x1 h
 | _ => none
theorem G_slices_IndexFunc_2_int_2_int : Good pg N_slices_IndexFunc_2_int_2_int E_slices_IndexFunc_2_int_2_int := by
  intro call lp args h r hc hl hh
  unfold E_slices_IndexFunc_2_int_2_int at hh
  split at hh
  · rw [← F_slices_IndexFunc_2_int_2_int_eq] at hh
    exact ic_slices_IndexFunc_2_int_2_int _ _ ((F_slices_IndexFunc_2_int_2_int_eq _ _ _ _ _).symm.trans (F_mono hc hl hh))
  · cases hh
noncomputable def E_val_text : FnE := fun call lp args h => match args with
 | [x0] => F_val_text call lp x0 h
 | _ => none
theorem G_val_text : Good pg N_val_text E_val_text := by
  intro call lp args h r hc hl hh
  unfold E_val_text at hh
  split at hh
  · rw [← F_val_text_eq] at hh
    exact ic_val_text _ ((F_val_text_eq _ _ _ _).symm.trans (F_mono hc hl hh))
  · cases hh
noncomputable def E_dict_Dict_Add : FnE := fun call lp args h => match args with
 | [x0, x1] => F_dict_Dict_Add call lp x0 x1 h
 | _ => none
theorem G_dict_Dict_Add : Good pg N_dict_Dict_Add E_dict_Dict_Add := by
  intro call lp args h r hc hl hh
  unfold E_dict_Dict_Add at hh
  split at hh
  · rw [← F_dict_Dict_Add_eq] at hh
    exact ic_dict_Dict_Add _ _ ((F_dict_Dict_Add_eq _ _ _ _ _).symm.trans (F_mono hc hl hh))
  · cases hh
noncomputable def E_slices_Grow_2_int_2_int : FnE := fun call lp args h => match args with
 | [x0, x1] => F_slices_Grow_2_int_2_int call lp x0 x1 h
 | _ => none
theorem G_slices_Grow_2_int_2_int : Good pg N_slices_Grow_2_int_2_int E_slices_Grow_2_int_2_int := by
  intro call lp args h r hc hl hh
  unfold E_slices_Grow_2_int_2_int at hh
  split at hh
  · rw [← F_slices_Grow_2_int_2_int_eq] at hh
    exact ic_slices_Grow_2_int_2_int _ _ ((F_slices_Grow_2_int_2_int_eq _ _ _ _ _).symm.trans (F_mono hc hl hh))
  · cases hh
noncomputable def E_slices_pdqsortCmpFunc_2_int : FnE := fun call lp args h => match args with
 | [x0, x1, x2, x3, x4] => F_slices_pdqsortCmpFunc_2_int call lp x0 x1 x2 x3 x4 h
 | _ => none
theorem G_slices_pdqsortCmpFunc_2_int : Good pg N_slices_pdqsortCmpFunc_2_int E_slices_pdqsortCmpFunc_2_int := by
  intro call lp args h r hc hl hh
  unfold E_slices_pdqsortCmpFunc_2_int at hh
  split at hh
  · rw [← F_slices_pdqsortCmpFunc_2_int_eq] at hh
    exact ic_slices_pdqsortCmpFunc_2_int _ _ _ _ _ ((F_slices_pdqsortCmpFunc_2_int_eq _ _ _ _ _ _ _ _).symm.trans (F_mono hc hl hh))
  · cases hh
noncomputable def E_math_bits_Len : FnE := fun call lp args h => match args with
 | [x0] => F_math_bits_Len call lp x0 h
 | _ => none
theorem G_math_bits_Len : Good pg N_math_bits_Len E_math_bits_Len := by
  intro call lp args h r hc hl hh
  unfold E_math_bits_Len at hh
  split at hh
  · rw [← F_math_bits_Len_eq] at hh
    exact ic_math_bits_Len _ ((F_math_bits_Len_eq _ _ _ _).symm.trans (F_mono hc hl hh))
  · cases hh
noncomputable def E_slices_pdqsortOrdered_int : FnE := fun call lp args h => match args with
 | [x0, x1, x2, x3] => F_slices_pdqsortOrdered_int call lp x0 x1 x2 x3 h
 | _ => none
theorem G_slices_pdqsortOrdered_int : Good pg N_slices_pdqsortOrdered_int E_slices_pdqsortOrdered_int := by
  intro call lp args h r hc hl hh
  unfold E_slices_pdqsortOrdered_int at hh
  split at hh
  · rw [← F_slices_pdqsortOrdered_int_eq] at hh
    exact ic_slices_pdqsortOrdered_int _ _ _ _ ((F_slices_pdqsortOrdered_int_eq _ _ _ _ _ _ _).symm.trans (F_mono hc hl hh))
  · cases hh
noncomputable def E_column_Column_Words : FnE := fun call lp args h => match args with
 | [x0] => F_column_Column_Words call lp x0 h
 | _ => none
theorem G_column_Column_Words : Good pg N_column_Column_Words E_column_Column_Words := by
  intro call lp args h r hc hl hh
  unfold E_column_Column_Words at hh
  split at hh
  · rw [← F_column_Column_Words_eq] at hh
    exact ic_column_Column_Words _ ((F_column_Column_Words_eq _ _ _ _).symm.trans (F_mono hc hl hh))
  · cases hh
noncomputable def E_asterismref1_Name : FnE := fun call lp args h => match args with
 | [x0] => F_asterismref1_Name call lp x0 h
 | _ => none
theorem G_asterismref1_Name : Good pg N_asterismref1_Name E_asterismref1_Name := by
  intro call lp args h r hc hl hh
  unfold E_asterismref1_Name at hh
  split at hh
  · rw [← F_asterismref1_Name_eq] at hh
    exact ic_asterismref1_Name _ ((F_asterismref1_Name_eq _ _ _ _).symm.trans (F_mono hc hl hh))
  · cases hh
noncomputable def E_dict_Dict_words : FnE := fun call lp args h => match args with
 | [x0] => F_dict_Dict_words call lp x0 h
 | _ => none
theorem G_dict_Dict_words : Good pg N_dict_Dict_words E_dict_Dict_words := by
  intro call lp args h r hc hl hh
  unfold E_dict_Dict_words at hh
  split at hh
  · rw [← F_dict_Dict_words_eq] at hh
    exact ic_dict_Dict_words _ ((F_dict_Dict_words_eq _ _ _ _).symm.trans (F_mono hc hl hh))
  · cases hh
noncomputable def E_omap_Map_string_int_Get : FnE := fun call lp args h => match args with
 | [x0, x1] => F_omap_Map_string_int_Get call lp x0 x1 h
 | _ => none
theorem G_omap_Map_string_int_Get : Good pg N_omap_Map_string_int_Get E_omap_Map_string_int_Get := by
  intro call lp args h r hc hl hh
  unfold E_omap_Map_string_int_Get at hh
  split at hh
  · rw [← F_omap_Map_string_int_Get_eq] at hh
    exact ic_omap_Map_string_int_Get _ _ ((F_omap_Map_string_int_Get_eq _ _ _ _ _).symm.trans (F_mono hc hl hh))
  · cases hh
noncomputable def E_omap_Map_string_int_Put : FnE := fun call lp args h => match args with
 | [x0, x1, x2] => F_omap_Map_string_int_Put call lp x0 x1 x2 h
 | _ => none
theorem G_omap_Map_string_int_Put : Good pg N_omap_Map_string_int_Put E_omap_Map_string_int_Put := by
  intro call lp args h r hc hl hh
  unfold E_omap_Map_string_int_Put at hh
  split at hh
  · rw [← F_omap_Map_string_int_Put_eq] at hh
    exact ic_omap_Map_string_int_Put _ _ _ ((F_omap_Map_string_int_Put_eq _ _ _ _ _ _).symm.trans (F_mono hc hl hh))
  · cases hh
noncomputable def E_omap_Map_string_int_Del : FnE := fun call lp args h => match args with
 | [x0, x1] => F_omap_Map_string_int_Del call lp x0 x1 h
 | _ => none
theorem G_omap_Map_string_int_Del : Good pg N_omap_Map_string_int_Del E_omap_Map_string_int_Del := by
  intro call lp args h r hc hl hh
  unfold E_omap_Map_string_int_Del at hh
  split at hh
  · rw [← F_omap_Map_string_int_Del_eq] at hh
    exact ic_omap_Map_string_int_Del _ _ ((F_omap_Map_string_int_Del_eq _ _ _ _ _).symm.trans (F_mono hc hl hh))
  · cases hh
noncomputable def E_val_Digit : FnE := fun call lp args h => match args with
 | [x0] => F_val_Digit call lp x0 h
 | _ => none
theorem G_val_Digit : Good pg N_val_Digit E_val_Digit := by
  intro call lp args h r hc hl hh
  unfold E_val_Digit at hh
  split at hh
  · rw [← F_val_Digit_eq] at hh
    exact ic_val_Digit _ ((F_val_Digit_eq _ _ _ _).symm.trans (F_mono hc hl hh))
  · cases hh
noncomputable def E_val_key : FnE := fun call lp args h => match args with
 | [x0] => F_val_key call lp x0 h
 | _ => none
theorem G_val_key : Good pg N_val_key E_val_key := by
  intro call lp args h r hc hl hh
  unfold E_val_key at hh
  split at hh
  · rw [← F_val_key_eq] at hh
    exact ic_val_key _ ((F_val_key_eq _ _ _ _).symm.trans (F_mono hc hl hh))
  · cases hh
noncomputable def E_val_Letter : FnE := fun call lp args h => match args with
 | [x0] => F_val_Letter call lp x0 h
 | _ => none
theorem G_val_Letter : Good pg N_val_Letter E_val_Letter := by
  intro call lp args h r hc hl hh
  unfold E_val_Letter at hh
  split at hh
  · rw [← F_val_Letter_eq] at hh
    exact ic_val_Letter _ ((F_val_Letter_eq _ _ _ _).symm.trans (F_mono hc hl hh))
  · cases hh
noncomputable def E_slices_Contains_string_string : FnE := fun call lp args h => match args with
 | [x0, x1] => F_slices_Contains_string_string call lp x0 x1 h
 | _ => none
theorem G_slices_Contains_string_string : Good pg N_slices_Contains_string_string E_slices_Contains_string_string := by
  intro call lp args h r hc hl hh
  unfold E_slices_Contains_string_string at hh
  split at hh
  · rw [← F_slices_Contains_string_string_eq] at hh
    exact ic_slices_Contains_string_string _ _ ((F_slices_Contains_string_string_eq _ _ _ _ _).symm.trans (F_mono hc hl hh))
  · cases hh
noncomputable def E_slices_IndexFunc_api_Dep_api_Dep : FnE := fun call lp args h => match args with
 | [x0, x1] => F_slices_IndexFunc_api_Dep_api_Dep call lp x0 x1 h
 | _ => none
theorem G_slices_IndexFunc_api_Dep_api_Dep : Good pg N_slices_IndexFunc_api_Dep_api_Dep E_slices_IndexFunc_api_Dep_api_Dep := by
  intro call lp args h r hc hl hh
  unfold E_slices_IndexFunc_api_Dep_api_Dep at hh
  split at hh
  · rw [← F_slices_IndexFunc_api_Dep_api_Dep_eq] at hh
    exact ic_slices_IndexFunc_api_Dep_api_Dep _ _ ((F_slices_IndexFunc_api_Dep_api_Dep_eq _ _ _ _ _).symm.trans (F_mono hc hl hh))
  · cases hh
noncomputable def E_schema_dep_1 : FnE := fun call lp args h => match args with
 | [x0, x1] => F_schema_dep_1 call lp x0 x1 h
 | _ => none
theorem G_schema_dep_1 : Good pg N_schema_dep_1 E_schema_dep_1 := by
  intro call lp args h r hc hl hh
  unfold E_schema_dep_1 at hh
  split at hh
  · rw [← F_schema_dep_1_eq] at hh
    exact ic_schema_dep_1 _ _ ((F_schema_dep_1_eq _ _ _ _ _).symm.trans (F_mono hc hl hh))
  · cases hh
noncomputable def E_slices_ContainsFunc_string_string : FnE := fun call lp args h => match args with
 | [x0, x1] => F_slices_ContainsFunc_string_string call lp x0 x1 h
 | _ => none
theorem G_slices_ContainsFunc_string_string : Good pg N_slices_ContainsFunc_string_string E_slices_ContainsFunc_string_string := by
  intro call lp args h r hc hl hh
  unfold E_slices_ContainsFunc_string_string at hh
  split at hh
  · rw [← F_slices_ContainsFunc_string_string_eq] at hh
    exact ic_slices_ContainsFunc_string_string _ _ ((F_slices_ContainsFunc_string_string_eq _ _ _ _ _).symm.trans (F_mono hc hl hh))
  · cases hh
noncomputable def E_cmp_isNaN_int : FnE := fun call lp args h => match args with
 | [x0] => F_cmp_isNaN_int call lp x0 h
 | _ => none
theorem G_cmp_isNaN_int : Good pg N_cmp_isNaN_int E_cmp_isNaN_int := by
  intro call lp args h r hc hl hh
  unfold E_cmp_isNaN_int at hh
  split at hh
  · rw [← F_cmp_isNaN_int_eq] at hh
    exact ic_cmp_isNaN_int _ ((F_cmp_isNaN_int_eq _ _ _ _).symm.trans (F_mono hc hl hh))
  · cases hh
noncomputable def E_cmp_isNaN_int64 : FnE := fun call lp args h => match args with
 | [x0] => F_cmp_isNaN_int64 call lp x0 h
 | _ => none
theorem G_cmp_isNaN_int64 : Good pg N_cmp_isNaN_int64 E_cmp_isNaN_int64 := by
  intro call lp args h r hc hl hh
  unfold E_cmp_isNaN_int64 at hh
  split at hh
  · rw [← F_cmp_isNaN_int64_eq] at hh
    exact ic_cmp_isNaN_int64 _ ((F_cmp_isNaN_int64_eq _ _ _ _).symm.trans (F_mono hc hl hh))
  · cases hh
noncomputable def E_cmp_isNaN_string : FnE := fun call lp args h => match args with
 | [x0] => F_cmp_isNaN_string call lp x0 h
 | _ => none
theorem G_cmp_isNaN_string : Good pg N_cmp_isNaN_string E_cmp_isNaN_string := by
  intro call lp args h r hc hl hh
  unfold E_cmp_isNaN_string at hh
  split at hh
  · rw [← F_cmp_isNaN_string_eq] at hh
    exact ic_cmp_isNaN_string _ ((F_cmp_isNaN_string_eq _ _ _ _).symm.trans (F_mono hc hl hh))
  · cases hh
noncomputable def E_slices_insertionSortCmpFunc_2_int : FnE := fun call lp args h => match args with
 | [x0, x1, x2, x3] => F_slices_insertionSortCmpFunc_2_int call lp x0 x1 x2 x3 h
 | _ => none
theorem G_slices_insertionSortCmpFunc_2_int : Good pg N_slices_insertionSortCmpFunc_2_int E_slices_insertionSortCmpFunc_2_int := by
  intro call lp args h r hc hl hh
  unfold E_slices_insertionSortCmpFunc_2_int at hh
  split at hh
  · rw [← F_slices_insertionSortCmpFunc_2_int_eq] at hh
    exact ic_slices_insertionSortCmpFunc_2_int _ _ _ _ ((F_slices_insertionSortCmpFunc_2_int_eq _ _ _ _ _ _ _).symm.trans (F_mono hc hl hh))
  · cases hh
noncomputable def E_math_bits_Len64 : FnE := fun call lp args h => match args with
 | [x0] => F_math_bits_Len64 call lp x0 h
 | _ => none
theorem G_math_bits_Len64 : Good pg N_math_bits_Len64 E_math_bits_Len64 := by
  intro call lp args h r hc hl hh
  unfold E_math_bits_Len64 at hh
  split at hh
  · rw [← F_math_bits_Len64_eq] at hh
    exact ic_math_bits_Len64 _ ((F_math_bits_Len64_eq _ _ _ _).symm.trans (F_mono hc hl hh))
  · cases hh
noncomputable def E_slices_insertionSortOrdered_int : FnE := fun call lp args h => match args with
 | [x0, x1, x2] => F_slices_insertionSortOrdered_int call lp x0 x1 x2 h
 | _ => none
theorem G_slices_insertionSortOrdered_int : Good pg N_slices_insertionSortOrdered_int E_slices_insertionSortOrdered_int := by
  intro call lp args h r hc hl hh
  unfold E_slices_insertionSortOrdered_int at hh
  split at hh
  · rw [← F_slices_insertionSortOrdered_int_eq] at hh
    exact ic_slices_insertionSortOrdered_int _ _ _ ((F_slices_insertionSortOrdered_int_eq _ _ _ _ _ _).symm.trans (F_mono hc hl hh))
  · cases hh
noncomputable def E_dict_Dict_Len : FnE := fun call lp args h => match args with
 | [x0] => F_dict_Dict_Len call lp x0 h
 | _ => none
theorem G_dict_Dict_Len : Good pg N_dict_Dict_Len E_dict_Dict_Len := by
  intro call lp args h r hc hl hh
  unfold E_dict_Dict_Len at hh
  split at hh
  · rw [← F_dict_Dict_Len_eq] at hh
    exact ic_dict_Dict_Len _ ((F_dict_Dict_Len_eq _ _ _ _).symm.trans (F_mono hc hl hh))
  · cases hh
noncomputable def E_asterismref1_Digit : FnE := fun call lp args h => match args with
 | [x0] => F_asterismref1_Digit call lp x0 h
 | _ => none
theorem G_asterismref1_Digit : Good pg N_asterismref1_Digit E_asterismref1_Digit := by
  intro call lp args h r hc hl hh
  unfold E_asterismref1_Digit at hh
  split at hh
  · rw [← F_asterismref1_Digit_eq] at hh
    exact ic_asterismref1_Digit _ ((F_asterismref1_Digit_eq _ _ _ _).symm.trans (F_mono hc hl hh))
  · cases hh
noncomputable def E_asterismref1_Word : FnE := fun call lp args h => match args with
 | [x0] => F_asterismref1_Word call lp x0 h
 | _ => none
theorem G_asterismref1_Word : Good pg N_asterismref1_Word E_asterismref1_Word := by
  intro call lp args h r hc hl hh
  unfold E_asterismref1_Word at hh
  split at hh
  · rw [← F_asterismref1_Word_eq] at hh
    exact ic_asterismref1_Word _ ((F_asterismref1_Word_eq _ _ _ _).symm.trans (F_mono hc hl hh))
  · cases hh
noncomputable def E_asterismref1_Letter : FnE := fun call lp args h => match args with
 | [x0] => F_asterismref1_Letter call lp x0 h
 | _ => none
theorem G_asterismref1_Letter : Good pg N_asterismref1_Letter E_asterismref1_Letter := by
  intro call lp args h r hc hl hh
  unfold E_asterismref1_Letter at hh
  split at hh
  · rw [← F_asterismref1_Letter_eq] at hh
    exact ic_asterismref1_Letter _ ((F_asterismref1_Letter_eq _ _ _ _).symm.trans (F_mono hc hl hh))
  · cases hh
noncomputable def E_omap_New_string_int : FnE := fun call lp args h => match args with
 | [x0] => F_omap_New_string_int call lp x0 h
 | _ => none
theorem G_omap_New_string_int : Good pg N_omap_New_string_int E_omap_New_string_int := by
  intro call lp args h r hc hl hh
  unfold E_omap_New_string_int at hh
  split at hh
  · rw [← F_omap_New_string_int_eq] at hh
    exact ic_omap_New_string_int _ ((F_omap_New_string_int_eq _ _ _ _).symm.trans (F_mono hc hl hh))
  · cases hh
noncomputable def E_strings_Compare : FnE := fun call lp args h => match args with
 | [x0, x1] => F_strings_Compare call lp x0 x1 h
 | _ => none
theorem G_strings_Compare : Good pg N_strings_Compare E_strings_Compare := by
  intro call lp args h r hc hl hh
  unfold E_strings_Compare at hh
  split at hh
  · rw [← F_strings_Compare_eq] at hh
    exact ic_strings_Compare _ _ ((F_strings_Compare_eq _ _ _ _ _).symm.trans (F_mono hc hl hh))
  · cases hh
noncomputable def E_omap_Map_string_int_find : FnE := fun call lp args h => match args with
 | [x0, x1] => F_omap_Map_string_int_find call lp x0 x1 h
 | _ => none
theorem G_omap_Map_string_int_find : Good pg N_omap_Map_string_int_find E_omap_Map_string_int_find := by
  intro call lp args h r hc hl hh
  unfold E_omap_Map_string_int_find at hh
  split at hh
  · rw [← F_omap_Map_string_int_find_eq] at hh
    exact ic_omap_Map_string_int_find _ _ ((F_omap_Map_string_int_find_eq _ _ _ _ _).symm.trans (F_mono hc hl hh))
  · cases hh
noncomputable def E_slices_Delete_omap_pair_string_int_omap_pair_string_int : FnE := fun call lp args h => match args with
 | [x0, x1, x2] => F_slices_Delete_omap_pair_string_int_omap_pair_string_int call lp x0 x1 x2 h
 | _ => none
theorem G_slices_Delete_omap_pair_string_int_omap_pair_string_int : Good pg N_slices_Delete_omap_pair_string_int_omap_pair_string_int E_slices_Delete_omap_pair_string_int_omap_pair_string_int := by
  intro call lp args h r hc hl hh
  unfold E_slices_Delete_omap_pair_string_int_omap_pair_string_int at hh
  split at hh
  · rw [← F_slices_Delete_omap_pair_string_int_omap_pair_string_int_eq] at hh
    exact ic_slices_Delete_omap_pair_string_int_omap_pair_string_int _ _ _ ((F_slices_Delete_omap_pair_string_int_omap_pair_string_int_eq _ _ _ _ _ _).symm.trans (F_mono hc hl hh))
  · cases hh
noncomputable def E_slices_Index_string_string : FnE := fun call lp args h => match args with
 | [x0, x1] => F_slices_Index_string_string call lp x0 x1 h
 | _ => none
theorem G_slices_Index_string_string : Good pg N_slices_Index_string_string E_slices_Index_string_string := by
  intro call lp args h r hc hl hh
  unfold E_slices_Index_string_string at hh
  split at hh
  · rw [← F_slices_Index_string_string_eq] at hh
    exact ic_slices_Index_string_string _ _ ((F_slices_Index_string_string_eq _ _ _ _ _).symm.trans (F_mono hc hl hh))
  · cases hh
noncomputable def E_slices_IndexFunc_string_string : FnE := fun call lp args h => match args with
 | [x0, x1] => F_slices_IndexFunc_string_string call lp x0 x1 h
 | _ => none
theorem G_slices_IndexFunc_string_string : Good pg N_slices_IndexFunc_string_string E_slices_IndexFunc_string_string := by
  intro call lp args h r hc hl hh
  unfold E_slices_IndexFunc_string_string at hh
  split at hh
  · rw [← F_slices_IndexFunc_string_string_eq] at hh
    exact ic_slices_IndexFunc_string_string _ _ ((F_slices_IndexFunc_string_string_eq _ _ _ _ _).symm.trans (F_mono hc hl hh))
  · cases hh
noncomputable def E_omap_Map_string_int_Len : FnE := fun call lp args h => match args with
 | [x0] => F_omap_Map_string_int_Len call lp x0 h
 | _ => none
theorem G_omap_Map_string_int_Len : Good pg N_omap_Map_string_int_Len E_omap_Map_string_int_Len := by
  intro call lp args h r hc hl hh
  unfold E_omap_Map_string_int_Len at hh
  split at hh
  · rw [← F_omap_Map_string_int_Len_eq] at hh
    exact ic_omap_Map_string_int_Len _ ((F_omap_Map_string_int_Len_eq _ _ _ _).symm.trans (F_mono hc hl hh))
  · cases hh
noncomputable def E_bytealg_CompareString : FnE := fun call lp args h => match args with
 | [x0, x1] => F_bytealg_CompareString call lp x0 x1 h
 | _ => none
theorem G_bytealg_CompareString : Good pg N_bytealg_CompareString E_bytealg_CompareString := by
  intro call lp args h r hc hl hh
  unfold E_bytealg_CompareString at hh
  split at hh
  · rw [← F_bytealg_CompareString_eq] at hh
    exact ic_bytealg_CompareString _ _ ((F_bytealg_CompareString_eq _ _ _ _ _).symm.trans (F_mono hc hl hh))
  · cases hh
noncomputable def E_slices_BinarySearchFunc_omap_pair_string_int_omap_pair_string_int_string : FnE := fun call lp args h => match args with
 | [x0, x1, x2] => F_slices_BinarySearchFunc_omap_pair_string_int_omap_pair_string_int_string call lp x0 x1 x2 h
 | _ => none
theorem G_slices_BinarySearchFunc_omap_pair_string_int_omap_pair_string_int_string : Good pg N_slices_BinarySearchFunc_omap_pair_string_int_omap_pair_string_int_string E_slices_BinarySearchFunc_omap_pair_string_int_omap_pair_string_int_string := by
  intro call lp args h r hc hl hh
  unfold E_slices_BinarySearchFunc_omap_pair_string_int_omap_pair_string_int_string at hh
  split at hh
  · rw [← F_slices_BinarySearchFunc_omap_pair_string_int_omap_pair_string_int_string_eq] at hh
    exact ic_slices_BinarySearchFunc_omap_pair_string_int_omap_pair_string_int_string _ _ _ ((F_slices_BinarySearchFunc_omap_pair_string_int_omap_pair_string_int_string_eq _ _ _ _ _ _).symm.trans (F_mono hc hl hh))
  · cases hh
noncomputable def E_omap_Map_string_int_find_1 : FnE := fun call lp args h => match args with
 | [x0, x1, x2] => F_omap_Map_string_int_find_1 call lp x0 x1 x2 h
 | _ => none
theorem G_omap_Map_string_int_find_1 : Good pg N_omap_Map_string_int_find_1 E_omap_Map_string_int_find_1 := by
  intro call lp args h r hc hl hh
  unfold E_omap_Map_string_int_find_1 at hh
  split at hh
  · rw [← F_omap_Map_string_int_find_1_eq] at hh
    exact ic_omap_Map_string_int_find_1 _ _ _ ((F_omap_Map_string_int_find_1_eq _ _ _ _ _ _).symm.trans (F_mono hc hl hh))
  · cases hh
noncomputable def E_bytealg_abigen_runtime_cmpstring : FnE := fun _ _ args h => ext "internal/bytealg.abigen_runtime_cmpstring" args h
theorem G_bytealg_abigen_runtime_cmpstring : Good pg N_bytealg_abigen_runtime_cmpstring E_bytealg_abigen_runtime_cmpstring := fun _ _ args h r _ _ hh => ic_ext (fn := Tryz.f205) (by kernel_rfl) (by kernel_rfl) (by kernel_rfl) hh
noncomputable def evT_0 : Tr FnE := .n (some E_schema_twice) .e .e
noncomputable def evT_1 : Tr FnE := .n none evT_0 .e
noncomputable def evT_2 : Tr FnE := .n (some E_slices_insertionSortCmpFunc_2_int) .e .e
noncomputable def evT_3 : Tr FnE := .n (some E_slices_Clone_api_Col_api_Col) evT_2 .e
noncomputable def evT_4 : Tr FnE := .n (some E_asterismlaw13_text) evT_1 evT_3
noncomputable def evT_5 : Tr FnE := .n (some E_column_Column_Words) .e .e
noncomputable def evT_6 : Tr FnE := .n (some E_asterismref8_Schema_May) evT_5 .e
noncomputable def evT_7 : Tr FnE := .n (some E_bitmap_Or_1) .e .e
noncomputable def evT_8 : Tr FnE := .n none evT_6 evT_7
noncomputable def evT_9 : Tr FnE := .n (some E_data_DB_Copy) evT_4 evT_8
noncomputable def evT_10 : Tr FnE := .n (some E_cmp_Compare_string) .e .e
noncomputable def evT_11 : Tr FnE := .n (some E_slices_BinarySearchFunc_omap_pair_string_int_omap_pair_string_int_string) .e .e
noncomputable def evT_12 : Tr FnE := .n (some E_asterismref12_DB_one) evT_10 evT_11
noncomputable def evT_13 : Tr FnE := .n (some E_data_DB_Add) evT_12 .e
noncomputable def evT_14 : Tr FnE := .n (some E_val_Letter) .e .e
noncomputable def evT_15 : Tr FnE := .n (some E_schema_copied) evT_14 .e
noncomputable def evT_16 : Tr FnE := .n (some E_strings_Compare) .e .e
noncomputable def evT_17 : Tr FnE := .n (some E_asterismref8_names) evT_16 .e
noncomputable def evT_18 : Tr FnE := .n (some E_table_Table_Get) evT_15 evT_17
noncomputable def evT_19 : Tr FnE := .n none evT_13 evT_18
noncomputable def evT_20 : Tr FnE := .n none evT_9 evT_19
noncomputable def evT_21 : Tr FnE := .n (some E_schema_col_1) .e .e
noncomputable def evT_22 : Tr FnE := .n (some E_table_Table_Row) evT_21 .e
noncomputable def evT_23 : Tr FnE := .n (some E_val_Compare) .e .e
noncomputable def evT_24 : Tr FnE := .n (some E_table_Table_Insert) evT_22 evT_23
noncomputable def evT_25 : Tr FnE := .n (some E_omap_Map_string_int_Put) .e .e
noncomputable def evT_26 : Tr FnE := .n (some E_column_Column_Set) evT_25 .e
noncomputable def evT_27 : Tr FnE := .n (some E_asterismref1_Digit) .e .e
noncomputable def evT_28 : Tr FnE := .n (some E_asterismlaw11_shop) evT_27 .e
noncomputable def evT_29 : Tr FnE := .n (some E_table_Table_Copy) evT_26 evT_28
noncomputable def evT_30 : Tr FnE := .n none evT_24 evT_29
noncomputable def evT_31 : Tr FnE := .n (some E_slices_Grow_2_int_2_int) .e .e
noncomputable def evT_32 : Tr FnE := .n (some E_bitmap_Or) evT_31 .e
noncomputable def evT_33 : Tr FnE := .n (some E_column_Column_may) .e .e
noncomputable def evT_34 : Tr FnE := .n (some E_table_Table_Delete) evT_32 evT_33
noncomputable def evT_35 : Tr FnE := .n (some E_slices_ContainsFunc_string_string) .e .e
noncomputable def evT_36 : Tr FnE := .n (some E_schema_Schema_refs) evT_35 .e
noncomputable def evT_37 : Tr FnE := .n (some E_slices_Index_string_string) .e .e
noncomputable def evT_38 : Tr FnE := .n (some E_dict_Dict_Take) evT_37 .e
noncomputable def evT_39 : Tr FnE := .n (some E_bitmap_Map_Has) evT_36 evT_38
noncomputable def evT_40 : Tr FnE := .n (some E_asterismlaw13_EqFault) evT_34 evT_39
noncomputable def evT_41 : Tr FnE := .n none evT_30 evT_40
noncomputable def evT_42 : Tr FnE := .n none evT_20 evT_41
noncomputable def evT_43 : Tr FnE := .n (some E_schema_Schema_named_1) .e .e
noncomputable def evT_44 : Tr FnE := .n (some E_bitmap_Map_Count) evT_43 .e
noncomputable def evT_45 : Tr FnE := .n (some E_slices_Clone_string_string) .e .e
noncomputable def evT_46 : Tr FnE := .n (some E_data_DB_Table) evT_44 evT_45
noncomputable def evT_47 : Tr FnE := .n (some E_dict_Dict_words) .e .e
noncomputable def evT_48 : Tr FnE := .n none evT_47 .e
noncomputable def evT_49 : Tr FnE := .n (some E_slices_Clone_int_int) .e .e
noncomputable def evT_50 : Tr FnE := .n (some E_schema_Schema_Find) evT_48 evT_49
noncomputable def evT_51 : Tr FnE := .n none evT_46 evT_50
noncomputable def evT_52 : Tr FnE := .n (some E_val_text) .e .e
noncomputable def evT_53 : Tr FnE := .n (some E_table_Table_may) evT_52 .e
noncomputable def evT_54 : Tr FnE := .n (some E_slices_insertionSortOrdered_int) .e .e
noncomputable def evT_55 : Tr FnE := .n none evT_54 .e
noncomputable def evT_56 : Tr FnE := .n (some E_asterismref8_Schema_Find) evT_53 evT_55
noncomputable def evT_57 : Tr FnE := .n (some E_slices_IndexFunc_api_Dep_api_Dep) .e .e
noncomputable def evT_58 : Tr FnE := .n (some E_slices_ContainsFunc_api_Col_api_Col) evT_57 .e
noncomputable def evT_59 : Tr FnE := .n (some E_bitmap_And) .e .e
noncomputable def evT_60 : Tr FnE := .n (some E_asterismref8_ColOf) evT_58 evT_59
noncomputable def evT_61 : Tr FnE := .n (some E_batch_Apply) evT_56 evT_60
noncomputable def evT_62 : Tr FnE := .n (some E_asterismlaw12_begun) evT_51 evT_61
noncomputable def evT_63 : Tr FnE := .n (some E_cmp_Compare_int) .e .e
noncomputable def evT_64 : Tr FnE := .n (some E_omap_Map_string_int_Len) .e .e
noncomputable def evT_65 : Tr FnE := .n (some E_asterismlaw12_Begun) evT_63 evT_64
noncomputable def evT_66 : Tr FnE := .n (some E_bitmap_Map_Has_1) .e .e
noncomputable def evT_67 : Tr FnE := .n none evT_65 evT_66
noncomputable def evT_68 : Tr FnE := .n (some E_val_Digit) .e .e
noncomputable def evT_69 : Tr FnE := .n (some E_slices_IndexFunc_api_Table_api_Table) evT_68 .e
noncomputable def evT_70 : Tr FnE := .n (some E_asterismref1_Letter) .e .e
noncomputable def evT_71 : Tr FnE := .n (some E_table_Table_Words) evT_70 .e
noncomputable def evT_72 : Tr FnE := .n (some E_table_Table_Live) evT_69 evT_71
noncomputable def evT_73 : Tr FnE := .n none evT_67 evT_72
noncomputable def evT_74 : Tr FnE := .n (some E_math_bits_Len) .e .e
noncomputable def evT_75 : Tr FnE := .n (some E_bytealg_abigen_runtime_cmpstring) .e .e
noncomputable def evT_76 : Tr FnE := .n (some E_asterismlaw11_begun) evT_74 evT_75
noncomputable def evT_77 : Tr FnE := .n (some E_slices_Concat_2_int_2_int) .e .e
noncomputable def evT_78 : Tr FnE := .n (some E_table_Table_Set) evT_76 evT_77
noncomputable def evT_79 : Tr FnE := .n (some E_cmp_isNaN_int64) .e .e
noncomputable def evT_80 : Tr FnE := .n (some E_column_Column_Len) evT_79 .e
noncomputable def evT_81 : Tr FnE := .n (some E_table_Table_col_1) .e .e
noncomputable def evT_82 : Tr FnE := .n none evT_80 evT_81
noncomputable def evT_83 : Tr FnE := .n none evT_78 evT_82
noncomputable def evT_84 : Tr FnE := .n none evT_73 evT_83
noncomputable def evT_85 : Tr FnE := .n none evT_62 evT_84
noncomputable def evT_86 : Tr FnE := .n none evT_42 evT_85
noncomputable def evT_87 : Tr FnE := .n (some E_slices_ContainsFunc_api_Dep_api_Dep) .e .e
noncomputable def evT_88 : Tr FnE := .n none evT_87 .e
noncomputable def evT_89 : Tr FnE := .n (some E_slices_Clone_api_Dep_api_Dep) .e .e
noncomputable def evT_90 : Tr FnE := .n (some E_data_New) evT_88 evT_89
noncomputable def evT_91 : Tr FnE := .n (some E_asterismref1_Name) .e .e
noncomputable def evT_92 : Tr FnE := .n (some E_asterismref8_Form) evT_91 .e
noncomputable def evT_93 : Tr FnE := .n (some E_bitmap_Map_add) .e .e
noncomputable def evT_94 : Tr FnE := .n (some E_schema_Schema_Names) evT_92 evT_93
noncomputable def evT_95 : Tr FnE := .n (some E_data_DB_ByKey) evT_90 evT_94
noncomputable def evT_96 : Tr FnE := .n (some E_slices_IndexFunc_2_int_2_int) .e .e
noncomputable def evT_97 : Tr FnE := .n (some E_omap_Map_string_int_find_1) .e .e
noncomputable def evT_98 : Tr FnE := .n (some E_schema_New) evT_96 evT_97
noncomputable def evT_99 : Tr FnE := .n (some E_math_bits_Len64) .e .e
noncomputable def evT_100 : Tr FnE := .n (some E_bitmap_Map_Rank) evT_99 .e
noncomputable def evT_101 : Tr FnE := .n (some E_asterismref12_DB_Add) evT_98 evT_100
noncomputable def evT_102 : Tr FnE := .n (some E_slices_Contains_string_string) .e .e
noncomputable def evT_103 : Tr FnE := .n (some E_schema_Schema_named) evT_102 .e
noncomputable def evT_104 : Tr FnE := .n (some E_omap_Map_string_int_find) .e .e
noncomputable def evT_105 : Tr FnE := .n none evT_104 .e
noncomputable def evT_106 : Tr FnE := .n (some E_val_Eq) evT_103 evT_105
noncomputable def evT_107 : Tr FnE := .n (some E_asterismlaw13_begun) evT_101 evT_106
noncomputable def evT_108 : Tr FnE := .n (some E_asterismlaw13_BatchNone) evT_95 evT_107
noncomputable def evT_109 : Tr FnE := .n (some E_cmp_Or_int) .e .e
noncomputable def evT_110 : Tr FnE := .n none evT_109 .e
noncomputable def evT_111 : Tr FnE := .n (some E_slices_ContainsFunc_2_int_2_int) .e .e
noncomputable def evT_112 : Tr FnE := .n (some E_asterismlaw11_Begun) evT_110 evT_111
noncomputable def evT_113 : Tr FnE := .n (some E_omap_Map_string_int_Del) .e .e
noncomputable def evT_114 : Tr FnE := .n (some E_table_Table_col) evT_113 .e
noncomputable def evT_115 : Tr FnE := .n (some E_asterismref1_Word) .e .e
noncomputable def evT_116 : Tr FnE := .n (some E_asterismlaw11_row) evT_115 .e
noncomputable def evT_117 : Tr FnE := .n (some E_table_Table_Form) evT_114 evT_116
noncomputable def evT_118 : Tr FnE := .n none evT_112 evT_117
noncomputable def evT_119 : Tr FnE := .n (some E_slices_pdqsortCmpFunc_2_int) .e .e
noncomputable def evT_120 : Tr FnE := .n (some E_bitmap_Of) evT_119 .e
noncomputable def evT_121 : Tr FnE := .n (some E_column_Column_count) .e .e
noncomputable def evT_122 : Tr FnE := .n none evT_120 evT_121
noncomputable def evT_123 : Tr FnE := .n (some E_cmp_isNaN_int) .e .e
noncomputable def evT_124 : Tr FnE := .n (some E_schema_col) evT_123 .e
noncomputable def evT_125 : Tr FnE := .n (some E_slices_IndexFunc_string_string) .e .e
noncomputable def evT_126 : Tr FnE := .n (some E_slices_IndexFunc_api_Col_api_Col) evT_125 .e
noncomputable def evT_127 : Tr FnE := .n (some E_schema_Schema_Col) evT_124 evT_126
noncomputable def evT_128 : Tr FnE := .n none evT_122 evT_127
noncomputable def evT_129 : Tr FnE := .n (some E_asterismlaw12_Star) evT_118 evT_128
noncomputable def evT_130 : Tr FnE := .n none evT_108 evT_129
noncomputable def evT_131 : Tr FnE := .n (some E_schema_dep) .e .e
noncomputable def evT_132 : Tr FnE := .n (some E_table_Table_Next) evT_131 .e
noncomputable def evT_133 : Tr FnE := .n (some E_bitmap_Map_All_1) .e .e
noncomputable def evT_134 : Tr FnE := .n (some E_data_DB_Schema) evT_132 evT_133
noncomputable def evT_135 : Tr FnE := .n (some E_omap_Map_string_int_Get) .e .e
noncomputable def evT_136 : Tr FnE := .n (some E_bitmap_Without) evT_135 .e
noncomputable def evT_137 : Tr FnE := .n (some E_dict_Dict_Len) .e .e
noncomputable def evT_138 : Tr FnE := .n (some E_slices_Sort_int_int) evT_137 .e
noncomputable def evT_139 : Tr FnE := .n (some E_schema_Schema_Add) evT_136 evT_138
noncomputable def evT_140 : Tr FnE := .n (some E_data_DB_Value) evT_134 evT_139
noncomputable def evT_141 : Tr FnE := .n (some E_dict_Dict_Add) .e .e
noncomputable def evT_142 : Tr FnE := .n (some E_column_Column_Append) evT_141 .e
noncomputable def evT_143 : Tr FnE := .n (some E_val_May) .e .e
noncomputable def evT_144 : Tr FnE := .n none evT_142 evT_143
noncomputable def evT_145 : Tr FnE := .n (some E_schema_dep_1) .e .e
noncomputable def evT_146 : Tr FnE := .n (some E_schema_Schema_Add_1) evT_145 .e
noncomputable def evT_147 : Tr FnE := .n (some E_slices_Delete_omap_pair_string_int_omap_pair_string_int) .e .e
noncomputable def evT_148 : Tr FnE := .n (some E_bitmap_Not) evT_147 .e
noncomputable def evT_149 : Tr FnE := .n (some E_path_Col) evT_146 evT_148
noncomputable def evT_150 : Tr FnE := .n (some E_asterismref12_DB_Apply) evT_144 evT_149
noncomputable def evT_151 : Tr FnE := .n none evT_140 evT_150
noncomputable def evT_152 : Tr FnE := .n (some E_cmp_Compare_int64) .e .e
noncomputable def evT_153 : Tr FnE := .n (some E_bytealg_CompareString) .e .e
noncomputable def evT_154 : Tr FnE := .n (some E_batch_one) evT_152 evT_153
noncomputable def evT_155 : Tr FnE := .n (some E_asterismlaw9_Star) evT_154 .e
noncomputable def evT_156 : Tr FnE := .n (some E_val_key) .e .e
noncomputable def evT_157 : Tr FnE := .n (some E_schema_Schema_Find_1) evT_156 .e
noncomputable def evT_158 : Tr FnE := .n (some E_omap_New_string_int) .e .e
noncomputable def evT_159 : Tr FnE := .n (some E_column_New) evT_158 .e
noncomputable def evT_160 : Tr FnE := .n (some E_bitmap_Map_All) evT_157 evT_159
noncomputable def evT_161 : Tr FnE := .n none evT_155 evT_160
noncomputable def evT_162 : Tr FnE := .n (some E_slices_pdqsortOrdered_int) .e .e
noncomputable def evT_163 : Tr FnE := .n (some E_table_New) evT_162 .e
noncomputable def evT_164 : Tr FnE := .n (some E_slices_SortFunc_2_int_2_int) .e .e
noncomputable def evT_165 : Tr FnE := .n none evT_163 evT_164
noncomputable def evT_166 : Tr FnE := .n (some E_cmp_isNaN_string) .e .e
noncomputable def evT_167 : Tr FnE := .n (some E_column_Column_At) evT_166 .e
noncomputable def evT_168 : Tr FnE := .n (some E_val_Name) .e .e
noncomputable def evT_169 : Tr FnE := .n none evT_167 evT_168
noncomputable def evT_170 : Tr FnE := .n (some E_asterismlaw13_num) evT_165 evT_169
noncomputable def evT_171 : Tr FnE := .n none evT_161 evT_170
noncomputable def evT_172 : Tr FnE := .n none evT_151 evT_171
noncomputable def evT_173 : Tr FnE := .n none evT_130 evT_172
noncomputable def evT_174 : Tr FnE := .n none evT_86 evT_173
noncomputable def evT : Tr FnE := evT_174
theorem evAll : evT.All (Good pg) := (Tr.all_0 (Tr.all_0 (Tr.all_0 (Tr.all_0 (Tr.all_n G_data_DB_Copy (Tr.all_n G_asterismlaw13_text (Tr.all_0 (Tr.all_n G_schema_twice Tr.all_e Tr.all_e) Tr.all_e) (Tr.all_n G_slices_Clone_api_Col_api_Col (Tr.all_n G_slices_insertionSortCmpFunc_2_int Tr.all_e Tr.all_e) Tr.all_e)) (Tr.all_0 (Tr.all_n G_asterismref8_Schema_May (Tr.all_n G_column_Column_Words Tr.all_e Tr.all_e) Tr.all_e) (Tr.all_n G_bitmap_Or_1 Tr.all_e Tr.all_e))) (Tr.all_0 (Tr.all_n G_data_DB_Add (Tr.all_n G_asterismref12_DB_one (Tr.all_n G_cmp_Compare_string Tr.all_e Tr.all_e) (Tr.all_n G_slices_BinarySearchFunc_omap_pair_string_int_omap_pair_string_int_string Tr.all_e Tr.all_e)) Tr.all_e) (Tr.all_n G_table_Table_Get (Tr.all_n G_schema_copied (Tr.all_n G_val_Letter Tr.all_e Tr.all_e) Tr.all_e) (Tr.all_n G_asterismref8_names (Tr.all_n G_strings_Compare Tr.all_e Tr.all_e) Tr.all_e)))) (Tr.all_0 (Tr.all_0 (Tr.all_n G_table_Table_Insert (Tr.all_n G_table_Table_Row (Tr.all_n G_schema_col_1 Tr.all_e Tr.all_e) Tr.all_e) (Tr.all_n G_val_Compare Tr.all_e Tr.all_e)) (Tr.all_n G_table_Table_Copy (Tr.all_n G_column_Column_Set (Tr.all_n G_omap_Map_string_int_Put Tr.all_e Tr.all_e) Tr.all_e) (Tr.all_n G_asterismlaw11_shop (Tr.all_n G_asterismref1_Digit Tr.all_e Tr.all_e) Tr.all_e))) (Tr.all_n G_asterismlaw13_EqFault (Tr.all_n G_table_Table_Delete (Tr.all_n G_bitmap_Or (Tr.all_n G_slices_Grow_2_int_2_int Tr.all_e Tr.all_e) Tr.all_e) (Tr.all_n G_column_Column_may Tr.all_e Tr.all_e)) (Tr.all_n G_bitmap_Map_Has (Tr.all_n G_schema_Schema_refs (Tr.all_n G_slices_ContainsFunc_string_string Tr.all_e Tr.all_e) Tr.all_e) (Tr.all_n G_dict_Dict_Take (Tr.all_n G_slices_Index_string_string Tr.all_e Tr.all_e) Tr.all_e))))) (Tr.all_0 (Tr.all_n G_asterismlaw12_begun (Tr.all_0 (Tr.all_n G_data_DB_Table (Tr.all_n G_bitmap_Map_Count (Tr.all_n G_schema_Schema_named_1 Tr.all_e Tr.all_e) Tr.all_e) (Tr.all_n G_slices_Clone_string_string Tr.all_e Tr.all_e)) (Tr.all_n G_schema_Schema_Find (Tr.all_0 (Tr.all_n G_dict_Dict_words Tr.all_e Tr.all_e) Tr.all_e) (Tr.all_n G_slices_Clone_int_int Tr.all_e Tr.all_e))) (Tr.all_n G_batch_Apply (Tr.all_n G_asterismref8_Schema_Find (Tr.all_n G_table_Table_may (Tr.all_n G_val_text Tr.all_e Tr.all_e) Tr.all_e) (Tr.all_0 (Tr.all_n G_slices_insertionSortOrdered_int Tr.all_e Tr.all_e) Tr.all_e)) (Tr.all_n G_asterismref8_ColOf (Tr.all_n G_slices_ContainsFunc_api_Col_api_Col (Tr.all_n G_slices_IndexFunc_api_Dep_api_Dep Tr.all_e Tr.all_e) Tr.all_e) (Tr.all_n G_bitmap_And Tr.all_e Tr.all_e)))) (Tr.all_0 (Tr.all_0 (Tr.all_0 (Tr.all_n G_asterismlaw12_Begun (Tr.all_n G_cmp_Compare_int Tr.all_e Tr.all_e) (Tr.all_n G_omap_Map_string_int_Len Tr.all_e Tr.all_e)) (Tr.all_n G_bitmap_Map_Has_1 Tr.all_e Tr.all_e)) (Tr.all_n G_table_Table_Live (Tr.all_n G_slices_IndexFunc_api_Table_api_Table (Tr.all_n G_val_Digit Tr.all_e Tr.all_e) Tr.all_e) (Tr.all_n G_table_Table_Words (Tr.all_n G_asterismref1_Letter Tr.all_e Tr.all_e) Tr.all_e))) (Tr.all_0 (Tr.all_n G_table_Table_Set (Tr.all_n G_asterismlaw11_begun (Tr.all_n G_math_bits_Len Tr.all_e Tr.all_e) (Tr.all_n G_bytealg_abigen_runtime_cmpstring Tr.all_e Tr.all_e)) (Tr.all_n G_slices_Concat_2_int_2_int Tr.all_e Tr.all_e)) (Tr.all_0 (Tr.all_n G_column_Column_Len (Tr.all_n G_cmp_isNaN_int64 Tr.all_e Tr.all_e) Tr.all_e) (Tr.all_n G_table_Table_col_1 Tr.all_e Tr.all_e)))))) (Tr.all_0 (Tr.all_0 (Tr.all_n G_asterismlaw13_BatchNone (Tr.all_n G_data_DB_ByKey (Tr.all_n G_data_New (Tr.all_0 (Tr.all_n G_slices_ContainsFunc_api_Dep_api_Dep Tr.all_e Tr.all_e) Tr.all_e) (Tr.all_n G_slices_Clone_api_Dep_api_Dep Tr.all_e Tr.all_e)) (Tr.all_n G_schema_Schema_Names (Tr.all_n G_asterismref8_Form (Tr.all_n G_asterismref1_Name Tr.all_e Tr.all_e) Tr.all_e) (Tr.all_n G_bitmap_Map_add Tr.all_e Tr.all_e))) (Tr.all_n G_asterismlaw13_begun (Tr.all_n G_asterismref12_DB_Add (Tr.all_n G_schema_New (Tr.all_n G_slices_IndexFunc_2_int_2_int Tr.all_e Tr.all_e) (Tr.all_n G_omap_Map_string_int_find_1 Tr.all_e Tr.all_e)) (Tr.all_n G_bitmap_Map_Rank (Tr.all_n G_math_bits_Len64 Tr.all_e Tr.all_e) Tr.all_e)) (Tr.all_n G_val_Eq (Tr.all_n G_schema_Schema_named (Tr.all_n G_slices_Contains_string_string Tr.all_e Tr.all_e) Tr.all_e) (Tr.all_0 (Tr.all_n G_omap_Map_string_int_find Tr.all_e Tr.all_e) Tr.all_e)))) (Tr.all_n G_asterismlaw12_Star (Tr.all_0 (Tr.all_n G_asterismlaw11_Begun (Tr.all_0 (Tr.all_n G_cmp_Or_int Tr.all_e Tr.all_e) Tr.all_e) (Tr.all_n G_slices_ContainsFunc_2_int_2_int Tr.all_e Tr.all_e)) (Tr.all_n G_table_Table_Form (Tr.all_n G_table_Table_col (Tr.all_n G_omap_Map_string_int_Del Tr.all_e Tr.all_e) Tr.all_e) (Tr.all_n G_asterismlaw11_row (Tr.all_n G_asterismref1_Word Tr.all_e Tr.all_e) Tr.all_e))) (Tr.all_0 (Tr.all_0 (Tr.all_n G_bitmap_Of (Tr.all_n G_slices_pdqsortCmpFunc_2_int Tr.all_e Tr.all_e) Tr.all_e) (Tr.all_n G_column_Column_count Tr.all_e Tr.all_e)) (Tr.all_n G_schema_Schema_Col (Tr.all_n G_schema_col (Tr.all_n G_cmp_isNaN_int Tr.all_e Tr.all_e) Tr.all_e) (Tr.all_n G_slices_IndexFunc_api_Col_api_Col (Tr.all_n G_slices_IndexFunc_string_string Tr.all_e Tr.all_e) Tr.all_e))))) (Tr.all_0 (Tr.all_0 (Tr.all_n G_data_DB_Value (Tr.all_n G_data_DB_Schema (Tr.all_n G_table_Table_Next (Tr.all_n G_schema_dep Tr.all_e Tr.all_e) Tr.all_e) (Tr.all_n G_bitmap_Map_All_1 Tr.all_e Tr.all_e)) (Tr.all_n G_schema_Schema_Add (Tr.all_n G_bitmap_Without (Tr.all_n G_omap_Map_string_int_Get Tr.all_e Tr.all_e) Tr.all_e) (Tr.all_n G_slices_Sort_int_int (Tr.all_n G_dict_Dict_Len Tr.all_e Tr.all_e) Tr.all_e))) (Tr.all_n G_asterismref12_DB_Apply (Tr.all_0 (Tr.all_n G_column_Column_Append (Tr.all_n G_dict_Dict_Add Tr.all_e Tr.all_e) Tr.all_e) (Tr.all_n G_val_May Tr.all_e Tr.all_e)) (Tr.all_n G_path_Col (Tr.all_n G_schema_Schema_Add_1 (Tr.all_n G_schema_dep_1 Tr.all_e Tr.all_e) Tr.all_e) (Tr.all_n G_bitmap_Not (Tr.all_n G_slices_Delete_omap_pair_string_int_omap_pair_string_int Tr.all_e Tr.all_e) Tr.all_e)))) (Tr.all_0 (Tr.all_0 (Tr.all_n G_asterismlaw9_Star (Tr.all_n G_batch_one (Tr.all_n G_cmp_Compare_int64 Tr.all_e Tr.all_e) (Tr.all_n G_bytealg_CompareString Tr.all_e Tr.all_e)) Tr.all_e) (Tr.all_n G_bitmap_Map_All (Tr.all_n G_schema_Schema_Find_1 (Tr.all_n G_val_key Tr.all_e Tr.all_e) Tr.all_e) (Tr.all_n G_column_New (Tr.all_n G_omap_New_string_int Tr.all_e Tr.all_e) Tr.all_e))) (Tr.all_n G_asterismlaw13_num (Tr.all_0 (Tr.all_n G_table_New (Tr.all_n G_slices_pdqsortOrdered_int Tr.all_e Tr.all_e) Tr.all_e) (Tr.all_n G_slices_SortFunc_2_int_2_int Tr.all_e Tr.all_e)) (Tr.all_0 (Tr.all_n G_column_Column_At (Tr.all_n G_cmp_isNaN_string Tr.all_e Tr.all_e) Tr.all_e) (Tr.all_n G_val_Name Tr.all_e Tr.all_e)))))))
end Go.L1
