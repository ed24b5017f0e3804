/- Texts of a proof: no condition. -/
import Derived.Test.YtbmpmjljbiepiaaGreatTwoC
import Derived.Test.YtbmpmjljbiepiaaGreatSeatE
import Derived.KernelRfl
set_option autoImplicit true
set_option relaxedAutoImplicit true
set_option linter.all false
set_option linter.unusedVariables false
set_option linter.unusedSimpArgs false
set_option maxRecDepth 100000
set_option linter.unusedVariables false
namespace Go.L1
open Go Go.Proofs
noncomputable def E_asterismlaw15_LoadOrder : FnE := fun call lp args h => match args with
 | [x0, x1] => F_asterismlaw15_LoadOrder call lp x0 x1 h
 | _ => none
theorem G_asterismlaw15_LoadOrder (sp : List Nat) : Good (pg sp) N_asterismlaw15_LoadOrder E_asterismlaw15_LoadOrder := by
  intro hsp call lp args h r hc hl hh
  unfold E_asterismlaw15_LoadOrder at hh
  split at hh
  · rw [← F_asterismlaw15_LoadOrder_eq sp] at hh
    exact ic_asterismlaw15_LoadOrder hsp _ _ ((F_asterismlaw15_LoadOrder_eq _ _ _ _ _ _).symm.trans (F_mono hc hl hh))
  · cases hh
noncomputable def E_asterismlaw15_begun : FnE := fun call lp args h => match args with
 | [] => F_asterismlaw15_begun call lp  h
 | _ => none
theorem G_asterismlaw15_begun (sp : List Nat) : Good (pg sp) N_asterismlaw15_begun E_asterismlaw15_begun := by
  intro hsp call lp args h r hc hl hh
  unfold E_asterismlaw15_begun at hh
  split at hh
  · rw [← F_asterismlaw15_begun_eq sp] at hh
    exact ic_asterismlaw15_begun hsp ((F_asterismlaw15_begun_eq _ _ _ _).symm.trans (F_mono hc hl hh))
  · cases hh
noncomputable def E_check_Check : FnE := fun call lp args h => match args with
 | [x0] => F_check_Check call lp x0 h
 | _ => none
theorem G_check_Check (sp : List Nat) : Good (pg sp) N_check_Check E_check_Check := by
  intro hsp call lp args h r hc hl hh
  unfold E_check_Check at hh
  split at hh
  · rw [← F_check_Check_eq sp] at hh
    exact ic_check_Check hsp _ ((F_check_Check_eq _ _ _ _ _).symm.trans (F_mono hc hl hh))
  · cases hh
noncomputable def E_load_Load : FnE := fun call lp args h => match args with
 | [x0, x1] => F_load_Load call lp x0 x1 h
 | _ => none
theorem G_load_Load (sp : List Nat) : Good (pg sp) N_load_Load E_load_Load := by
  intro hsp call lp args h r hc hl hh
  unfold E_load_Load at hh
  split at hh
  · rw [← F_load_Load_eq sp] at hh
    exact ic_load_Load hsp _ _ ((F_load_Load_eq _ _ _ _ _ _).symm.trans (F_mono hc hl hh))
  · cases hh
noncomputable def E_asterismlaw12_Star : FnE := fun call lp args h => match args with
 | [] => F_asterismlaw12_Star call lp  h
 | _ => none
theorem G_asterismlaw12_Star (sp : List Nat) : Good (pg sp) N_asterismlaw12_Star E_asterismlaw12_Star := by
  intro hsp call lp args h r hc hl hh
  unfold E_asterismlaw12_Star at hh
  split at hh
  · rw [← F_asterismlaw12_Star_eq sp] at hh
    exact ic_asterismlaw12_Star hsp ((F_asterismlaw12_Star_eq _ _ _ _).symm.trans (F_mono hc hl hh))
  · cases hh
noncomputable def E_asterismlaw15_num : FnE := fun call lp args h => match args with
 | [x0] => F_asterismlaw15_num call lp x0 h
 | _ => none
theorem G_asterismlaw15_num (sp : List Nat) : Good (pg sp) N_asterismlaw15_num E_asterismlaw15_num := by
  intro hsp call lp args h r hc hl hh
  unfold E_asterismlaw15_num at hh
  split at hh
  · rw [← F_asterismlaw15_num_eq sp] at hh
    exact ic_asterismlaw15_num hsp _ ((F_asterismlaw15_num_eq _ _ _ _ _).symm.trans (F_mono hc hl hh))
  · cases hh
noncomputable def E_asterismlaw15_text : FnE := fun call lp args h => match args with
 | [x0] => F_asterismlaw15_text call lp x0 h
 | _ => none
theorem G_asterismlaw15_text (sp : List Nat) : Good (pg sp) N_asterismlaw15_text E_asterismlaw15_text := by
  intro hsp call lp args h r hc hl hh
  unfold E_asterismlaw15_text at hh
  split at hh
  · rw [← F_asterismlaw15_text_eq sp] at hh
    exact ic_asterismlaw15_text hsp _ ((F_asterismlaw15_text_eq _ _ _ _ _).symm.trans (F_mono hc hl hh))
  · cases hh
noncomputable def E_data_DB_Table : FnE := fun call lp args h => match args with
 | [x0, x1] => F_data_DB_Table call lp x0 x1 h
 | _ => none
theorem G_data_DB_Table (sp : List Nat) : Good (pg sp) N_data_DB_Table E_data_DB_Table := by
  intro hsp call lp args h r hc hl hh
  unfold E_data_DB_Table at hh
  split at hh
  · rw [← F_data_DB_Table_eq sp] at hh
    exact ic_data_DB_Table hsp _ _ ((F_data_DB_Table_eq _ _ _ _ _ _).symm.trans (F_mono hc hl hh))
  · cases hh
noncomputable def E_table_Table_Next : FnE := fun call lp args h => match args with
 | [x0] => F_table_Table_Next call lp x0 h
 | _ => none
theorem G_table_Table_Next (sp : List Nat) : Good (pg sp) N_table_Table_Next E_table_Table_Next := by
  intro hsp call lp args h r hc hl hh
  unfold E_table_Table_Next at hh
  split at hh
  · rw [← F_table_Table_Next_eq sp] at hh
    exact ic_table_Table_Next hsp _ ((F_table_Table_Next_eq _ _ _ _ _).symm.trans (F_mono hc hl hh))
  · cases hh
noncomputable def E_data_New : FnE := fun call lp args h => match args with
 | [] => F_data_New call lp  h
 | _ => none
theorem G_data_New (sp : List Nat) : Good (pg sp) N_data_New E_data_New := by
  intro hsp call lp args h r hc hl hh
  unfold E_data_New at hh
  split at hh
  · rw [← F_data_New_eq sp] at hh
    exact ic_data_New hsp ((F_data_New_eq _ _ _ _).symm.trans (F_mono hc hl hh))
  · cases hh
noncomputable def E_bitmap_Map_Count : FnE := fun call lp args h => match args with
 | [x0] => F_bitmap_Map_Count call lp x0 h
 | _ => none
theorem G_bitmap_Map_Count (sp : List Nat) : Good (pg sp) N_bitmap_Map_Count E_bitmap_Map_Count := by
  intro hsp call lp args h r hc hl hh
  unfold E_bitmap_Map_Count at hh
  split at hh
  · rw [← F_bitmap_Map_Count_eq sp] at hh
    exact ic_bitmap_Map_Count hsp _ ((F_bitmap_Map_Count_eq _ _ _ _ _).symm.trans (F_mono hc hl hh))
  · cases hh
noncomputable def E_asterismlaw13_Begun : FnE := fun call lp args h => match args with
 | [] => F_asterismlaw13_Begun call lp  h
 | _ => none
theorem G_asterismlaw13_Begun (sp : List Nat) : Good (pg sp) N_asterismlaw13_Begun E_asterismlaw13_Begun := by
  intro hsp call lp args h r hc hl hh
  unfold E_asterismlaw13_Begun at hh
  split at hh
  · rw [← F_asterismlaw13_Begun_eq sp] at hh
    exact ic_asterismlaw13_Begun hsp ((F_asterismlaw13_Begun_eq _ _ _ _).symm.trans (F_mono hc hl hh))
  · cases hh
noncomputable def E_asterismlaw14_Begun : FnE := fun call lp args h => match args with
 | [] => F_asterismlaw14_Begun call lp  h
 | _ => none
theorem G_asterismlaw14_Begun (sp : List Nat) : Good (pg sp) N_asterismlaw14_Begun E_asterismlaw14_Begun := by
  intro hsp call lp args h r hc hl hh
  unfold E_asterismlaw14_Begun at hh
  split at hh
  · rw [← F_asterismlaw14_Begun_eq sp] at hh
    exact ic_asterismlaw14_Begun hsp ((F_asterismlaw14_Begun_eq _ _ _ _).symm.trans (F_mono hc hl hh))
  · cases hh
noncomputable def E_table_Table_Live : FnE := fun call lp args h => match args with
 | [x0] => F_table_Table_Live call lp x0 h
 | _ => none
theorem G_table_Table_Live (sp : List Nat) : Good (pg sp) N_table_Table_Live E_table_Table_Live := by
  intro hsp call lp args h r hc hl hh
  unfold E_table_Table_Live at hh
  split at hh
  · rw [← F_table_Table_Live_eq sp] at hh
    exact ic_table_Table_Live hsp _ ((F_table_Table_Live_eq _ _ _ _ _).symm.trans (F_mono hc hl hh))
  · cases hh
noncomputable def E_data_DB_Schema : FnE := fun call lp args h => match args with
 | [x0] => F_data_DB_Schema call lp x0 h
 | _ => none
theorem G_data_DB_Schema (sp : List Nat) : Good (pg sp) N_data_DB_Schema E_data_DB_Schema := by
  intro hsp call lp args h r hc hl hh
  unfold E_data_DB_Schema at hh
  split at hh
  · rw [← F_data_DB_Schema_eq sp] at hh
    exact ic_data_DB_Schema hsp _ ((F_data_DB_Schema_eq _ _ _ _ _).symm.trans (F_mono hc hl hh))
  · cases hh
noncomputable def E_schema_Schema_Names : FnE := fun call lp args h => match args with
 | [x0] => F_schema_Schema_Names call lp x0 h
 | _ => none
theorem G_schema_Schema_Names (sp : List Nat) : Good (pg sp) N_schema_Schema_Names E_schema_Schema_Names := by
  intro hsp call lp args h r hc hl hh
  unfold E_schema_Schema_Names at hh
  split at hh
  · rw [← F_schema_Schema_Names_eq sp] at hh
    exact ic_schema_Schema_Names hsp _ ((F_schema_Schema_Names_eq _ _ _ _ _).symm.trans (F_mono hc hl hh))
  · cases hh
noncomputable def E_check_limits : FnE := fun call lp args h => match args with
 | [x0, x1] => F_check_limits call lp x0 x1 h
 | _ => none
theorem G_check_limits (sp : List Nat) : Good (pg sp) N_check_limits E_check_limits := by
  intro hsp call lp args h r hc hl hh
  unfold E_check_limits at hh
  split at hh
  · rw [← F_check_limits_eq sp] at hh
    exact ic_check_limits hsp _ _ ((F_check_limits_eq _ _ _ _ _ _).symm.trans (F_mono hc hl hh))
  · cases hh
noncomputable def E_bitmap_Map_All : FnE := fun call lp args h => match args with
 | [x0] => F_bitmap_Map_All call lp x0 h
 | _ => none
theorem G_bitmap_Map_All (sp : List Nat) : Good (pg sp) N_bitmap_Map_All E_bitmap_Map_All := by
  intro hsp call lp args h r hc hl hh
  unfold E_bitmap_Map_All at hh
  split at hh
  · rw [← F_bitmap_Map_All_eq sp] at hh
    exact ic_bitmap_Map_All hsp _ ((F_bitmap_Map_All_eq _ _ _ _ _).symm.trans (F_mono hc hl hh))
  · cases hh
noncomputable def E_check_row : FnE := fun call lp args h => match args with
 | [x0, x1, x2, x3] => F_check_row call lp x0 x1 x2 x3 h
 | _ => none
theorem G_check_row (sp : List Nat) : Good (pg sp) N_check_row E_check_row := by
  intro hsp call lp args h r hc hl hh
  unfold E_check_row at hh
  split at hh
  · rw [← F_check_row_eq sp] at hh
    exact ic_check_row hsp _ _ _ _ ((F_check_row_eq _ _ _ _ _ _ _ _).symm.trans (F_mono hc hl hh))
  · cases hh
noncomputable def E_data_DB_Copy : FnE := fun call lp args h => match args with
 | [x0] => F_data_DB_Copy call lp x0 h
 | _ => none
theorem G_data_DB_Copy (sp : List Nat) : Good (pg sp) N_data_DB_Copy E_data_DB_Copy := by
  intro hsp call lp args h r hc hl hh
  unfold E_data_DB_Copy at hh
  split at hh
  · rw [← F_data_DB_Copy_eq sp] at hh
    exact ic_data_DB_Copy hsp _ ((F_data_DB_Copy_eq _ _ _ _ _).symm.trans (F_mono hc hl hh))
  · cases hh
noncomputable def E_batch_Apply : FnE := fun call lp args h => match args with
 | [x0, x1] => F_batch_Apply call lp x0 x1 h
 | _ => none
theorem G_batch_Apply (sp : List Nat) : Good (pg sp) N_batch_Apply E_batch_Apply := by
  intro hsp call lp args h r hc hl hh
  unfold E_batch_Apply at hh
  split at hh
  · rw [← F_batch_Apply_eq sp] at hh
    exact ic_batch_Apply hsp _ _ ((F_batch_Apply_eq _ _ _ _ _ _).symm.trans (F_mono hc hl hh))
  · cases hh
noncomputable def E_asterismref12_DB_Check : FnE := fun call lp args h => match args with
 | [x0] => F_asterismref12_DB_Check call lp x0 h
 | _ => none
theorem G_asterismref12_DB_Check (sp : List Nat) : Good (pg sp) N_asterismref12_DB_Check E_asterismref12_DB_Check := by
  intro hsp call lp args h r hc hl hh
  unfold E_asterismref12_DB_Check at hh
  split at hh
  · rw [← F_asterismref12_DB_Check_eq sp] at hh
    exact ic_asterismref12_DB_Check hsp _ ((F_asterismref12_DB_Check_eq _ _ _ _ _).symm.trans (F_mono hc hl hh))
  · cases hh
noncomputable def E_asterismlaw9_Star : FnE := fun call lp args h => match args with
 | [] => F_asterismlaw9_Star call lp  h
 | _ => none
theorem G_asterismlaw9_Star (sp : List Nat) : Good (pg sp) N_asterismlaw9_Star E_asterismlaw9_Star := by
  intro hsp call lp args h r hc hl hh
  unfold E_asterismlaw9_Star at hh
  split at hh
  · rw [← F_asterismlaw9_Star_eq sp] at hh
    exact ic_asterismlaw9_Star hsp ((F_asterismlaw9_Star_eq _ _ _ _).symm.trans (F_mono hc hl hh))
  · cases hh
noncomputable def E_data_DB_Add : FnE := fun call lp args h => match args with
 | [x0, x1] => F_data_DB_Add call lp x0 x1 h
 | _ => none
theorem G_data_DB_Add (sp : List Nat) : Good (pg sp) N_data_DB_Add E_data_DB_Add := by
  intro hsp call lp args h r hc hl hh
  unfold E_data_DB_Add at hh
  split at hh
  · rw [← F_data_DB_Add_eq sp] at hh
    exact ic_data_DB_Add hsp _ _ ((F_data_DB_Add_eq _ _ _ _ _ _).symm.trans (F_mono hc hl hh))
  · cases hh
noncomputable def E_asterismref12_DB_Add : FnE := fun call lp args h => match args with
 | [x0, x1] => F_asterismref12_DB_Add call lp x0 x1 h
 | _ => none
theorem G_asterismref12_DB_Add (sp : List Nat) : Good (pg sp) N_asterismref12_DB_Add E_asterismref12_DB_Add := by
  intro hsp call lp args h r hc hl hh
  unfold E_asterismref12_DB_Add at hh
  split at hh
  · rw [← F_asterismref12_DB_Add_eq sp] at hh
    exact ic_asterismref12_DB_Add hsp _ _ ((F_asterismref12_DB_Add_eq _ _ _ _ _ _).symm.trans (F_mono hc hl hh))
  · cases hh
noncomputable def E_val_Compare : FnE := fun call lp args h => match args with
 | [x0, x1] => F_val_Compare call lp x0 x1 h
 | _ => none
theorem G_val_Compare (sp : List Nat) : Good (pg sp) N_val_Compare E_val_Compare := by
  intro hsp call lp args h r hc hl hh
  unfold E_val_Compare at hh
  split at hh
  · rw [← F_val_Compare_eq sp] at hh
    exact ic_val_Compare hsp _ _ ((F_val_Compare_eq _ _ _ _ _ _).symm.trans (F_mono hc hl hh))
  · cases hh
noncomputable def E_data_DB_Value : FnE := fun call lp args h => match args with
 | [x0, x1, x2, x3] => F_data_DB_Value call lp x0 x1 x2 x3 h
 | _ => none
theorem G_data_DB_Value (sp : List Nat) : Good (pg sp) N_data_DB_Value E_data_DB_Value := by
  intro hsp call lp args h r hc hl hh
  unfold E_data_DB_Value at hh
  split at hh
  · rw [← F_data_DB_Value_eq sp] at hh
    exact ic_data_DB_Value hsp _ _ _ _ ((F_data_DB_Value_eq _ _ _ _ _ _ _ _).symm.trans (F_mono hc hl hh))
  · cases hh
noncomputable def E_bitmap_Of : FnE := fun call lp args h => match args with
 | [x0] => F_bitmap_Of call lp x0 h
 | _ => none
theorem G_bitmap_Of (sp : List Nat) : Good (pg sp) N_bitmap_Of E_bitmap_Of := by
  intro hsp call lp args h r hc hl hh
  unfold E_bitmap_Of at hh
  split at hh
  · rw [← F_bitmap_Of_eq sp] at hh
    exact ic_bitmap_Of hsp _ ((F_bitmap_Of_eq _ _ _ _ _).symm.trans (F_mono hc hl hh))
  · cases hh
noncomputable def E_schema_New : FnE := fun call lp args h => match args with
 | [] => F_schema_New call lp  h
 | _ => none
theorem G_schema_New (sp : List Nat) : Good (pg sp) N_schema_New E_schema_New := by
  intro hsp call lp args h r hc hl hh
  unfold E_schema_New at hh
  split at hh
  · rw [← F_schema_New_eq sp] at hh
    exact ic_schema_New hsp ((F_schema_New_eq _ _ _ _).symm.trans (F_mono hc hl hh))
  · cases hh
noncomputable def E_asterismlaw12_Fill : FnE := fun call lp args h => match args with
 | [x0, x1, x2] => F_asterismlaw12_Fill call lp x0 x1 x2 h
 | _ => none
theorem G_asterismlaw12_Fill (sp : List Nat) : Good (pg sp) N_asterismlaw12_Fill E_asterismlaw12_Fill := by
  intro hsp call lp args h r hc hl hh
  unfold E_asterismlaw12_Fill at hh
  split at hh
  · rw [← F_asterismlaw12_Fill_eq sp] at hh
    exact ic_asterismlaw12_Fill hsp _ _ _ ((F_asterismlaw12_Fill_eq _ _ _ _ _ _ _).symm.trans (F_mono hc hl hh))
  · cases hh
noncomputable def E_table_Table_Delete : FnE := fun call lp args h => match args with
 | [x0, x1] => F_table_Table_Delete call lp x0 x1 h
 | _ => none
theorem G_table_Table_Delete (sp : List Nat) : Good (pg sp) N_table_Table_Delete E_table_Table_Delete := by
  intro hsp call lp args h r hc hl hh
  unfold E_table_Table_Delete at hh
  split at hh
  · rw [← F_table_Table_Delete_eq sp] at hh
    exact ic_table_Table_Delete hsp _ _ ((F_table_Table_Delete_eq _ _ _ _ _ _).symm.trans (F_mono hc hl hh))
  · cases hh
noncomputable def E_bitmap_Map_Has : FnE := fun call lp args h => match args with
 | [x0, x1] => F_bitmap_Map_Has call lp x0 x1 h
 | _ => none
theorem G_bitmap_Map_Has (sp : List Nat) : Good (pg sp) N_bitmap_Map_Has E_bitmap_Map_Has := by
  intro hsp call lp args h r hc hl hh
  unfold E_bitmap_Map_Has at hh
  split at hh
  · rw [← F_bitmap_Map_Has_eq sp] at hh
    exact ic_bitmap_Map_Has hsp _ _ ((F_bitmap_Map_Has_eq _ _ _ _ _ _).symm.trans (F_mono hc hl hh))
  · cases hh
noncomputable def E_bitmap_Map_Rank : FnE := fun call lp args h => match args with
 | [x0, x1] => F_bitmap_Map_Rank call lp x0 x1 h
 | _ => none
theorem G_bitmap_Map_Rank (sp : List Nat) : Good (pg sp) N_bitmap_Map_Rank E_bitmap_Map_Rank := by
  intro hsp call lp args h r hc hl hh
  unfold E_bitmap_Map_Rank at hh
  split at hh
  · rw [← F_bitmap_Map_Rank_eq sp] at hh
    exact ic_bitmap_Map_Rank hsp _ _ ((F_bitmap_Map_Rank_eq _ _ _ _ _ _).symm.trans (F_mono hc hl hh))
  · cases hh
noncomputable def E_bitmap_Or : FnE := fun call lp args h => match args with
 | [x0, x1] => F_bitmap_Or call lp x0 x1 h
 | _ => none
theorem G_bitmap_Or (sp : List Nat) : Good (pg sp) N_bitmap_Or E_bitmap_Or := by
  intro hsp call lp args h r hc hl hh
  unfold E_bitmap_Or at hh
  split at hh
  · rw [← F_bitmap_Or_eq sp] at hh
    exact ic_bitmap_Or hsp _ _ ((F_bitmap_Or_eq _ _ _ _ _ _).symm.trans (F_mono hc hl hh))
  · cases hh
noncomputable def E_asterismlaw13_begun : FnE := fun call lp args h => match args with
 | [] => F_asterismlaw13_begun call lp  h
 | _ => none
theorem G_asterismlaw13_begun (sp : List Nat) : Good (pg sp) N_asterismlaw13_begun E_asterismlaw13_begun := by
  intro hsp call lp args h r hc hl hh
  unfold E_asterismlaw13_begun at hh
  split at hh
  · rw [← F_asterismlaw13_begun_eq sp] at hh
    exact ic_asterismlaw13_begun hsp ((F_asterismlaw13_begun_eq _ _ _ _).symm.trans (F_mono hc hl hh))
  · cases hh
noncomputable def E_asterismlaw14_begun : FnE := fun call lp args h => match args with
 | [] => F_asterismlaw14_begun call lp  h
 | _ => none
theorem G_asterismlaw14_begun (sp : List Nat) : Good (pg sp) N_asterismlaw14_begun E_asterismlaw14_begun := by
  intro hsp call lp args h r hc hl hh
  unfold E_asterismlaw14_begun at hh
  split at hh
  · rw [← F_asterismlaw14_begun_eq sp] at hh
    exact ic_asterismlaw14_begun hsp ((F_asterismlaw14_begun_eq _ _ _ _).symm.trans (F_mono hc hl hh))
  · cases hh
noncomputable def E_table_Table_Form : FnE := fun call lp args h => match args with
 | [x0] => F_table_Table_Form call lp x0 h
 | _ => none
theorem G_table_Table_Form (sp : List Nat) : Good (pg sp) N_table_Table_Form E_table_Table_Form := by
  intro hsp call lp args h r hc hl hh
  unfold E_table_Table_Form at hh
  split at hh
  · rw [← F_table_Table_Form_eq sp] at hh
    exact ic_table_Table_Form hsp _ ((F_table_Table_Form_eq _ _ _ _ _).symm.trans (F_mono hc hl hh))
  · cases hh
noncomputable def E_table_Table_Words : FnE := fun call lp args h => match args with
 | [x0, x1] => F_table_Table_Words call lp x0 x1 h
 | _ => none
theorem G_table_Table_Words (sp : List Nat) : Good (pg sp) N_table_Table_Words E_table_Table_Words := by
  intro hsp call lp args h r hc hl hh
  unfold E_table_Table_Words at hh
  split at hh
  · rw [← F_table_Table_Words_eq sp] at hh
    exact ic_table_Table_Words hsp _ _ ((F_table_Table_Words_eq _ _ _ _ _ _).symm.trans (F_mono hc hl hh))
  · cases hh
noncomputable def E_bitmap_Map_All_1 : FnE := fun call lp args h => match args with
 | [x0, x1] => F_bitmap_Map_All_1 call lp x0 x1 h
 | _ => none
theorem G_bitmap_Map_All_1 (sp : List Nat) : Good (pg sp) N_bitmap_Map_All_1 E_bitmap_Map_All_1 := by
  intro hsp call lp args h r hc hl hh
  unfold E_bitmap_Map_All_1 at hh
  split at hh
  · rw [← F_bitmap_Map_All_1_eq sp] at hh
    exact ic_bitmap_Map_All_1 hsp _ _ ((F_bitmap_Map_All_1_eq _ _ _ _ _ _).symm.trans (F_mono hc hl hh))
  · cases hh
noncomputable def E_table_Table_Get : FnE := fun call lp args h => match args with
 | [x0, x1, x2] => F_table_Table_Get call lp x0 x1 x2 h
 | _ => none
theorem G_table_Table_Get (sp : List Nat) : Good (pg sp) N_table_Table_Get E_table_Table_Get := by
  intro hsp call lp args h r hc hl hh
  unfold E_table_Table_Get at hh
  split at hh
  · rw [← F_table_Table_Get_eq sp] at hh
    exact ic_table_Table_Get hsp _ _ _ ((F_table_Table_Get_eq _ _ _ _ _ _ _).symm.trans (F_mono hc hl hh))
  · cases hh
noncomputable def E_check_alike : FnE := fun call lp args h => match args with
 | [x0, x1, x2, x3] => F_check_alike call lp x0 x1 x2 x3 h
 | _ => none
theorem G_check_alike (sp : List Nat) : Good (pg sp) N_check_alike E_check_alike := by
  intro hsp call lp args h r hc hl hh
  unfold E_check_alike at hh
  split at hh
  · rw [← F_check_alike_eq sp] at hh
    exact ic_check_alike hsp _ _ _ _ ((F_check_alike_eq _ _ _ _ _ _ _ _).symm.trans (F_mono hc hl hh))
  · cases hh
noncomputable def E_data_DB_ByKey : FnE := fun call lp args h => match args with
 | [x0, x1, x2] => F_data_DB_ByKey call lp x0 x1 x2 h
 | _ => none
theorem G_data_DB_ByKey (sp : List Nat) : Good (pg sp) N_data_DB_ByKey E_data_DB_ByKey := by
  intro hsp call lp args h r hc hl hh
  unfold E_data_DB_ByKey at hh
  split at hh
  · rw [← F_data_DB_ByKey_eq sp] at hh
    exact ic_data_DB_ByKey hsp _ _ _ ((F_data_DB_ByKey_eq _ _ _ _ _ _ _).symm.trans (F_mono hc hl hh))
  · cases hh
noncomputable def E_check_breaks : FnE := fun call lp args h => match args with
 | [x0, x1, x2, x3] => F_check_breaks call lp x0 x1 x2 x3 h
 | _ => none
theorem G_check_breaks (sp : List Nat) : Good (pg sp) N_check_breaks E_check_breaks := by
  intro hsp call lp args h r hc hl hh
  unfold E_check_breaks at hh
  split at hh
  · rw [← F_check_breaks_eq sp] at hh
    exact ic_check_breaks hsp _ _ _ _ ((F_check_breaks_eq _ _ _ _ _ _ _ _).symm.trans (F_mono hc hl hh))
  · cases hh
noncomputable def E_schema_Schema_Find : FnE := fun call lp args h => match args with
 | [x0, x1] => F_schema_Schema_Find call lp x0 x1 h
 | _ => none
theorem G_schema_Schema_Find (sp : List Nat) : Good (pg sp) N_schema_Schema_Find E_schema_Schema_Find := by
  intro hsp call lp args h r hc hl hh
  unfold E_schema_Schema_Find at hh
  split at hh
  · rw [← F_schema_Schema_Find_eq sp] at hh
    exact ic_schema_Schema_Find hsp _ _ ((F_schema_Schema_Find_eq _ _ _ _ _ _).symm.trans (F_mono hc hl hh))
  · cases hh
noncomputable def E_schema_Schema_Add : FnE := fun call lp args h => match args with
 | [x0, x1] => F_schema_Schema_Add call lp x0 x1 h
 | _ => none
theorem G_schema_Schema_Add (sp : List Nat) : Good (pg sp) N_schema_Schema_Add E_schema_Schema_Add := by
  intro hsp call lp args h r hc hl hh
  unfold E_schema_Schema_Add at hh
  split at hh
  · rw [← F_schema_Schema_Add_eq sp] at hh
    exact ic_schema_Schema_Add hsp _ _ ((F_schema_Schema_Add_eq _ _ _ _ _ _).symm.trans (F_mono hc hl hh))
  · cases hh
noncomputable def E_table_Table_Copy : FnE := fun call lp args h => match args with
 | [x0] => F_table_Table_Copy call lp x0 h
 | _ => none
theorem G_table_Table_Copy (sp : List Nat) : Good (pg sp) N_table_Table_Copy E_table_Table_Copy := by
  intro hsp call lp args h r hc hl hh
  unfold E_table_Table_Copy at hh
  split at hh
  · rw [← F_table_Table_Copy_eq sp] at hh
    exact ic_table_Table_Copy hsp _ ((F_table_Table_Copy_eq _ _ _ _ _).symm.trans (F_mono hc hl hh))
  · cases hh
noncomputable def E_batch_one : FnE := fun call lp args h => match args with
 | [x0, x1] => F_batch_one call lp x0 x1 h
 | _ => none
theorem G_batch_one (sp : List Nat) : Good (pg sp) N_batch_one E_batch_one := by
  intro hsp call lp args h r hc hl hh
  unfold E_batch_one at hh
  split at hh
  · rw [← F_batch_one_eq sp] at hh
    exact ic_batch_one hsp _ _ ((F_batch_one_eq _ _ _ _ _ _).symm.trans (F_mono hc hl hh))
  · cases hh
noncomputable def E_table_Table_Row : FnE := fun call lp args h => match args with
 | [x0, x1] => F_table_Table_Row call lp x0 x1 h
 | _ => none
theorem G_table_Table_Row (sp : List Nat) : Good (pg sp) N_table_Table_Row E_table_Table_Row := by
  intro hsp call lp args h r hc hl hh
  unfold E_table_Table_Row at hh
  split at hh
  · rw [← F_table_Table_Row_eq sp] at hh
    exact ic_table_Table_Row hsp _ _ ((F_table_Table_Row_eq _ _ _ _ _ _).symm.trans (F_mono hc hl hh))
  · cases hh
noncomputable def E_asterismref12_DB_Words : FnE := fun call lp args h => match args with
 | [x0, x1, x2] => F_asterismref12_DB_Words call lp x0 x1 x2 h
 | _ => none
theorem G_asterismref12_DB_Words (sp : List Nat) : Good (pg sp) N_asterismref12_DB_Words E_asterismref12_DB_Words := by
  intro hsp call lp args h r hc hl hh
  unfold E_asterismref12_DB_Words at hh
  split at hh
  · rw [← F_asterismref12_DB_Words_eq sp] at hh
    exact ic_asterismref12_DB_Words hsp _ _ _ ((F_asterismref12_DB_Words_eq _ _ _ _ _ _ _).symm.trans (F_mono hc hl hh))
  · cases hh
noncomputable def E_asterismref12_DB_row : FnE := fun call lp args h => match args with
 | [x0, x1, x2] => F_asterismref12_DB_row call lp x0 x1 x2 h
 | _ => none
theorem G_asterismref12_DB_row (sp : List Nat) : Good (pg sp) N_asterismref12_DB_row E_asterismref12_DB_row := by
  intro hsp call lp args h r hc hl hh
  unfold E_asterismref12_DB_row at hh
  split at hh
  · rw [← F_asterismref12_DB_row_eq sp] at hh
    exact ic_asterismref12_DB_row hsp _ _ _ ((F_asterismref12_DB_row_eq _ _ _ _ _ _ _).symm.trans (F_mono hc hl hh))
  · cases hh
noncomputable def E_table_New : FnE := fun call lp args h => match args with
 | [x0] => F_table_New call lp x0 h
 | _ => none
theorem G_table_New (sp : List Nat) : Good (pg sp) N_table_New E_table_New := by
  intro hsp call lp args h r hc hl hh
  unfold E_table_New at hh
  split at hh
  · rw [← F_table_New_eq sp] at hh
    exact ic_table_New hsp _ ((F_table_New_eq _ _ _ _ _).symm.trans (F_mono hc hl hh))
  · cases hh
noncomputable def E_asterismref8_Schema_May : FnE := fun call lp args h => match args with
 | [x0, x1] => F_asterismref8_Schema_May call lp x0 x1 h
 | _ => none
theorem G_asterismref8_Schema_May (sp : List Nat) : Good (pg sp) N_asterismref8_Schema_May E_asterismref8_Schema_May := by
  intro hsp call lp args h r hc hl hh
  unfold E_asterismref8_Schema_May at hh
  split at hh
  · rw [← F_asterismref8_Schema_May_eq sp] at hh
    exact ic_asterismref8_Schema_May hsp _ _ ((F_asterismref8_Schema_May_eq _ _ _ _ _ _).symm.trans (F_mono hc hl hh))
  · cases hh
noncomputable def E_asterismref8_Form : FnE := fun call lp args h => match args with
 | [x0] => F_asterismref8_Form call lp x0 h
 | _ => none
theorem G_asterismref8_Form (sp : List Nat) : Good (pg sp) N_asterismref8_Form E_asterismref8_Form := by
  intro hsp call lp args h r hc hl hh
  unfold E_asterismref8_Form at hh
  split at hh
  · rw [← F_asterismref8_Form_eq sp] at hh
    exact ic_asterismref8_Form hsp _ ((F_asterismref8_Form_eq _ _ _ _ _).symm.trans (F_mono hc hl hh))
  · cases hh
noncomputable def E_cmp_Or_int : FnE := fun call lp args h => match args with
 | [x0] => F_cmp_Or_int call lp x0 h
 | _ => none
theorem G_cmp_Or_int (sp : List Nat) : Good (pg sp) N_cmp_Or_int E_cmp_Or_int := by
  intro hsp call lp args h r hc hl hh
  unfold E_cmp_Or_int at hh
  split at hh
  · rw [← F_cmp_Or_int_eq sp] at hh
    exact ic_cmp_Or_int hsp _ ((F_cmp_Or_int_eq _ _ _ _ _).symm.trans (F_mono hc hl hh))
  · cases hh
noncomputable def E_cmp_Compare_int : FnE := fun call lp args h => match args with
 | [x0, x1] => F_cmp_Compare_int call lp x0 x1 h
 | _ => none
theorem G_cmp_Compare_int (sp : List Nat) : Good (pg sp) N_cmp_Compare_int E_cmp_Compare_int := by
  intro hsp call lp args h r hc hl hh
  unfold E_cmp_Compare_int at hh
  split at hh
  · rw [← F_cmp_Compare_int_eq sp] at hh
    exact ic_cmp_Compare_int hsp _ _ ((F_cmp_Compare_int_eq _ _ _ _ _ _).symm.trans (F_mono hc hl hh))
  · cases hh
noncomputable def E_cmp_Compare_int64 : FnE := fun call lp args h => match args with
 | [x0, x1] => F_cmp_Compare_int64 call lp x0 x1 h
 | _ => none
theorem G_cmp_Compare_int64 (sp : List Nat) : Good (pg sp) N_cmp_Compare_int64 E_cmp_Compare_int64 := by
  intro hsp call lp args h r hc hl hh
  unfold E_cmp_Compare_int64 at hh
  split at hh
  · rw [← F_cmp_Compare_int64_eq sp] at hh
    exact ic_cmp_Compare_int64 hsp _ _ ((F_cmp_Compare_int64_eq _ _ _ _ _ _).symm.trans (F_mono hc hl hh))
  · cases hh
noncomputable def E_cmp_Compare_string : FnE := fun call lp args h => match args with
 | [x0, x1] => F_cmp_Compare_string call lp x0 x1 h
 | _ => none
theorem G_cmp_Compare_string (sp : List Nat) : Good (pg sp) N_cmp_Compare_string E_cmp_Compare_string := by
  intro hsp call lp args h r hc hl hh
  unfold E_cmp_Compare_string at hh
  split at hh
  · rw [← F_cmp_Compare_string_eq sp] at hh
    exact ic_cmp_Compare_string hsp _ _ ((F_cmp_Compare_string_eq _ _ _ _ _ _).symm.trans (F_mono hc hl hh))
  · cases hh
noncomputable def E_path_Col : FnE := fun call lp args h => match args with
 | [x0, x1, x2] => F_path_Col call lp x0 x1 x2 h
 | _ => none
theorem G_path_Col (sp : List Nat) : Good (pg sp) N_path_Col E_path_Col := by
  intro hsp call lp args h r hc hl hh
  unfold E_path_Col at hh
  split at hh
  · rw [← F_path_Col_eq sp] at hh
    exact ic_path_Col hsp _ _ _ ((F_path_Col_eq _ _ _ _ _ _ _).symm.trans (F_mono hc hl hh))
  · cases hh
noncomputable def E_schema_Schema_Col : FnE := fun call lp args h => match args with
 | [x0, x1, x2] => F_schema_Schema_Col call lp x0 x1 x2 h
 | _ => none
theorem G_schema_Schema_Col (sp : List Nat) : Good (pg sp) N_schema_Schema_Col E_schema_Schema_Col := by
  intro hsp call lp args h r hc hl hh
  unfold E_schema_Schema_Col at hh
  split at hh
  · rw [← F_schema_Schema_Col_eq sp] at hh
    exact ic_schema_Schema_Col hsp _ _ _ ((F_schema_Schema_Col_eq _ _ _ _ _ _ _).symm.trans (F_mono hc hl hh))
  · cases hh
noncomputable def E_slices_Clone_int_int : FnE := fun call lp args h => match args with
 | [x0] => F_slices_Clone_int_int call lp x0 h
 | _ => none
theorem G_slices_Clone_int_int (sp : List Nat) : Good (pg sp) N_slices_Clone_int_int E_slices_Clone_int_int := by
  intro hsp call lp args h r hc hl hh
  unfold E_slices_Clone_int_int at hh
  split at hh
  · rw [← F_slices_Clone_int_int_eq sp] at hh
    exact ic_slices_Clone_int_int hsp _ ((F_slices_Clone_int_int_eq _ _ _ _ _).symm.trans (F_mono hc hl hh))
  · cases hh
noncomputable def E_slices_Sort_int_int : FnE := fun call lp args h => match args with
 | [x0] => F_slices_Sort_int_int call lp x0 h
 | _ => none
theorem G_slices_Sort_int_int (sp : List Nat) : Good (pg sp) N_slices_Sort_int_int E_slices_Sort_int_int := by
  intro hsp call lp args h r hc hl hh
  unfold E_slices_Sort_int_int at hh
  split at hh
  · rw [← F_slices_Sort_int_int_eq sp] at hh
    exact ic_slices_Sort_int_int hsp _ ((F_slices_Sort_int_int_eq _ _ _ _ _).symm.trans (F_mono hc hl hh))
  · cases hh
noncomputable def E_bitmap_Map_add : FnE := fun call lp args h => match args with
 | [x0, x1, x2] => F_bitmap_Map_add call lp x0 x1 x2 h
 | _ => none
theorem G_bitmap_Map_add (sp : List Nat) : Good (pg sp) N_bitmap_Map_add E_bitmap_Map_add := by
  intro hsp call lp args h r hc hl hh
  unfold E_bitmap_Map_add at hh
  split at hh
  · rw [← F_bitmap_Map_add_eq sp] at hh
    exact ic_bitmap_Map_add hsp _ _ _ ((F_bitmap_Map_add_eq _ _ _ _ _ _ _).symm.trans (F_mono hc hl hh))
  · cases hh
noncomputable def E_asterismref8_Schema_Find : FnE := fun call lp args h => match args with
 | [x0, x1] => F_asterismref8_Schema_Find call lp x0 x1 h
 | _ => none
theorem G_asterismref8_Schema_Find (sp : List Nat) : Good (pg sp) N_asterismref8_Schema_Find E_asterismref8_Schema_Find := by
  intro hsp call lp args h r hc hl hh
  unfold E_asterismref8_Schema_Find at hh
  split at hh
  · rw [← F_asterismref8_Schema_Find_eq sp] at hh
    exact ic_asterismref8_Schema_Find hsp _ _ ((F_asterismref8_Schema_Find_eq _ _ _ _ _ _).symm.trans (F_mono hc hl hh))
  · cases hh
noncomputable def E_table_Table_Insert : FnE := fun call lp args h => match args with
 | [x0, x1] => F_table_Table_Insert call lp x0 x1 h
 | _ => none
theorem G_table_Table_Insert (sp : List Nat) : Good (pg sp) N_table_Table_Insert E_table_Table_Insert := by
  intro hsp call lp args h r hc hl hh
  unfold E_table_Table_Insert at hh
  split at hh
  · rw [← F_table_Table_Insert_eq sp] at hh
    exact ic_table_Table_Insert hsp _ _ ((F_table_Table_Insert_eq _ _ _ _ _ _).symm.trans (F_mono hc hl hh))
  · cases hh
noncomputable def E_asterismref12_DB_Insert : FnE := fun call lp args h => match args with
 | [x0, x1, x2] => F_asterismref12_DB_Insert call lp x0 x1 x2 h
 | _ => none
theorem G_asterismref12_DB_Insert (sp : List Nat) : Good (pg sp) N_asterismref12_DB_Insert E_asterismref12_DB_Insert := by
  intro hsp call lp args h r hc hl hh
  unfold E_asterismref12_DB_Insert at hh
  split at hh
  · rw [← F_asterismref12_DB_Insert_eq sp] at hh
    exact ic_asterismref12_DB_Insert hsp _ _ _ ((F_asterismref12_DB_Insert_eq _ _ _ _ _ _ _).symm.trans (F_mono hc hl hh))
  · cases hh
noncomputable def E_table_Table_Set : FnE := fun call lp args h => match args with
 | [x0, x1, x2, x3] => F_table_Table_Set call lp x0 x1 x2 x3 h
 | _ => none
theorem G_table_Table_Set (sp : List Nat) : Good (pg sp) N_table_Table_Set E_table_Table_Set := by
  intro hsp call lp args h r hc hl hh
  unfold E_table_Table_Set at hh
  split at hh
  · rw [← F_table_Table_Set_eq sp] at hh
    exact ic_table_Table_Set hsp _ _ _ _ ((F_table_Table_Set_eq _ _ _ _ _ _ _ _).symm.trans (F_mono hc hl hh))
  · cases hh
noncomputable def E_bitmap_Without : FnE := fun call lp args h => match args with
 | [x0, x1] => F_bitmap_Without call lp x0 x1 h
 | _ => none
theorem G_bitmap_Without (sp : List Nat) : Good (pg sp) N_bitmap_Without E_bitmap_Without := by
  intro hsp call lp args h r hc hl hh
  unfold E_bitmap_Without at hh
  split at hh
  · rw [← F_bitmap_Without_eq sp] at hh
    exact ic_bitmap_Without hsp _ _ ((F_bitmap_Without_eq _ _ _ _ _ _).symm.trans (F_mono hc hl hh))
  · cases hh
noncomputable def E_column_Column_Set : FnE := fun call lp args h => match args with
 | [x0, x1, x2] => F_column_Column_Set call lp x0 x1 x2 h
 | _ => none
theorem G_column_Column_Set (sp : List Nat) : Good (pg sp) N_column_Column_Set E_column_Column_Set := by
  intro hsp call lp args h r hc hl hh
  unfold E_column_Column_Set at hh
  split at hh
  · rw [← F_column_Column_Set_eq sp] at hh
    exact ic_column_Column_Set hsp _ _ _ ((F_column_Column_Set_eq _ _ _ _ _ _ _).symm.trans (F_mono hc hl hh))
  · cases hh
noncomputable def E_slices_ContainsFunc_2_int_2_int : FnE := fun call lp args h => match args with
 | [x0, x1] => F_slices_ContainsFunc_2_int_2_int call lp x0 x1 h
 | _ => none
theorem G_slices_ContainsFunc_2_int_2_int (sp : List Nat) : Good (pg sp) N_slices_ContainsFunc_2_int_2_int E_slices_ContainsFunc_2_int_2_int := by
  intro hsp call lp args h r hc hl hh
  unfold E_slices_ContainsFunc_2_int_2_int at hh
  split at hh
  · rw [← F_slices_ContainsFunc_2_int_2_int_eq sp] at hh
    exact ic_slices_ContainsFunc_2_int_2_int hsp _ _ ((F_slices_ContainsFunc_2_int_2_int_eq _ _ _ _ _ _).symm.trans (F_mono hc hl hh))
  · cases hh
noncomputable def E_bitmap_Map_Has_1 : FnE := fun call lp args h => match args with
 | [x0, x1] => F_bitmap_Map_Has_1 call lp x0 x1 h
 | _ => none
theorem G_bitmap_Map_Has_1 (sp : List Nat) : Good (pg sp) N_bitmap_Map_Has_1 E_bitmap_Map_Has_1 := by
  intro hsp call lp args h r hc hl hh
  unfold E_bitmap_Map_Has_1 at hh
  split at hh
  · rw [← F_bitmap_Map_Has_1_eq sp] at hh
    exact ic_bitmap_Map_Has_1 hsp _ _ ((F_bitmap_Map_Has_1_eq _ _ _ _ _ _).symm.trans (F_mono hc hl hh))
  · cases hh
noncomputable def E_slices_Concat_2_int_2_int : FnE := fun call lp args h => match args with
 | [x0] => F_slices_Concat_2_int_2_int call lp x0 h
 | _ => none
theorem G_slices_Concat_2_int_2_int (sp : List Nat) : Good (pg sp) N_slices_Concat_2_int_2_int E_slices_Concat_2_int_2_int := by
  intro hsp call lp args h r hc hl hh
  unfold E_slices_Concat_2_int_2_int at hh
  split at hh
  · rw [← F_slices_Concat_2_int_2_int_eq sp] at hh
    exact ic_slices_Concat_2_int_2_int hsp _ ((F_slices_Concat_2_int_2_int_eq _ _ _ _ _).symm.trans (F_mono hc hl hh))
  · cases hh
noncomputable def E_slices_SortFunc_2_int_2_int : FnE := fun call lp args h => match args with
 | [x0, x1] => F_slices_SortFunc_2_int_2_int call lp x0 x1 h
 | _ => none
theorem G_slices_SortFunc_2_int_2_int (sp : List Nat) : Good (pg sp) N_slices_SortFunc_2_int_2_int E_slices_SortFunc_2_int_2_int := by
  intro hsp call lp args h r hc hl hh
  unfold E_slices_SortFunc_2_int_2_int at hh
  split at hh
  · rw [← F_slices_SortFunc_2_int_2_int_eq sp] at hh
    exact ic_slices_SortFunc_2_int_2_int hsp _ _ ((F_slices_SortFunc_2_int_2_int_eq _ _ _ _ _ _).symm.trans (F_mono hc hl hh))
  · cases hh
noncomputable def E_bitmap_Or_1 : FnE := fun call lp args h => match args with
 | [x0, x1] => F_bitmap_Or_1 call lp x0 x1 h
 | _ => none
theorem G_bitmap_Or_1 (sp : List Nat) : Good (pg sp) N_bitmap_Or_1 E_bitmap_Or_1 := by
  intro hsp call lp args h r hc hl hh
  unfold E_bitmap_Or_1 at hh
  split at hh
  · rw [← F_bitmap_Or_1_eq sp] at hh
    exact ic_bitmap_Or_1 hsp _ _ ((F_bitmap_Or_1_eq _ _ _ _ _ _).symm.trans (F_mono hc hl hh))
  · cases hh
noncomputable def E_asterismlaw13_num : FnE := fun call lp args h => match args with
 | [x0] => F_asterismlaw13_num call lp x0 h
 | _ => none
theorem G_asterismlaw13_num (sp : List Nat) : Good (pg sp) N_asterismlaw13_num E_asterismlaw13_num := by
  intro hsp call lp args h r hc hl hh
  unfold E_asterismlaw13_num at hh
  split at hh
  · rw [← F_asterismlaw13_num_eq sp] at hh
    exact ic_asterismlaw13_num hsp _ ((F_asterismlaw13_num_eq _ _ _ _ _).symm.trans (F_mono hc hl hh))
  · cases hh
noncomputable def E_asterismlaw13_text : FnE := fun call lp args h => match args with
 | [x0] => F_asterismlaw13_text call lp x0 h
 | _ => none
theorem G_asterismlaw13_text (sp : List Nat) : Good (pg sp) N_asterismlaw13_text E_asterismlaw13_text := by
  intro hsp call lp args h r hc hl hh
  unfold E_asterismlaw13_text at hh
  split at hh
  · rw [← F_asterismlaw13_text_eq sp] at hh
    exact ic_asterismlaw13_text hsp _ ((F_asterismlaw13_text_eq _ _ _ _ _).symm.trans (F_mono hc hl hh))
  · cases hh
noncomputable def E_asterismlaw12_Begun : FnE := fun call lp args h => match args with
 | [] => F_asterismlaw12_Begun call lp  h
 | _ => none
theorem G_asterismlaw12_Begun (sp : List Nat) : Good (pg sp) N_asterismlaw12_Begun E_asterismlaw12_Begun := by
  intro hsp call lp args h r hc hl hh
  unfold E_asterismlaw12_Begun at hh
  split at hh
  · rw [← F_asterismlaw12_Begun_eq sp] at hh
    exact ic_asterismlaw12_Begun hsp ((F_asterismlaw12_Begun_eq _ _ _ _).symm.trans (F_mono hc hl hh))
  · cases hh
noncomputable def E_asterismlaw14_put : FnE := fun call lp args h => match args with
 | [x0, x1] => F_asterismlaw14_put call lp x0 x1 h
 | _ => none
theorem G_asterismlaw14_put (sp : List Nat) : Good (pg sp) N_asterismlaw14_put E_asterismlaw14_put := by
  intro hsp call lp args h r hc hl hh
  unfold E_asterismlaw14_put at hh
  split at hh
  · rw [← F_asterismlaw14_put_eq sp] at hh
    exact ic_asterismlaw14_put hsp _ _ ((F_asterismlaw14_put_eq _ _ _ _ _ _).symm.trans (F_mono hc hl hh))
  · cases hh
noncomputable def E_asterismlaw14_num : FnE := fun call lp args h => match args with
 | [x0] => F_asterismlaw14_num call lp x0 h
 | _ => none
theorem G_asterismlaw14_num (sp : List Nat) : Good (pg sp) N_asterismlaw14_num E_asterismlaw14_num := by
  intro hsp call lp args h r hc hl hh
  unfold E_asterismlaw14_num at hh
  split at hh
  · rw [← F_asterismlaw14_num_eq sp] at hh
    exact ic_asterismlaw14_num hsp _ ((F_asterismlaw14_num_eq _ _ _ _ _).symm.trans (F_mono hc hl hh))
  · cases hh
noncomputable def E_asterismlaw14_text : FnE := fun call lp args h => match args with
 | [x0] => F_asterismlaw14_text call lp x0 h
 | _ => none
theorem G_asterismlaw14_text (sp : List Nat) : Good (pg sp) N_asterismlaw14_text E_asterismlaw14_text := by
  intro hsp call lp args h r hc hl hh
  unfold E_asterismlaw14_text at hh
  split at hh
  · rw [← F_asterismlaw14_text_eq sp] at hh
    exact ic_asterismlaw14_text hsp _ ((F_asterismlaw14_text_eq _ _ _ _ _).symm.trans (F_mono hc hl hh))
  · cases hh
noncomputable def E_slices_Clone_api_Col_api_Col : FnE := fun call lp args h => match args with
 | [x0] => F_slices_Clone_api_Col_api_Col call lp x0 h
 | _ => none
theorem G_slices_Clone_api_Col_api_Col (sp : List Nat) : Good (pg sp) N_slices_Clone_api_Col_api_Col E_slices_Clone_api_Col_api_Col := by
  intro hsp call lp args h r hc hl hh
  unfold E_slices_Clone_api_Col_api_Col at hh
  split at hh
  · rw [← F_slices_Clone_api_Col_api_Col_eq sp] at hh
    exact ic_slices_Clone_api_Col_api_Col hsp _ ((F_slices_Clone_api_Col_api_Col_eq _ _ _ _ _).symm.trans (F_mono hc hl hh))
  · cases hh
noncomputable def E_slices_Clone_api_Dep_api_Dep : FnE := fun call lp args h => match args with
 | [x0] => F_slices_Clone_api_Dep_api_Dep call lp x0 h
 | _ => none
theorem G_slices_Clone_api_Dep_api_Dep (sp : List Nat) : Good (pg sp) N_slices_Clone_api_Dep_api_Dep E_slices_Clone_api_Dep_api_Dep := by
  intro hsp call lp args h r hc hl hh
  unfold E_slices_Clone_api_Dep_api_Dep at hh
  split at hh
  · rw [← F_slices_Clone_api_Dep_api_Dep_eq sp] at hh
    exact ic_slices_Clone_api_Dep_api_Dep hsp _ ((F_slices_Clone_api_Dep_api_Dep_eq _ _ _ _ _).symm.trans (F_mono hc hl hh))
  · cases hh
noncomputable def E_slices_Clone_string_string : FnE := fun call lp args h => match args with
 | [x0] => F_slices_Clone_string_string call lp x0 h
 | _ => none
theorem G_slices_Clone_string_string (sp : List Nat) : Good (pg sp) N_slices_Clone_string_string E_slices_Clone_string_string := by
  intro hsp call lp args h r hc hl hh
  unfold E_slices_Clone_string_string at hh
  split at hh
  · rw [← F_slices_Clone_string_string_eq sp] at hh
    exact ic_slices_Clone_string_string hsp _ ((F_slices_Clone_string_string_eq _ _ _ _ _).symm.trans (F_mono hc hl hh))
  · cases hh
noncomputable def E_table_Table_col : FnE := fun call lp args h => match args with
 | [x0, x1] => F_table_Table_col call lp x0 x1 h
 | _ => none
theorem G_table_Table_col (sp : List Nat) : Good (pg sp) N_table_Table_col E_table_Table_col := by
  intro hsp call lp args h r hc hl hh
  unfold E_table_Table_col at hh
  split at hh
  · rw [← F_table_Table_col_eq sp] at hh
    exact ic_table_Table_col hsp _ _ ((F_table_Table_col_eq _ _ _ _ _ _).symm.trans (F_mono hc hl hh))
  · cases hh
noncomputable def E_column_Column_Words : FnE := fun call lp args h => match args with
 | [x0] => F_column_Column_Words call lp x0 h
 | _ => none
theorem G_column_Column_Words (sp : List Nat) : Good (pg sp) N_column_Column_Words E_column_Column_Words := by
  intro hsp call lp args h r hc hl hh
  unfold E_column_Column_Words at hh
  split at hh
  · rw [← F_column_Column_Words_eq sp] at hh
    exact ic_column_Column_Words hsp _ ((F_column_Column_Words_eq _ _ _ _ _).symm.trans (F_mono hc hl hh))
  · cases hh
noncomputable def E_column_Column_At : FnE := fun call lp args h => match args with
 | [x0, x1] => F_column_Column_At call lp x0 x1 h
 | _ => none
theorem G_column_Column_At (sp : List Nat) : Good (pg sp) N_column_Column_At E_column_Column_At := by
  intro hsp call lp args h r hc hl hh
  unfold E_column_Column_At at hh
  split at hh
  · rw [← F_column_Column_At_eq sp] at hh
    exact ic_column_Column_At hsp _ _ ((F_column_Column_At_eq _ _ _ _ _ _).symm.trans (F_mono hc hl hh))
  · cases hh
noncomputable def E_val_Eq : FnE := fun call lp args h => match args with
 | [x0, x1] => F_val_Eq call lp x0 x1 h
 | _ => none
theorem G_val_Eq (sp : List Nat) : Good (pg sp) N_val_Eq E_val_Eq := by
  intro hsp call lp args h r hc hl hh
  unfold E_val_Eq at hh
  split at hh
  · rw [← F_val_Eq_eq sp] at hh
    exact ic_val_Eq hsp _ _ ((F_val_Eq_eq _ _ _ _ _ _).symm.trans (F_mono hc hl hh))
  · cases hh
noncomputable def E_slices_IndexFunc_api_Table_api_Table : FnE := fun call lp args h => match args with
 | [x0, x1] => F_slices_IndexFunc_api_Table_api_Table call lp x0 x1 h
 | _ => none
theorem G_slices_IndexFunc_api_Table_api_Table (sp : List Nat) : Good (pg sp) N_slices_IndexFunc_api_Table_api_Table E_slices_IndexFunc_api_Table_api_Table := by
  intro hsp call lp args h r hc hl hh
  unfold E_slices_IndexFunc_api_Table_api_Table at hh
  split at hh
  · rw [← F_slices_IndexFunc_api_Table_api_Table_eq sp] at hh
    exact ic_slices_IndexFunc_api_Table_api_Table hsp _ _ ((F_slices_IndexFunc_api_Table_api_Table_eq _ _ _ _ _ _).symm.trans (F_mono hc hl hh))
  · cases hh
noncomputable def E_schema_Schema_Find_1 : FnE := fun call lp args h => match args with
 | [x0, x1] => F_schema_Schema_Find_1 call lp x0 x1 h
 | _ => none
theorem G_schema_Schema_Find_1 (sp : List Nat) : Good (pg sp) N_schema_Schema_Find_1 E_schema_Schema_Find_1 := by
  intro hsp call lp args h r hc hl hh
  unfold E_schema_Schema_Find_1 at hh
  split at hh
  · rw [← F_schema_Schema_Find_1_eq sp] at hh
    exact ic_schema_Schema_Find_1 hsp _ _ ((F_schema_Schema_Find_1_eq _ _ _ _ _ _).symm.trans (F_mono hc hl hh))
  · cases hh
noncomputable def E_schema_copied : FnE := fun call lp args h => match args with
 | [x0] => F_schema_copied call lp x0 h
 | _ => none
theorem G_schema_copied (sp : List Nat) : Good (pg sp) N_schema_copied E_schema_copied := by
  intro hsp call lp args h r hc hl hh
  unfold E_schema_copied at hh
  split at hh
  · rw [← F_schema_copied_eq sp] at hh
    exact ic_schema_copied hsp _ ((F_schema_copied_eq _ _ _ _ _).symm.trans (F_mono hc hl hh))
  · cases hh
noncomputable def E_schema_Schema_named : FnE := fun call lp args h => match args with
 | [x0, x1] => F_schema_Schema_named call lp x0 x1 h
 | _ => none
theorem G_schema_Schema_named (sp : List Nat) : Good (pg sp) N_schema_Schema_named E_schema_Schema_named := by
  intro hsp call lp args h r hc hl hh
  unfold E_schema_Schema_named at hh
  split at hh
  · rw [← F_schema_Schema_named_eq sp] at hh
    exact ic_schema_Schema_named hsp _ _ ((F_schema_Schema_named_eq _ _ _ _ _ _).symm.trans (F_mono hc hl hh))
  · cases hh
noncomputable def E_slices_ContainsFunc_api_Col_api_Col : FnE := fun call lp args h => match args with
 | [x0, x1] => F_slices_ContainsFunc_api_Col_api_Col call lp x0 x1 h
 | _ => none
theorem G_slices_ContainsFunc_api_Col_api_Col (sp : List Nat) : Good (pg sp) N_slices_ContainsFunc_api_Col_api_Col E_slices_ContainsFunc_api_Col_api_Col := by
  intro hsp call lp args h r hc hl hh
  unfold E_slices_ContainsFunc_api_Col_api_Col at hh
  split at hh
  · rw [← F_slices_ContainsFunc_api_Col_api_Col_eq sp] at hh
    exact ic_slices_ContainsFunc_api_Col_api_Col hsp _ _ ((F_slices_ContainsFunc_api_Col_api_Col_eq _ _ _ _ _ _).symm.trans (F_mono hc hl hh))
  · cases hh
noncomputable def E_schema_Schema_Add_1 : FnE := fun call lp args h => match args with
 | [x0] => F_schema_Schema_Add_1 call lp x0 h
 | _ => none
theorem G_schema_Schema_Add_1 (sp : List Nat) : Good (pg sp) N_schema_Schema_Add_1 E_schema_Schema_Add_1 := by
  intro hsp call lp args h r hc hl hh
  unfold E_schema_Schema_Add_1 at hh
  split at hh
  · rw [← F_schema_Schema_Add_1_eq sp] at hh
    exact ic_schema_Schema_Add_1 hsp _ ((F_schema_Schema_Add_1_eq _ _ _ _ _).symm.trans (F_mono hc hl hh))
  · cases hh
noncomputable def E_schema_Schema_refs : FnE := fun call lp args h => match args with
 | [x0, x1] => F_schema_Schema_refs call lp x0 x1 h
 | _ => none
theorem G_schema_Schema_refs (sp : List Nat) : Good (pg sp) N_schema_Schema_refs E_schema_Schema_refs := by
  intro hsp call lp args h r hc hl hh
  unfold E_schema_Schema_refs at hh
  split at hh
  · rw [← F_schema_Schema_refs_eq sp] at hh
    exact ic_schema_Schema_refs hsp _ _ ((F_schema_Schema_refs_eq _ _ _ _ _ _).symm.trans (F_mono hc hl hh))
  · cases hh
noncomputable def E_schema_col : FnE := fun call lp args h => match args with
 | [x0, x1] => F_schema_col call lp x0 x1 h
 | _ => none
theorem G_schema_col (sp : List Nat) : Good (pg sp) N_schema_col E_schema_col := by
  intro hsp call lp args h r hc hl hh
  unfold E_schema_col at hh
  split at hh
  · rw [← F_schema_col_eq sp] at hh
    exact ic_schema_col hsp _ _ ((F_schema_col_eq _ _ _ _ _ _).symm.trans (F_mono hc hl hh))
  · cases hh
noncomputable def E_column_Column_Len : FnE := fun call lp args h => match args with
 | [x0] => F_column_Column_Len call lp x0 h
 | _ => none
theorem G_column_Column_Len (sp : List Nat) : Good (pg sp) N_column_Column_Len E_column_Column_Len := by
  intro hsp call lp args h r hc hl hh
  unfold E_column_Column_Len at hh
  split at hh
  · rw [← F_column_Column_Len_eq sp] at hh
    exact ic_column_Column_Len hsp _ ((F_column_Column_Len_eq _ _ _ _ _).symm.trans (F_mono hc hl hh))
  · cases hh
noncomputable def E_column_Column_Append : FnE := fun call lp args h => match args with
 | [x0, x1] => F_column_Column_Append call lp x0 x1 h
 | _ => none
theorem G_column_Column_Append (sp : List Nat) : Good (pg sp) N_column_Column_Append E_column_Column_Append := by
  intro hsp call lp args h r hc hl hh
  unfold E_column_Column_Append at hh
  split at hh
  · rw [← F_column_Column_Append_eq sp] at hh
    exact ic_column_Column_Append hsp _ _ ((F_column_Column_Append_eq _ _ _ _ _ _).symm.trans (F_mono hc hl hh))
  · cases hh
noncomputable def E_asterismref1_Eq : FnE := fun call lp args h => match args with
 | [x0, x1] => F_asterismref1_Eq call lp x0 x1 h
 | _ => none
theorem G_asterismref1_Eq (sp : List Nat) : Good (pg sp) N_asterismref1_Eq E_asterismref1_Eq := by
  intro hsp call lp args h r hc hl hh
  unfold E_asterismref1_Eq at hh
  split at hh
  · rw [← F_asterismref1_Eq_eq sp] at hh
    exact ic_asterismref1_Eq hsp _ _ ((F_asterismref1_Eq_eq _ _ _ _ _ _).symm.trans (F_mono hc hl hh))
  · cases hh
noncomputable def E_asterismref8_ColOf : FnE := fun call lp args h => match args with
 | [x0, x1] => F_asterismref8_ColOf call lp x0 x1 h
 | _ => none
theorem G_asterismref8_ColOf (sp : List Nat) : Good (pg sp) N_asterismref8_ColOf E_asterismref8_ColOf := by
  intro hsp call lp args h r hc hl hh
  unfold E_asterismref8_ColOf at hh
  split at hh
  · rw [← F_asterismref8_ColOf_eq sp] at hh
    exact ic_asterismref8_ColOf hsp _ _ ((F_asterismref8_ColOf_eq _ _ _ _ _ _).symm.trans (F_mono hc hl hh))
  · cases hh
noncomputable def E_column_New : FnE := fun call lp args h => match args with
 | [x0] => F_column_New call lp x0 h
 | _ => none
theorem G_column_New (sp : List Nat) : Good (pg sp) N_column_New E_column_New := by
  intro hsp call lp args h r hc hl hh
  unfold E_column_New at hh
  split at hh
  · rw [← F_column_New_eq sp] at hh
    exact ic_column_New hsp _ ((F_column_New_eq _ _ _ _ _).symm.trans (F_mono hc hl hh))
  · cases hh
noncomputable def E_asterismref8_names : FnE := fun call lp args h => match args with
 | [x0, x1] => F_asterismref8_names call lp x0 x1 h
 | _ => none
theorem G_asterismref8_names (sp : List Nat) : Good (pg sp) N_asterismref8_names E_asterismref8_names := by
  intro hsp call lp args h r hc hl hh
  unfold E_asterismref8_names at hh
  split at hh
  · rw [← F_asterismref8_names_eq sp] at hh
    exact ic_asterismref8_names hsp _ _ ((F_asterismref8_names_eq _ _ _ _ _ _).symm.trans (F_mono hc hl hh))
  · cases hh
noncomputable def E_cmp_isNaN_int : FnE := fun call lp args h => match args with
 | [x0] => F_cmp_isNaN_int call lp x0 h
 | _ => none
theorem G_cmp_isNaN_int (sp : List Nat) : Good (pg sp) N_cmp_isNaN_int E_cmp_isNaN_int := by
  intro hsp call lp args h r hc hl hh
  unfold E_cmp_isNaN_int at hh
  split at hh
  · rw [← F_cmp_isNaN_int_eq sp] at hh
    exact ic_cmp_isNaN_int hsp _ ((F_cmp_isNaN_int_eq _ _ _ _ _).symm.trans (F_mono hc hl hh))
  · cases hh
noncomputable def E_cmp_isNaN_int64 : FnE := fun call lp args h => match args with
 | [x0] => F_cmp_isNaN_int64 call lp x0 h
 | _ => none
theorem G_cmp_isNaN_int64 (sp : List Nat) : Good (pg sp) N_cmp_isNaN_int64 E_cmp_isNaN_int64 := by
  intro hsp call lp args h r hc hl hh
  unfold E_cmp_isNaN_int64 at hh
  split at hh
  · rw [← F_cmp_isNaN_int64_eq sp] at hh
    exact ic_cmp_isNaN_int64 hsp _ ((F_cmp_isNaN_int64_eq _ _ _ _ _).symm.trans (F_mono hc hl hh))
  · cases hh
noncomputable def E_cmp_isNaN_string : FnE := fun call lp args h => match args with
 | [x0] => F_cmp_isNaN_string call lp x0 h
 | _ => none
theorem G_cmp_isNaN_string (sp : List Nat) : Good (pg sp) N_cmp_isNaN_string E_cmp_isNaN_string := by
  intro hsp call lp args h r hc hl hh
  unfold E_cmp_isNaN_string at hh
  split at hh
  · rw [← F_cmp_isNaN_string_eq sp] at hh
    exact ic_cmp_isNaN_string hsp _ ((F_cmp_isNaN_string_eq _ _ _ _ _).symm.trans (F_mono hc hl hh))
  · cases hh
noncomputable def E_slices_pdqsortOrdered_int : FnE := fun call lp args h => match args with
 | [x0, x1, x2, x3] => F_slices_pdqsortOrdered_int call lp x0 x1 x2 x3 h
 | _ => none
theorem G_slices_pdqsortOrdered_int (sp : List Nat) : Good (pg sp) N_slices_pdqsortOrdered_int E_slices_pdqsortOrdered_int := by
  intro hsp call lp args h r hc hl hh
  unfold E_slices_pdqsortOrdered_int at hh
  split at hh
  · rw [← F_slices_pdqsortOrdered_int_eq sp] at hh
    exact ic_slices_pdqsortOrdered_int hsp _ _ _ _ ((F_slices_pdqsortOrdered_int_eq _ _ _ _ _ _ _ _).symm.trans (F_mono hc hl hh))
  · cases hh
noncomputable def E_math_bits_Len : FnE := fun call lp args h => match args with
 | [x0] => F_math_bits_Len call lp x0 h
 | _ => none
theorem G_math_bits_Len (sp : List Nat) : Good (pg sp) N_math_bits_Len E_math_bits_Len := by
  intro hsp call lp args h r hc hl hh
  unfold E_math_bits_Len at hh
  split at hh
  · rw [← F_math_bits_Len_eq sp] at hh
    exact ic_math_bits_Len hsp _ ((F_math_bits_Len_eq _ _ _ _ _).symm.trans (F_mono hc hl hh))
  · cases hh
noncomputable def E_table_Table_may : FnE := fun call lp args h => match args with
 | [x0, x1, x2] => F_table_Table_may call lp x0 x1 x2 h
 | _ => none
theorem G_table_Table_may (sp : List Nat) : Good (pg sp) N_table_Table_may E_table_Table_may := by
  intro hsp call lp args h r hc hl hh
  unfold E_table_Table_may at hh
  split at hh
  · rw [← F_table_Table_may_eq sp] at hh
    exact ic_table_Table_may hsp _ _ _ ((F_table_Table_may_eq _ _ _ _ _ _ _).symm.trans (F_mono hc hl hh))
  · cases hh
noncomputable def E_asterismref12_typed : FnE := fun call lp args h => match args with
 | [x0, x1] => F_asterismref12_typed call lp x0 x1 h
 | _ => none
theorem G_asterismref12_typed (sp : List Nat) : Good (pg sp) N_asterismref12_typed E_asterismref12_typed := by
  intro hsp call lp args h r hc hl hh
  unfold E_asterismref12_typed at hh
  split at hh
  · rw [← F_asterismref12_typed_eq sp] at hh
    exact ic_asterismref12_typed hsp _ _ ((F_asterismref12_typed_eq _ _ _ _ _ _).symm.trans (F_mono hc hl hh))
  · cases hh
noncomputable def E_bitmap_And : FnE := fun call lp args h => match args with
 | [x0, x1] => F_bitmap_And call lp x0 x1 h
 | _ => none
theorem G_bitmap_And (sp : List Nat) : Good (pg sp) N_bitmap_And E_bitmap_And := by
  intro hsp call lp args h r hc hl hh
  unfold E_bitmap_And at hh
  split at hh
  · rw [← F_bitmap_And_eq sp] at hh
    exact ic_bitmap_And hsp _ _ ((F_bitmap_And_eq _ _ _ _ _ _).symm.trans (F_mono hc hl hh))
  · cases hh
noncomputable def E_bitmap_Not : FnE := fun call lp args h => match args with
 | [x0, x1] => F_bitmap_Not call lp x0 x1 h
 | _ => none
theorem G_bitmap_Not (sp : List Nat) : Good (pg sp) N_bitmap_Not E_bitmap_Not := by
  intro hsp call lp args h r hc hl hh
  unfold E_bitmap_Not at hh
  split at hh
  · rw [← F_bitmap_Not_eq sp] at hh
    exact ic_bitmap_Not hsp _ _ ((F_bitmap_Not_eq _ _ _ _ _ _).symm.trans (F_mono hc hl hh))
  · cases hh
noncomputable def E_column_Column_may : FnE := fun call lp args h => match args with
 | [x0, x1] => F_column_Column_may call lp x0 x1 h
 | _ => none
theorem G_column_Column_may (sp : List Nat) : Good (pg sp) N_column_Column_may E_column_Column_may := by
  intro hsp call lp args h r hc hl hh
  unfold E_column_Column_may at hh
  split at hh
  · rw [← F_column_Column_may_eq sp] at hh
    exact ic_column_Column_may hsp _ _ ((F_column_Column_may_eq _ _ _ _ _ _).symm.trans (F_mono hc hl hh))
  · cases hh
noncomputable def E_dict_Dict_Take : FnE := fun call lp args h => match args with
 | [x0, x1] => F_dict_Dict_Take call lp x0 x1 h
 | _ => none
theorem G_dict_Dict_Take (sp : List Nat) : Good (pg sp) N_dict_Dict_Take E_dict_Dict_Take := by
  intro hsp call lp args h r hc hl hh
  unfold E_dict_Dict_Take at hh
  split at hh
  · rw [← F_dict_Dict_Take_eq sp] at hh
    exact ic_dict_Dict_Take hsp _ _ ((F_dict_Dict_Take_eq _ _ _ _ _ _).symm.trans (F_mono hc hl hh))
  · cases hh
noncomputable def E_column_Column_count : FnE := fun call lp args h => match args with
 | [x0, x1] => F_column_Column_count call lp x0 x1 h
 | _ => none
theorem G_column_Column_count (sp : List Nat) : Good (pg sp) N_column_Column_count E_column_Column_count := by
  intro hsp call lp args h r hc hl hh
  unfold E_column_Column_count at hh
  split at hh
  · rw [← F_column_Column_count_eq sp] at hh
    exact ic_column_Column_count hsp _ _ ((F_column_Column_count_eq _ _ _ _ _ _).symm.trans (F_mono hc hl hh))
  · cases hh
noncomputable def E_slices_IndexFunc_2_int_2_int : FnE := fun call lp args h => match args with
 | [x0, x1] => F_slices_IndexFunc_2_int_2_int call lp x0 x1 h
 | _ => none
theorem G_slices_IndexFunc_2_int_2_int (sp : List Nat) : Good (pg sp) N_slices_IndexFunc_2_int_2_int E_slices_IndexFunc_2_int_2_int := by
  intro hsp call lp args h r hc hl hh
  unfold E_slices_IndexFunc_2_int_2_int at hh
  split at hh
  · rw [← F_slices_IndexFunc_2_int_2_int_eq sp] at hh
    exact ic_slices_IndexFunc_2_int_2_int hsp _ _ ((F_slices_IndexFunc_2_int_2_int_eq _ _ _ _ _ _).symm.trans (F_mono hc hl hh))
  · cases hh
noncomputable def E_slices_Grow_2_int_2_int : FnE := fun call lp args h => match args with
 | [x0, x1] => F_slices_Grow_2_int_2_int call lp x0 x1 h
 | _ => none
theorem G_slices_Grow_2_int_2_int (sp : List Nat) : Good (pg sp) N_slices_Grow_2_int_2_int E_slices_Grow_2_int_2_int := by
  intro hsp call lp args h r hc hl hh
  unfold E_slices_Grow_2_int_2_int at hh
  split at hh
  · rw [← F_slices_Grow_2_int_2_int_eq sp] at hh
    exact ic_slices_Grow_2_int_2_int hsp _ _ ((F_slices_Grow_2_int_2_int_eq _ _ _ _ _ _).symm.trans (F_mono hc hl hh))
  · cases hh
noncomputable def E_slices_pdqsortCmpFunc_2_int : FnE := fun call lp args h => match args with
 | [x0, x1, x2, x3, x4] => F_slices_pdqsortCmpFunc_2_int call lp x0 x1 x2 x3 x4 h
 | _ => none
theorem G_slices_pdqsortCmpFunc_2_int (sp : List Nat) : Good (pg sp) N_slices_pdqsortCmpFunc_2_int E_slices_pdqsortCmpFunc_2_int := by
  intro hsp call lp args h r hc hl hh
  unfold E_slices_pdqsortCmpFunc_2_int at hh
  split at hh
  · rw [← F_slices_pdqsortCmpFunc_2_int_eq sp] at hh
    exact ic_slices_pdqsortCmpFunc_2_int hsp _ _ _ _ _ ((F_slices_pdqsortCmpFunc_2_int_eq _ _ _ _ _ _ _ _ _).symm.trans (F_mono hc hl hh))
  · cases hh
noncomputable def E_asterismlaw12_begun : FnE := fun call lp args h => match args with
 | [] => F_asterismlaw12_begun call lp  h
 | _ => none
theorem G_asterismlaw12_begun (sp : List Nat) : Good (pg sp) N_asterismlaw12_begun E_asterismlaw12_begun := by
  intro hsp call lp args h r hc hl hh
  unfold E_asterismlaw12_begun at hh
  split at hh
  · rw [← F_asterismlaw12_begun_eq sp] at hh
    exact ic_asterismlaw12_begun hsp ((F_asterismlaw12_begun_eq _ _ _ _).symm.trans (F_mono hc hl hh))
  · cases hh
noncomputable def E_slices_IndexFunc_api_Col_api_Col : FnE := fun call lp args h => match args with
 | [x0, x1] => F_slices_IndexFunc_api_Col_api_Col call lp x0 x1 h
 | _ => none
theorem G_slices_IndexFunc_api_Col_api_Col (sp : List Nat) : Good (pg sp) N_slices_IndexFunc_api_Col_api_Col E_slices_IndexFunc_api_Col_api_Col := by
  intro hsp call lp args h r hc hl hh
  unfold E_slices_IndexFunc_api_Col_api_Col at hh
  split at hh
  · rw [← F_slices_IndexFunc_api_Col_api_Col_eq sp] at hh
    exact ic_slices_IndexFunc_api_Col_api_Col hsp _ _ ((F_slices_IndexFunc_api_Col_api_Col_eq _ _ _ _ _ _).symm.trans (F_mono hc hl hh))
  · cases hh
noncomputable def E_table_Table_col_1 : FnE := fun call lp args h => match args with
 | [x0, x1] => F_table_Table_col_1 call lp x0 x1 h
 | _ => none
theorem G_table_Table_col_1 (sp : List Nat) : Good (pg sp) N_table_Table_col_1 E_table_Table_col_1 := by
  intro hsp call lp args h r hc hl hh
  unfold E_table_Table_col_1 at hh
  split at hh
  · rw [← F_table_Table_col_1_eq sp] at hh
    exact ic_table_Table_col_1 hsp _ _ ((F_table_Table_col_1_eq _ _ _ _ _ _).symm.trans (F_mono hc hl hh))
  · cases hh
noncomputable def E_dict_Dict_Len : FnE := fun call lp args h => match args with
 | [x0] => F_dict_Dict_Len call lp x0 h
 | _ => none
theorem G_dict_Dict_Len (sp : List Nat) : Good (pg sp) N_dict_Dict_Len E_dict_Dict_Len := by
  intro hsp call lp args h r hc hl hh
  unfold E_dict_Dict_Len at hh
  split at hh
  · rw [← F_dict_Dict_Len_eq sp] at hh
    exact ic_dict_Dict_Len hsp _ ((F_dict_Dict_Len_eq _ _ _ _ _).symm.trans (F_mono hc hl hh))
  · cases hh
noncomputable def E_val_Name : FnE := fun call lp args h => match args with
 | [x0] => F_val_Name call lp x0 h
 | _ => none
theorem G_val_Name (sp : List Nat) : Good (pg sp) N_val_Name E_val_Name := by
  intro hsp call lp args h r hc hl hh
  unfold E_val_Name at hh
  split at hh
  · rw [← F_val_Name_eq sp] at hh
    exact ic_val_Name hsp _ ((F_val_Name_eq _ _ _ _ _).symm.trans (F_mono hc hl hh))
  · cases hh
noncomputable def E_schema_twice : FnE := fun call lp args h => match args with
 | [x0] => F_schema_twice call lp x0 h
 | _ => none
theorem G_schema_twice (sp : List Nat) : Good (pg sp) N_schema_twice E_schema_twice := by
  intro hsp call lp args h r hc hl hh
  unfold E_schema_twice at hh
  split at hh
  · rw [← F_schema_twice_eq sp] at hh
    exact ic_schema_twice hsp _ ((F_schema_twice_eq _ _ _ _ _).symm.trans (F_mono hc hl hh))
  · cases hh
noncomputable def E_slices_ContainsFunc_api_Dep_api_Dep : FnE := fun call lp args h => match args with
 | [x0, x1] => F_slices_ContainsFunc_api_Dep_api_Dep call lp x0 x1 h
 | _ => none
theorem G_slices_ContainsFunc_api_Dep_api_Dep (sp : List Nat) : Good (pg sp) N_slices_ContainsFunc_api_Dep_api_Dep E_slices_ContainsFunc_api_Dep_api_Dep := by
  intro hsp call lp args h r hc hl hh
  unfold E_slices_ContainsFunc_api_Dep_api_Dep at hh
  split at hh
  · rw [← F_slices_ContainsFunc_api_Dep_api_Dep_eq sp] at hh
    exact ic_slices_ContainsFunc_api_Dep_api_Dep hsp _ _ ((F_slices_ContainsFunc_api_Dep_api_Dep_eq _ _ _ _ _ _).symm.trans (F_mono hc hl hh))
  · cases hh
noncomputable def E_schema_Schema_named_1 : FnE := fun call lp args h => match args with
 | [x0, x1] => F_schema_Schema_named_1 call lp x0 x1 h
 | _ => none
theorem G_schema_Schema_named_1 (sp : List Nat) : Good (pg sp) N_schema_Schema_named_1 E_schema_Schema_named_1 := by
  intro hsp call lp args h r hc hl hh
  unfold E_schema_Schema_named_1 at hh
  split at hh
  · rw [← F_schema_Schema_named_1_eq sp] at hh
    exact ic_schema_Schema_named_1 hsp _ _ ((F_schema_Schema_named_1_eq _ _ _ _ _ _).symm.trans (F_mono hc hl hh))
  · cases hh
noncomputable def E_schema_dep : FnE := fun call lp args h => match args with
 | [x0, x1] => F_schema_dep call lp x0 x1 h
 | _ => none
theorem G_schema_dep (sp : List Nat) : Good (pg sp) N_schema_dep E_schema_dep := by
  intro hsp call lp args h r hc hl hh
  unfold E_schema_dep at hh
  split at hh
  · rw [← F_schema_dep_eq sp] at hh
    exact ic_schema_dep hsp _ _ ((F_schema_dep_eq _ _ _ _ _ _).symm.trans (F_mono hc hl hh))
  · cases hh
noncomputable def E_schema_col_1 : FnE := fun call lp args h => match args with
 | [x0, x1] => F_schema_col_1 call lp x0 x1 h
 | _ => none
theorem G_schema_col_1 (sp : List Nat) : Good (pg sp) N_schema_col_1 E_schema_col_1 := by
  intro hsp call lp args h r hc hl hh
  unfold E_schema_col_1 at hh
  split at hh
  · rw [← F_schema_col_1_eq sp] at hh
    exact ic_schema_col_1 hsp _ _ ((F_schema_col_1_eq _ _ _ _ _ _).symm.trans (F_mono hc hl hh))
  · cases hh
noncomputable def E_asterismref1_Name : FnE := fun call lp args h => match args with
 | [x0] => F_asterismref1_Name call lp x0 h
 | _ => none
theorem G_asterismref1_Name (sp : List Nat) : Good (pg sp) N_asterismref1_Name E_asterismref1_Name := by
  intro hsp call lp args h r hc hl hh
  unfold E_asterismref1_Name at hh
  split at hh
  · rw [← F_asterismref1_Name_eq sp] at hh
    exact ic_asterismref1_Name hsp _ ((F_asterismref1_Name_eq _ _ _ _ _).symm.trans (F_mono hc hl hh))
  · cases hh
noncomputable def E_slices_insertionSortOrdered_int : FnE := fun call lp args h => match args with
 | [x0, x1, x2] => F_slices_insertionSortOrdered_int call lp x0 x1 x2 h
 | _ => none
theorem G_slices_insertionSortOrdered_int (sp : List Nat) : Good (pg sp) N_slices_insertionSortOrdered_int E_slices_insertionSortOrdered_int := by
  intro hsp call lp args h r hc hl hh
  unfold E_slices_insertionSortOrdered_int at hh
  split at hh
  · rw [← F_slices_insertionSortOrdered_int_eq sp] at hh
    exact ic_slices_insertionSortOrdered_int hsp _ _ _ ((F_slices_insertionSortOrdered_int_eq _ _ _ _ _ _ _).symm.trans (F_mono hc hl hh))
  · cases hh
noncomputable def E_math_bits_Len64 : FnE := fun call lp args h => match args with
 | [x0] => F_math_bits_Len64 call lp x0 h
 | _ => none
theorem G_math_bits_Len64 (sp : List Nat) : Good (pg sp) N_math_bits_Len64 E_math_bits_Len64 := by
  intro hsp call lp args h r hc hl hh
  unfold E_math_bits_Len64 at hh
  split at hh
  · rw [← F_math_bits_Len64_eq sp] at hh
    exact ic_math_bits_Len64 hsp _ ((F_math_bits_Len64_eq _ _ _ _ _).symm.trans (F_mono hc hl hh))
  · cases hh
noncomputable def E_val_May : FnE := fun call lp args h => match args with
 | [x0] => F_val_May call lp x0 h
 | _ => none
theorem G_val_May (sp : List Nat) : Good (pg sp) N_val_May E_val_May := by
  intro hsp call lp args h r hc hl hh
  unfold E_val_May at hh
  split at hh
  · rw [← F_val_May_eq sp] at hh
    exact ic_val_May hsp _ ((F_val_May_eq _ _ _ _ _).symm.trans (F_mono hc hl hh))
  · cases hh
noncomputable def E_asterismref1_May : FnE := fun call lp args h => match args with
 | [x0] => F_asterismref1_May call lp x0 h
 | _ => none
theorem G_asterismref1_May (sp : List Nat) : Good (pg sp) N_asterismref1_May E_asterismref1_May := by
  intro hsp call lp args h r hc hl hh
  unfold E_asterismref1_May at hh
  split at hh
  · rw [← F_asterismref1_May_eq sp] at hh
    exact ic_asterismref1_May hsp _ ((F_asterismref1_May_eq _ _ _ _ _).symm.trans (F_mono hc hl hh))
  · cases hh
noncomputable def E_dict_Dict_words : FnE := fun call lp args h => match args with
 | [x0] => F_dict_Dict_words call lp x0 h
 | _ => none
theorem G_dict_Dict_words (sp : List Nat) : Good (pg sp) N_dict_Dict_words E_dict_Dict_words := by
  intro hsp call lp args h r hc hl hh
  unfold E_dict_Dict_words at hh
  split at hh
  · rw [← F_dict_Dict_words_eq sp] at hh
    exact ic_dict_Dict_words hsp _ ((F_dict_Dict_words_eq _ _ _ _ _).symm.trans (F_mono hc hl hh))
  · cases hh
noncomputable def E_omap_Map_string_int_Get : FnE := fun call lp args h => match args with
 | [x0, x1] => F_omap_Map_string_int_Get call lp x0 x1 h
 | _ => none
theorem G_omap_Map_string_int_Get (sp : List Nat) : Good (pg sp) N_omap_Map_string_int_Get E_omap_Map_string_int_Get := by
  intro hsp call lp args h r hc hl hh
  unfold E_omap_Map_string_int_Get at hh
  split at hh
  · rw [← F_omap_Map_string_int_Get_eq sp] at hh
    exact ic_omap_Map_string_int_Get hsp _ _ ((F_omap_Map_string_int_Get_eq _ _ _ _ _ _).symm.trans (F_mono hc hl hh))
  · cases hh
noncomputable def E_omap_Map_string_int_Put : FnE := fun call lp args h => match args with
 | [x0, x1, x2] => F_omap_Map_string_int_Put call lp x0 x1 x2 h
 | _ => none
theorem G_omap_Map_string_int_Put (sp : List Nat) : Good (pg sp) N_omap_Map_string_int_Put E_omap_Map_string_int_Put := by
  intro hsp call lp args h r hc hl hh
  unfold E_omap_Map_string_int_Put at hh
  split at hh
  · rw [← F_omap_Map_string_int_Put_eq sp] at hh
    exact ic_omap_Map_string_int_Put hsp _ _ _ ((F_omap_Map_string_int_Put_eq _ _ _ _ _ _ _).symm.trans (F_mono hc hl hh))
  · cases hh
noncomputable def E_omap_Map_string_int_Del : FnE := fun call lp args h => match args with
 | [x0, x1] => F_omap_Map_string_int_Del call lp x0 x1 h
 | _ => none
theorem G_omap_Map_string_int_Del (sp : List Nat) : Good (pg sp) N_omap_Map_string_int_Del E_omap_Map_string_int_Del := by
  intro hsp call lp args h r hc hl hh
  unfold E_omap_Map_string_int_Del at hh
  split at hh
  · rw [← F_omap_Map_string_int_Del_eq sp] at hh
    exact ic_omap_Map_string_int_Del hsp _ _ ((F_omap_Map_string_int_Del_eq _ _ _ _ _ _).symm.trans (F_mono hc hl hh))
  · cases hh
noncomputable def E_dict_Dict_Add : FnE := fun call lp args h => match args with
 | [x0, x1] => F_dict_Dict_Add call lp x0 x1 h
 | _ => none
theorem G_dict_Dict_Add (sp : List Nat) : Good (pg sp) N_dict_Dict_Add E_dict_Dict_Add := by
  intro hsp call lp args h r hc hl hh
  unfold E_dict_Dict_Add at hh
  split at hh
  · rw [← F_dict_Dict_Add_eq sp] at hh
    exact ic_dict_Dict_Add hsp _ _ ((F_dict_Dict_Add_eq _ _ _ _ _ _).symm.trans (F_mono hc hl hh))
  · cases hh
noncomputable def E_slices_insertionSortCmpFunc_2_int : FnE := fun call lp args h => match args with
 | [x0, x1, x2, x3] => F_slices_insertionSortCmpFunc_2_int call lp x0 x1 x2 x3 h
 | _ => none
theorem G_slices_insertionSortCmpFunc_2_int (sp : List Nat) : Good (pg sp) N_slices_insertionSortCmpFunc_2_int E_slices_insertionSortCmpFunc_2_int := by
  intro hsp call lp args h r hc hl hh
  unfold E_slices_insertionSortCmpFunc_2_int at hh
  split at hh
  · rw [← F_slices_insertionSortCmpFunc_2_int_eq sp] at hh
    exact ic_slices_insertionSortCmpFunc_2_int hsp _ _ _ _ ((F_slices_insertionSortCmpFunc_2_int_eq _ _ _ _ _ _ _ _).symm.trans (F_mono hc hl hh))
  · cases hh
noncomputable def E_asterismlaw11_Begun : FnE := fun call lp args h => match args with
 | [] => F_asterismlaw11_Begun call lp  h
 | _ => none
theorem G_asterismlaw11_Begun (sp : List Nat) : Good (pg sp) N_asterismlaw11_Begun E_asterismlaw11_Begun := by
  intro hsp call lp args h r hc hl hh
  unfold E_asterismlaw11_Begun at hh
  split at hh
  · rw [← F_asterismlaw11_Begun_eq sp] at hh
    exact ic_asterismlaw11_Begun hsp ((F_asterismlaw11_Begun_eq _ _ _ _).symm.trans (F_mono hc hl hh))
  · cases hh
noncomputable def E_omap_Map_string_int_Len : FnE := fun call lp args h => match args with
 | [x0] => F_omap_Map_string_int_Len call lp x0 h
 | _ => none
theorem G_omap_Map_string_int_Len (sp : List Nat) : Good (pg sp) N_omap_Map_string_int_Len E_omap_Map_string_int_Len := by
  intro hsp call lp args h r hc hl hh
  unfold E_omap_Map_string_int_Len at hh
  split at hh
  · rw [← F_omap_Map_string_int_Len_eq sp] at hh
    exact ic_omap_Map_string_int_Len hsp _ ((F_omap_Map_string_int_Len_eq _ _ _ _ _).symm.trans (F_mono hc hl hh))
  · cases hh
noncomputable def E_val_Digit : FnE := fun call lp args h => match args with
 | [x0] => F_val_Digit call lp x0 h
 | _ => none
theorem G_val_Digit (sp : List Nat) : Good (pg sp) N_val_Digit E_val_Digit := by
  intro hsp call lp args h r hc hl hh
  unfold E_val_Digit at hh
  split at hh
  · rw [← F_val_Digit_eq sp] at hh
    exact ic_val_Digit hsp _ ((F_val_Digit_eq _ _ _ _ _).symm.trans (F_mono hc hl hh))
  · cases hh
noncomputable def E_val_key : FnE := fun call lp args h => match args with
 | [x0] => F_val_key call lp x0 h
 | _ => none
theorem G_val_key (sp : List Nat) : Good (pg sp) N_val_key E_val_key := by
  intro hsp call lp args h r hc hl hh
  unfold E_val_key at hh
  split at hh
  · rw [← F_val_key_eq sp] at hh
    exact ic_val_key hsp _ ((F_val_key_eq _ _ _ _ _).symm.trans (F_mono hc hl hh))
  · cases hh
noncomputable def E_val_Letter : FnE := fun call lp args h => match args with
 | [x0] => F_val_Letter call lp x0 h
 | _ => none
theorem G_val_Letter (sp : List Nat) : Good (pg sp) N_val_Letter E_val_Letter := by
  intro hsp call lp args h r hc hl hh
  unfold E_val_Letter at hh
  split at hh
  · rw [← F_val_Letter_eq sp] at hh
    exact ic_val_Letter hsp _ ((F_val_Letter_eq _ _ _ _ _).symm.trans (F_mono hc hl hh))
  · cases hh
noncomputable def E_slices_Contains_string_string : FnE := fun call lp args h => match args with
 | [x0, x1] => F_slices_Contains_string_string call lp x0 x1 h
 | _ => none
theorem G_slices_Contains_string_string (sp : List Nat) : Good (pg sp) N_slices_Contains_string_string E_slices_Contains_string_string := by
  intro hsp call lp args h r hc hl hh
  unfold E_slices_Contains_string_string at hh
  split at hh
  · rw [← F_slices_Contains_string_string_eq sp] at hh
    exact ic_slices_Contains_string_string hsp _ _ ((F_slices_Contains_string_string_eq _ _ _ _ _ _).symm.trans (F_mono hc hl hh))
  · cases hh
noncomputable def E_slices_IndexFunc_api_Dep_api_Dep : FnE := fun call lp args h => match args with
 | [x0, x1] => F_slices_IndexFunc_api_Dep_api_Dep call lp x0 x1 h
 | _ => none
theorem G_slices_IndexFunc_api_Dep_api_Dep (sp : List Nat) : Good (pg sp) N_slices_IndexFunc_api_Dep_api_Dep E_slices_IndexFunc_api_Dep_api_Dep := by
  intro hsp call lp args h r hc hl hh
  unfold E_slices_IndexFunc_api_Dep_api_Dep at hh
  split at hh
  · rw [← F_slices_IndexFunc_api_Dep_api_Dep_eq sp] at hh
    exact ic_slices_IndexFunc_api_Dep_api_Dep hsp _ _ ((F_slices_IndexFunc_api_Dep_api_Dep_eq _ _ _ _ _ _).symm.trans (F_mono hc hl hh))
  · cases hh
noncomputable def E_schema_dep_1 : FnE := fun call lp args h => match args with
 | [x0, x1] => F_schema_dep_1 call lp x0 x1 h
 | _ => none
theorem G_schema_dep_1 (sp : List Nat) : Good (pg sp) N_schema_dep_1 E_schema_dep_1 := by
  intro hsp call lp args h r hc hl hh
  unfold E_schema_dep_1 at hh
  split at hh
  · rw [← F_schema_dep_1_eq sp] at hh
    exact ic_schema_dep_1 hsp _ _ ((F_schema_dep_1_eq _ _ _ _ _ _).symm.trans (F_mono hc hl hh))
  · cases hh
noncomputable def E_slices_ContainsFunc_string_string : FnE := fun call lp args h => match args with
 | [x0, x1] => F_slices_ContainsFunc_string_string call lp x0 x1 h
 | _ => none
theorem G_slices_ContainsFunc_string_string (sp : List Nat) : Good (pg sp) N_slices_ContainsFunc_string_string E_slices_ContainsFunc_string_string := by
  intro hsp call lp args h r hc hl hh
  unfold E_slices_ContainsFunc_string_string at hh
  split at hh
  · rw [← F_slices_ContainsFunc_string_string_eq sp] at hh
    exact ic_slices_ContainsFunc_string_string hsp _ _ ((F_slices_ContainsFunc_string_string_eq _ _ _ _ _ _).symm.trans (F_mono hc hl hh))
  · cases hh
noncomputable def E_asterismref1_Digit : FnE := fun call lp args h => match args with
 | [x0] => F_asterismref1_Digit call lp x0 h
 | _ => none
theorem G_asterismref1_Digit (sp : List Nat) : Good (pg sp) N_asterismref1_Digit E_asterismref1_Digit := by
  intro hsp call lp args h r hc hl hh
  unfold E_asterismref1_Digit at hh
  split at hh
  · rw [← F_asterismref1_Digit_eq sp] at hh
    exact ic_asterismref1_Digit hsp _ ((F_asterismref1_Digit_eq _ _ _ _ _).symm.trans (F_mono hc hl hh))
  · cases hh
noncomputable def E_asterismref1_Word : FnE := fun call lp args h => match args with
 | [x0] => F_asterismref1_Word call lp x0 h
 | _ => none
theorem G_asterismref1_Word (sp : List Nat) : Good (pg sp) N_asterismref1_Word E_asterismref1_Word := by
  intro hsp call lp args h r hc hl hh
  unfold E_asterismref1_Word at hh
  split at hh
  · rw [← F_asterismref1_Word_eq sp] at hh
    exact ic_asterismref1_Word hsp _ ((F_asterismref1_Word_eq _ _ _ _ _).symm.trans (F_mono hc hl hh))
  · cases hh
noncomputable def E_asterismref1_Letter : FnE := fun call lp args h => match args with
 | [x0] => F_asterismref1_Letter call lp x0 h
 | _ => none
theorem G_asterismref1_Letter (sp : List Nat) : Good (pg sp) N_asterismref1_Letter E_asterismref1_Letter := by
  intro hsp call lp args h r hc hl hh
  unfold E_asterismref1_Letter at hh
  split at hh
  · rw [← F_asterismref1_Letter_eq sp] at hh
    exact ic_asterismref1_Letter hsp _ ((F_asterismref1_Letter_eq _ _ _ _ _).symm.trans (F_mono hc hl hh))
  · cases hh
noncomputable def E_val_text : FnE := fun call lp args h => match args with
 | [x0] => F_val_text call lp x0 h
 | _ => none
theorem G_val_text (sp : List Nat) : Good (pg sp) N_val_text E_val_text := by
  intro hsp call lp args h r hc hl hh
  unfold E_val_text at hh
  split at hh
  · rw [← F_val_text_eq sp] at hh
    exact ic_val_text hsp _ ((F_val_text_eq _ _ _ _ _).symm.trans (F_mono hc hl hh))
  · cases hh
noncomputable def E_omap_New_string_int : FnE := fun call lp args h => match args with
 | [x0] => F_omap_New_string_int call lp x0 h
 | _ => none
theorem G_omap_New_string_int (sp : List Nat) : Good (pg sp) N_omap_New_string_int E_omap_New_string_int := by
  intro hsp call lp args h r hc hl hh
  unfold E_omap_New_string_int at hh
  split at hh
  · rw [← F_omap_New_string_int_eq sp] at hh
    exact ic_omap_New_string_int hsp _ ((F_omap_New_string_int_eq _ _ _ _ _).symm.trans (F_mono hc hl hh))
  · cases hh
noncomputable def E_strings_Compare : FnE := fun call lp args h => match args with
 | [x0, x1] => F_strings_Compare call lp x0 x1 h
 | _ => none
theorem G_strings_Compare (sp : List Nat) : Good (pg sp) N_strings_Compare E_strings_Compare := by
  intro hsp call lp args h r hc hl hh
  unfold E_strings_Compare at hh
  split at hh
  · rw [← F_strings_Compare_eq sp] at hh
    exact ic_strings_Compare hsp _ _ ((F_strings_Compare_eq _ _ _ _ _ _).symm.trans (F_mono hc hl hh))
  · cases hh
noncomputable def E_omap_Map_string_int_find : FnE := fun call lp args h => match args with
 | [x0, x1] => F_omap_Map_string_int_find call lp x0 x1 h
 | _ => none
theorem G_omap_Map_string_int_find (sp : List Nat) : Good (pg sp) N_omap_Map_string_int_find E_omap_Map_string_int_find := by
  intro hsp call lp args h r hc hl hh
  unfold E_omap_Map_string_int_find at hh
  split at hh
  · rw [← F_omap_Map_string_int_find_eq sp] at hh
    exact ic_omap_Map_string_int_find hsp _ _ ((F_omap_Map_string_int_find_eq _ _ _ _ _ _).symm.trans (F_mono hc hl hh))
  · cases hh
noncomputable def E_slices_Delete_omap_pair_string_int_omap_pair_string_int : FnE := fun call lp args h => match args with
 | [x0, x1, x2] => F_slices_Delete_omap_pair_string_int_omap_pair_string_int call lp x0 x1 x2 h
 | _ => none
theorem G_slices_Delete_omap_pair_string_int_omap_pair_string_int (sp : List Nat) : Good (pg sp) N_slices_Delete_omap_pair_string_int_omap_pair_string_int E_slices_Delete_omap_pair_string_int_omap_pair_string_int := by
  intro hsp call lp args h r hc hl hh
  unfold E_slices_Delete_omap_pair_string_int_omap_pair_string_int at hh
  split at hh
  · rw [← F_slices_Delete_omap_pair_string_int_omap_pair_string_int_eq sp] at hh
    exact ic_slices_Delete_omap_pair_string_int_omap_pair_string_int hsp _ _ _ ((F_slices_Delete_omap_pair_string_int_omap_pair_string_int_eq _ _ _ _ _ _ _).symm.trans (F_mono hc hl hh))
  · cases hh
noncomputable def E_asterismlaw11_begun : FnE := fun call lp args h => match args with
 | [] => F_asterismlaw11_begun call lp  h
 | _ => none
theorem G_asterismlaw11_begun (sp : List Nat) : Good (pg sp) N_asterismlaw11_begun E_asterismlaw11_begun := by
  intro hsp call lp args h r hc hl hh
  unfold E_asterismlaw11_begun at hh
  split at hh
  · rw [← F_asterismlaw11_begun_eq sp] at hh
    exact ic_asterismlaw11_begun hsp ((F_asterismlaw11_begun_eq _ _ _ _).symm.trans (F_mono hc hl hh))
  · cases hh
noncomputable def E_slices_Index_string_string : FnE := fun call lp args h => match args with
 | [x0, x1] => F_slices_Index_string_string call lp x0 x1 h
 | _ => none
theorem G_slices_Index_string_string (sp : List Nat) : Good (pg sp) N_slices_Index_string_string E_slices_Index_string_string := by
  intro hsp call lp args h r hc hl hh
  unfold E_slices_Index_string_string at hh
  split at hh
  · rw [← F_slices_Index_string_string_eq sp] at hh
    exact ic_slices_Index_string_string hsp _ _ ((F_slices_Index_string_string_eq _ _ _ _ _ _).symm.trans (F_mono hc hl hh))
  · cases hh
noncomputable def E_slices_IndexFunc_string_string : FnE := fun call lp args h => match args with
 | [x0, x1] => F_slices_IndexFunc_string_string call lp x0 x1 h
 | _ => none
theorem G_slices_IndexFunc_string_string (sp : List Nat) : Good (pg sp) N_slices_IndexFunc_string_string E_slices_IndexFunc_string_string := by
  intro hsp call lp args h r hc hl hh
  unfold E_slices_IndexFunc_string_string at hh
  split at hh
  · rw [← F_slices_IndexFunc_string_string_eq sp] at hh
    exact ic_slices_IndexFunc_string_string hsp _ _ ((F_slices_IndexFunc_string_string_eq _ _ _ _ _ _).symm.trans (F_mono hc hl hh))
  · cases hh
noncomputable def E_bytealg_CompareString : FnE := fun call lp args h => match args with
 | [x0, x1] => F_bytealg_CompareString call lp x0 x1 h
 | _ => none
theorem G_bytealg_CompareString (sp : List Nat) : Good (pg sp) N_bytealg_CompareString E_bytealg_CompareString := by
  intro hsp call lp args h r hc hl hh
  unfold E_bytealg_CompareString at hh
  split at hh
  · rw [← F_bytealg_CompareString_eq sp] at hh
    exact ic_bytealg_CompareString hsp _ _ ((F_bytealg_CompareString_eq _ _ _ _ _ _).symm.trans (F_mono hc hl hh))
  · cases hh
noncomputable def E_slices_BinarySearchFunc_omap_pair_string_int_omap_pair_string_int_string : FnE := fun call lp args h => match args with
 | [x0, x1, x2] => F_slices_BinarySearchFunc_omap_pair_string_int_omap_pair_string_int_string call lp x0 x1 x2 h
 | _ => none
theorem G_slices_BinarySearchFunc_omap_pair_string_int_omap_pair_string_int_string (sp : List Nat) : Good (pg sp) N_slices_BinarySearchFunc_omap_pair_string_int_omap_pair_string_int_string E_slices_BinarySearchFunc_omap_pair_string_int_omap_pair_string_int_string := by
  intro hsp call lp args h r hc hl hh
  unfold E_slices_BinarySearchFunc_omap_pair_string_int_omap_pair_string_int_string at hh
  split at hh
  · rw [← F_slices_BinarySearchFunc_omap_pair_string_int_omap_pair_string_int_string_eq sp] at hh
    exact ic_slices_BinarySearchFunc_omap_pair_string_int_omap_pair_string_int_string hsp _ _ _ ((F_slices_BinarySearchFunc_omap_pair_string_int_omap_pair_string_int_string_eq _ _ _ _ _ _ _).symm.trans (F_mono hc hl hh))
  · cases hh
noncomputable def E_omap_Map_string_int_find_1 : FnE := fun call lp args h => match args with
 | [x0, x1, x2] => F_omap_Map_string_int_find_1 call lp x0 x1 x2 h
 | _ => none
theorem G_omap_Map_string_int_find_1 (sp : List Nat) : Good (pg sp) N_omap_Map_string_int_find_1 E_omap_Map_string_int_find_1 := by
  intro hsp call lp args h r hc hl hh
  unfold E_omap_Map_string_int_find_1 at hh
  split at hh
  · rw [← F_omap_Map_string_int_find_1_eq sp] at hh
    exact ic_omap_Map_string_int_find_1 hsp _ _ _ ((F_omap_Map_string_int_find_1_eq _ _ _ _ _ _ _).symm.trans (F_mono hc hl hh))
  · cases hh
noncomputable def E_asterismlaw11_shop : FnE := fun call lp args h => match args with
 | [] => F_asterismlaw11_shop call lp  h
 | _ => none
theorem G_asterismlaw11_shop (sp : List Nat) : Good (pg sp) N_asterismlaw11_shop E_asterismlaw11_shop := by
  intro hsp call lp args h r hc hl hh
  unfold E_asterismlaw11_shop at hh
  split at hh
  · rw [← F_asterismlaw11_shop_eq sp] at hh
    exact ic_asterismlaw11_shop hsp ((F_asterismlaw11_shop_eq _ _ _ _).symm.trans (F_mono hc hl hh))
  · cases hh
noncomputable def E_asterismlaw11_row : FnE := fun call lp args h => match args with
 | [x0, x1] => F_asterismlaw11_row call lp x0 x1 h
 | _ => none
theorem G_asterismlaw11_row (sp : List Nat) : Good (pg sp) N_asterismlaw11_row E_asterismlaw11_row := by
  intro hsp call lp args h r hc hl hh
  unfold E_asterismlaw11_row at hh
  split at hh
  · rw [← F_asterismlaw11_row_eq sp] at hh
    exact ic_asterismlaw11_row hsp _ _ ((F_asterismlaw11_row_eq _ _ _ _ _ _).symm.trans (F_mono hc hl hh))
  · cases hh
noncomputable def E_bytealg_abigen_runtime_cmpstring : FnE := fun _ _ args h => ext "internal/bytealg.abigen_runtime_cmpstring" args h
theorem G_bytealg_abigen_runtime_cmpstring (sp : List Nat) : Good (pg sp) N_bytealg_abigen_runtime_cmpstring E_bytealg_abigen_runtime_cmpstring := fun hsp _ _ args h r _ _ hh => ic_ext (fn := Tryz.f255) hsp (by kernel_rfl) (by kernel_rfl) hh
noncomputable def evT_0 : Tr FnE := .n (some E_bytealg_abigen_runtime_cmpstring) .e .e
noncomputable def evT_1 : Tr FnE := .n (some E_asterismlaw14_num) evT_0 .e
noncomputable def evT_2 : Tr FnE := .n (some E_table_Table_Delete) evT_1 .e
noncomputable def evT_3 : Tr FnE := .n (some E_slices_ContainsFunc_string_string) .e .e
noncomputable def evT_4 : Tr FnE := .n (some E_cmp_Compare_int64) .e evT_3
noncomputable def evT_5 : Tr FnE := .n (some E_asterismlaw14_Begun) evT_2 evT_4
noncomputable def evT_6 : Tr FnE := .n (some E_schema_col) .e .e
noncomputable def evT_7 : Tr FnE := .n (some E_slices_insertionSortCmpFunc_2_int) .e .e
noncomputable def evT_8 : Tr FnE := .n (some E_check_breaks) evT_6 evT_7
noncomputable def evT_9 : Tr FnE := .n (some E_slices_pdqsortCmpFunc_2_int) .e .e
noncomputable def evT_10 : Tr FnE := .n (some E_slices_Delete_omap_pair_string_int_omap_pair_string_int) .e .e
noncomputable def evT_11 : Tr FnE := .n none evT_9 evT_10
noncomputable def evT_12 : Tr FnE := .n (some E_asterismlaw9_Star) evT_8 evT_11
noncomputable def evT_13 : Tr FnE := .n none evT_5 evT_12
noncomputable def evT_14 : Tr FnE := .n (some E_val_Eq) .e .e
noncomputable def evT_15 : Tr FnE := .n (some E_math_bits_Len64) .e .e
noncomputable def evT_16 : Tr FnE := .n (some E_asterismlaw13_begun) evT_14 evT_15
noncomputable def evT_17 : Tr FnE := .n none evT_16 .e
noncomputable def evT_18 : Tr FnE := .n (some E_asterismref8_names) .e .e
noncomputable def evT_19 : Tr FnE := .n (some E_asterismlaw11_Begun) .e .e
noncomputable def evT_20 : Tr FnE := .n none evT_18 evT_19
noncomputable def evT_21 : Tr FnE := .n (some E_schema_Schema_named_1) .e .e
noncomputable def evT_22 : Tr FnE := .n (some E_bytealg_CompareString) .e .e
noncomputable def evT_23 : Tr FnE := .n none evT_21 evT_22
noncomputable def evT_24 : Tr FnE := .n none evT_20 evT_23
noncomputable def evT_25 : Tr FnE := .n (some E_data_New) evT_17 evT_24
noncomputable def evT_26 : Tr FnE := .n none evT_13 evT_25
noncomputable def evT_27 : Tr FnE := .n (some E_slices_Clone_string_string) .e .e
noncomputable def evT_28 : Tr FnE := .n (some E_bitmap_Map_Rank) evT_27 .e
noncomputable def evT_29 : Tr FnE := .n (some E_slices_pdqsortOrdered_int) .e .e
noncomputable def evT_30 : Tr FnE := .n none evT_29 .e
noncomputable def evT_31 : Tr FnE := .n (some E_schema_Schema_Names) evT_28 evT_30
noncomputable def evT_32 : Tr FnE := .n (some E_asterismref1_Eq) .e .e
noncomputable def evT_33 : Tr FnE := .n (some E_table_Table_Copy) evT_32 .e
noncomputable def evT_34 : Tr FnE := .n (some E_dict_Dict_Len) .e .e
noncomputable def evT_35 : Tr FnE := .n (some E_asterismlaw11_begun) .e .e
noncomputable def evT_36 : Tr FnE := .n (some E_column_Column_Set) evT_34 evT_35
noncomputable def evT_37 : Tr FnE := .n (some E_val_Compare) evT_33 evT_36
noncomputable def evT_38 : Tr FnE := .n (some E_asterismlaw15_text) evT_31 evT_37
noncomputable def evT_39 : Tr FnE := .n (some E_schema_Schema_named) .e .e
noncomputable def evT_40 : Tr FnE := .n (some E_omap_Map_string_int_Get) .e .e
noncomputable def evT_41 : Tr FnE := .n (some E_bitmap_Map_All_1) evT_39 evT_40
noncomputable def evT_42 : Tr FnE := .n (some E_dict_Dict_Take) .e .e
noncomputable def evT_43 : Tr FnE := .n (some E_omap_New_string_int) .e .e
noncomputable def evT_44 : Tr FnE := .n (some E_bitmap_Map_add) evT_42 evT_43
noncomputable def evT_45 : Tr FnE := .n none evT_41 evT_44
noncomputable def evT_46 : Tr FnE := .n (some E_val_Letter) .e .e
noncomputable def evT_47 : Tr FnE := .n (some E_asterismref8_Schema_May) .e evT_46
noncomputable def evT_48 : Tr FnE := .n (some E_asterismlaw13_num) .e .e
noncomputable def evT_49 : Tr FnE := .n (some E_schema_New) evT_47 evT_48
noncomputable def evT_50 : Tr FnE := .n (some E_bitmap_Map_Count) evT_45 evT_49
noncomputable def evT_51 : Tr FnE := .n (some E_check_Check) evT_38 evT_50
noncomputable def evT_52 : Tr FnE := .n none evT_26 evT_51
noncomputable def evT_53 : Tr FnE := .n (some E_slices_Clone_api_Col_api_Col) .e .e
noncomputable def evT_54 : Tr FnE := .n (some E_bitmap_Map_Has) evT_53 .e
noncomputable def evT_55 : Tr FnE := .n (some E_asterismref1_Word) .e .e
noncomputable def evT_56 : Tr FnE := .n (some E_path_Col) .e evT_55
noncomputable def evT_57 : Tr FnE := .n none evT_54 evT_56
noncomputable def evT_58 : Tr FnE := .n (some E_column_Column_Append) .e .e
noncomputable def evT_59 : Tr FnE := .n (some E_schema_Schema_Find) evT_58 .e
noncomputable def evT_60 : Tr FnE := .n (some E_slices_IndexFunc_api_Col_api_Col) .e .e
noncomputable def evT_61 : Tr FnE := .n none evT_60 .e
noncomputable def evT_62 : Tr FnE := .n (some E_asterismref12_DB_Add) evT_59 evT_61
noncomputable def evT_63 : Tr FnE := .n (some E_asterismlaw12_Star) evT_57 evT_62
noncomputable def evT_64 : Tr FnE := .n (some E_schema_Schema_Find_1) .e .e
noncomputable def evT_65 : Tr FnE := .n (some E_asterismref1_May) .e .e
noncomputable def evT_66 : Tr FnE := .n (some E_table_Table_Form) evT_64 evT_65
noncomputable def evT_67 : Tr FnE := .n (some E_bitmap_Not) .e .e
noncomputable def evT_68 : Tr FnE := .n (some E_slices_Clone_int_int) evT_67 .e
noncomputable def evT_69 : Tr FnE := .n (some E_data_DB_Copy) evT_66 evT_68
noncomputable def evT_70 : Tr FnE := .n (some E_cmp_isNaN_int64) .e .e
noncomputable def evT_71 : Tr FnE := .n (some E_val_Digit) .e .e
noncomputable def evT_72 : Tr FnE := .n (some E_asterismref12_DB_row) evT_70 evT_71
noncomputable def evT_73 : Tr FnE := .n (some E_schema_col_1) .e .e
noncomputable def evT_74 : Tr FnE := .n (some E_omap_Map_string_int_find_1) .e .e
noncomputable def evT_75 : Tr FnE := .n (some E_slices_SortFunc_2_int_2_int) evT_73 evT_74
noncomputable def evT_76 : Tr FnE := .n none evT_72 evT_75
noncomputable def evT_77 : Tr FnE := .n none evT_69 evT_76
noncomputable def evT_78 : Tr FnE := .n (some E_asterismlaw15_begun) evT_63 evT_77
noncomputable def evT_79 : Tr FnE := .n (some E_column_Column_Words) .e .e
noncomputable def evT_80 : Tr FnE := .n none evT_79 .e
noncomputable def evT_81 : Tr FnE := .n (some E_table_Table_may) .e .e
noncomputable def evT_82 : Tr FnE := .n none evT_81 .e
noncomputable def evT_83 : Tr FnE := .n (some E_bitmap_Map_All) evT_80 evT_82
noncomputable def evT_84 : Tr FnE := .n (some E_table_Table_Row) .e .e
noncomputable def evT_85 : Tr FnE := .n (some E_schema_twice) .e .e
noncomputable def evT_86 : Tr FnE := .n (some E_slices_IndexFunc_string_string) .e .e
noncomputable def evT_87 : Tr FnE := .n (some E_bitmap_Map_Has_1) evT_85 evT_86
noncomputable def evT_88 : Tr FnE := .n none evT_84 evT_87
noncomputable def evT_89 : Tr FnE := .n (some E_table_Table_Next) evT_83 evT_88
noncomputable def evT_90 : Tr FnE := .n (some E_schema_Schema_Add_1) .e .e
noncomputable def evT_91 : Tr FnE := .n (some E_omap_Map_string_int_Del) .e .e
noncomputable def evT_92 : Tr FnE := .n (some E_check_alike) evT_90 evT_91
noncomputable def evT_93 : Tr FnE := .n (some E_slices_IndexFunc_2_int_2_int) .e .e
noncomputable def evT_94 : Tr FnE := .n (some E_omap_Map_string_int_find) .e .e
noncomputable def evT_95 : Tr FnE := .n (some E_table_Table_Insert) evT_93 evT_94
noncomputable def evT_96 : Tr FnE := .n none evT_92 evT_95
noncomputable def evT_97 : Tr FnE := .n (some E_slices_IndexFunc_api_Dep_api_Dep) .e .e
noncomputable def evT_98 : Tr FnE := .n (some E_cmp_Or_int) .e evT_97
noncomputable def evT_99 : Tr FnE := .n (some E_slices_insertionSortOrdered_int) .e .e
noncomputable def evT_100 : Tr FnE := .n (some E_asterismlaw11_shop) .e .e
noncomputable def evT_101 : Tr FnE := .n (some E_asterismlaw12_Begun) evT_99 evT_100
noncomputable def evT_102 : Tr FnE := .n none evT_98 evT_101
noncomputable def evT_103 : Tr FnE := .n none evT_96 evT_102
noncomputable def evT_104 : Tr FnE := .n (some E_load_Load) evT_89 evT_103
noncomputable def evT_105 : Tr FnE := .n none evT_78 evT_104
noncomputable def evT_106 : Tr FnE := .n none evT_52 evT_105
noncomputable def evT_107 : Tr FnE := .n (some E_asterismlaw14_text) .e .e
noncomputable def evT_108 : Tr FnE := .n none evT_107 .e
noncomputable def evT_109 : Tr FnE := .n (some E_asterismref1_Digit) .e .e
noncomputable def evT_110 : Tr FnE := .n (some E_cmp_Compare_string) .e evT_109
noncomputable def evT_111 : Tr FnE := .n (some E_table_Table_Live) evT_108 evT_110
noncomputable def evT_112 : Tr FnE := .n (some E_column_Column_Len) .e .e
noncomputable def evT_113 : Tr FnE := .n none evT_112 .e
noncomputable def evT_114 : Tr FnE := .n (some E_asterismlaw12_begun) .e .e
noncomputable def evT_115 : Tr FnE := .n (some E_table_Table_Set) evT_114 .e
noncomputable def evT_116 : Tr FnE := .n (some E_data_DB_Add) evT_113 evT_115
noncomputable def evT_117 : Tr FnE := .n none evT_111 evT_116
noncomputable def evT_118 : Tr FnE := .n (some E_slices_IndexFunc_api_Table_api_Table) .e .e
noncomputable def evT_119 : Tr FnE := .n (some E_val_May) .e .e
noncomputable def evT_120 : Tr FnE := .n (some E_asterismlaw14_begun) evT_118 evT_119
noncomputable def evT_121 : Tr FnE := .n (some E_bitmap_And) .e .e
noncomputable def evT_122 : Tr FnE := .n none evT_121 .e
noncomputable def evT_123 : Tr FnE := .n none evT_120 evT_122
noncomputable def evT_124 : Tr FnE := .n (some E_cmp_isNaN_int) .e .e
noncomputable def evT_125 : Tr FnE := .n (some E_omap_Map_string_int_Len) .e .e
noncomputable def evT_126 : Tr FnE := .n (some E_asterismref12_DB_Words) evT_124 evT_125
noncomputable def evT_127 : Tr FnE := .n (some E_schema_dep) .e .e
noncomputable def evT_128 : Tr FnE := .n (some E_slices_BinarySearchFunc_omap_pair_string_int_omap_pair_string_int_string) .e .e
noncomputable def evT_129 : Tr FnE := .n (some E_slices_Concat_2_int_2_int) evT_127 evT_128
noncomputable def evT_130 : Tr FnE := .n none evT_126 evT_129
noncomputable def evT_131 : Tr FnE := .n none evT_123 evT_130
noncomputable def evT_132 : Tr FnE := .n none evT_117 evT_131
noncomputable def evT_133 : Tr FnE := .n (some E_table_Table_col) .e .e
noncomputable def evT_134 : Tr FnE := .n none evT_133 .e
noncomputable def evT_135 : Tr FnE := .n (some E_math_bits_Len) .e .e
noncomputable def evT_136 : Tr FnE := .n none evT_135 .e
noncomputable def evT_137 : Tr FnE := .n (some E_check_limits) evT_134 evT_136
noncomputable def evT_138 : Tr FnE := .n (some E_asterismref8_ColOf) .e .e
noncomputable def evT_139 : Tr FnE := .n (some E_batch_one) evT_138 .e
noncomputable def evT_140 : Tr FnE := .n (some E_val_Name) .e .e
noncomputable def evT_141 : Tr FnE := .n (some E_slices_Index_string_string) .e .e
noncomputable def evT_142 : Tr FnE := .n (some E_slices_ContainsFunc_2_int_2_int) evT_140 evT_141
noncomputable def evT_143 : Tr FnE := .n (some E_data_DB_Value) evT_139 evT_142
noncomputable def evT_144 : Tr FnE := .n (some E_data_DB_Table) evT_137 evT_143
noncomputable def evT_145 : Tr FnE := .n (some E_slices_ContainsFunc_api_Col_api_Col) .e .e
noncomputable def evT_146 : Tr FnE := .n (some E_omap_Map_string_int_Put) .e .e
noncomputable def evT_147 : Tr FnE := .n (some E_table_Table_Get) evT_145 evT_146
noncomputable def evT_148 : Tr FnE := .n (some E_column_Column_count) .e .e
noncomputable def evT_149 : Tr FnE := .n (some E_strings_Compare) .e .e
noncomputable def evT_150 : Tr FnE := .n (some E_asterismref8_Schema_Find) evT_148 evT_149
noncomputable def evT_151 : Tr FnE := .n none evT_147 evT_150
noncomputable def evT_152 : Tr FnE := .n (some E_slices_Contains_string_string) .e .e
noncomputable def evT_153 : Tr FnE := .n (some E_asterismref8_Form) .e evT_152
noncomputable def evT_154 : Tr FnE := .n (some E_asterismlaw13_text) .e .e
noncomputable def evT_155 : Tr FnE := .n (some E_asterismlaw12_Fill) evT_153 evT_154
noncomputable def evT_156 : Tr FnE := .n none evT_151 evT_155
noncomputable def evT_157 : Tr FnE := .n none evT_144 evT_156
noncomputable def evT_158 : Tr FnE := .n none evT_132 evT_157
noncomputable def evT_159 : Tr FnE := .n (some E_slices_Clone_api_Dep_api_Dep) .e .e
noncomputable def evT_160 : Tr FnE := .n none evT_159 .e
noncomputable def evT_161 : Tr FnE := .n (some E_asterismref1_Letter) .e .e
noncomputable def evT_162 : Tr FnE := .n (some E_schema_Schema_Col) .e evT_161
noncomputable def evT_163 : Tr FnE := .n (some E_data_DB_Schema) evT_160 evT_162
noncomputable def evT_164 : Tr FnE := .n (some E_schema_Schema_Add) .e .e
noncomputable def evT_165 : Tr FnE := .n (some E_table_Table_col_1) .e .e
noncomputable def evT_166 : Tr FnE := .n (some E_bitmap_Without) evT_165 .e
noncomputable def evT_167 : Tr FnE := .n none evT_164 evT_166
noncomputable def evT_168 : Tr FnE := .n (some E_asterismlaw15_num) evT_163 evT_167
noncomputable def evT_169 : Tr FnE := .n (some E_schema_copied) .e .e
noncomputable def evT_170 : Tr FnE := .n (some E_dict_Dict_words) .e .e
noncomputable def evT_171 : Tr FnE := .n (some E_table_Table_Words) evT_169 evT_170
noncomputable def evT_172 : Tr FnE := .n (some E_column_Column_may) .e .e
noncomputable def evT_173 : Tr FnE := .n (some E_val_text) .e .e
noncomputable def evT_174 : Tr FnE := .n (some E_slices_Sort_int_int) evT_172 evT_173
noncomputable def evT_175 : Tr FnE := .n (some E_batch_Apply) evT_171 evT_174
noncomputable def evT_176 : Tr FnE := .n (some E_cmp_isNaN_string) .e .e
noncomputable def evT_177 : Tr FnE := .n (some E_val_key) .e .e
noncomputable def evT_178 : Tr FnE := .n (some E_table_New) evT_176 evT_177
noncomputable def evT_179 : Tr FnE := .n (some E_asterismref1_Name) .e .e
noncomputable def evT_180 : Tr FnE := .n (some E_bitmap_Or_1) evT_179 .e
noncomputable def evT_181 : Tr FnE := .n (some E_bitmap_Of) evT_178 evT_180
noncomputable def evT_182 : Tr FnE := .n none evT_175 evT_181
noncomputable def evT_183 : Tr FnE := .n none evT_168 evT_182
noncomputable def evT_184 : Tr FnE := .n (some E_column_Column_At) .e .e
noncomputable def evT_185 : Tr FnE := .n (some E_bitmap_Or) evT_184 .e
noncomputable def evT_186 : Tr FnE := .n (some E_asterismref12_typed) .e .e
noncomputable def evT_187 : Tr FnE := .n none evT_186 .e
noncomputable def evT_188 : Tr FnE := .n (some E_check_row) evT_185 evT_187
noncomputable def evT_189 : Tr FnE := .n (some E_column_New) .e .e
noncomputable def evT_190 : Tr FnE := .n none evT_189 .e
noncomputable def evT_191 : Tr FnE := .n (some E_slices_ContainsFunc_api_Dep_api_Dep) .e .e
noncomputable def evT_192 : Tr FnE := .n none evT_191 .e
noncomputable def evT_193 : Tr FnE := .n none evT_190 evT_192
noncomputable def evT_194 : Tr FnE := .n none evT_188 evT_193
noncomputable def evT_195 : Tr FnE := .n (some E_schema_Schema_refs) .e .e
noncomputable def evT_196 : Tr FnE := .n (some E_dict_Dict_Add) .e .e
noncomputable def evT_197 : Tr FnE := .n (some E_data_DB_ByKey) evT_195 evT_196
noncomputable def evT_198 : Tr FnE := .n (some E_slices_Grow_2_int_2_int) .e .e
noncomputable def evT_199 : Tr FnE := .n (some E_asterismref12_DB_Insert) evT_198 .e
noncomputable def evT_200 : Tr FnE := .n (some E_asterismref12_DB_Check) evT_197 evT_199
noncomputable def evT_201 : Tr FnE := .n (some E_schema_dep_1) .e .e
noncomputable def evT_202 : Tr FnE := .n (some E_cmp_Compare_int) .e evT_201
noncomputable def evT_203 : Tr FnE := .n (some E_asterismlaw11_row) .e .e
noncomputable def evT_204 : Tr FnE := .n (some E_asterismlaw14_put) .e evT_203
noncomputable def evT_205 : Tr FnE := .n none evT_202 evT_204
noncomputable def evT_206 : Tr FnE := .n (some E_asterismlaw13_Begun) evT_200 evT_205
noncomputable def evT_207 : Tr FnE := .n none evT_194 evT_206
noncomputable def evT_208 : Tr FnE := .n (some E_asterismlaw15_LoadOrder) evT_183 evT_207
noncomputable def evT_209 : Tr FnE := .n none evT_158 evT_208
noncomputable def evT_210 : Tr FnE := .n none evT_106 evT_209
noncomputable def evT : Tr FnE := evT_210
theorem evAll (sp : List Nat) : evT.All (Good (pg sp)) := (Tr.all_0 (Tr.all_0 (Tr.all_0 (Tr.all_0 (Tr.all_0 (Tr.all_n (G_asterismlaw14_Begun sp) (Tr.all_n (G_table_Table_Delete sp) (Tr.all_n (G_asterismlaw14_num sp) (Tr.all_n (G_bytealg_abigen_runtime_cmpstring sp) Tr.all_e Tr.all_e) Tr.all_e) Tr.all_e) (Tr.all_n (G_cmp_Compare_int64 sp) Tr.all_e (Tr.all_n (G_slices_ContainsFunc_string_string sp) Tr.all_e Tr.all_e))) (Tr.all_n (G_asterismlaw9_Star sp) (Tr.all_n (G_check_breaks sp) (Tr.all_n (G_schema_col sp) Tr.all_e Tr.all_e) (Tr.all_n (G_slices_insertionSortCmpFunc_2_int sp) Tr.all_e Tr.all_e)) (Tr.all_0 (Tr.all_n (G_slices_pdqsortCmpFunc_2_int sp) Tr.all_e Tr.all_e) (Tr.all_n (G_slices_Delete_omap_pair_string_int_omap_pair_string_int sp) Tr.all_e Tr.all_e)))) (Tr.all_n (G_data_New sp) (Tr.all_0 (Tr.all_n (G_asterismlaw13_begun sp) (Tr.all_n (G_val_Eq sp) Tr.all_e Tr.all_e) (Tr.all_n (G_math_bits_Len64 sp) Tr.all_e Tr.all_e)) Tr.all_e) (Tr.all_0 (Tr.all_0 (Tr.all_n (G_asterismref8_names sp) Tr.all_e Tr.all_e) (Tr.all_n (G_asterismlaw11_Begun sp) Tr.all_e Tr.all_e)) (Tr.all_0 (Tr.all_n (G_schema_Schema_named_1 sp) Tr.all_e Tr.all_e) (Tr.all_n (G_bytealg_CompareString sp) Tr.all_e Tr.all_e))))) (Tr.all_n (G_check_Check sp) (Tr.all_n (G_asterismlaw15_text sp) (Tr.all_n (G_schema_Schema_Names sp) (Tr.all_n (G_bitmap_Map_Rank sp) (Tr.all_n (G_slices_Clone_string_string sp) Tr.all_e Tr.all_e) Tr.all_e) (Tr.all_0 (Tr.all_n (G_slices_pdqsortOrdered_int sp) Tr.all_e Tr.all_e) Tr.all_e)) (Tr.all_n (G_val_Compare sp) (Tr.all_n (G_table_Table_Copy sp) (Tr.all_n (G_asterismref1_Eq sp) Tr.all_e Tr.all_e) Tr.all_e) (Tr.all_n (G_column_Column_Set sp) (Tr.all_n (G_dict_Dict_Len sp) Tr.all_e Tr.all_e) (Tr.all_n (G_asterismlaw11_begun sp) Tr.all_e Tr.all_e)))) (Tr.all_n (G_bitmap_Map_Count sp) (Tr.all_0 (Tr.all_n (G_bitmap_Map_All_1 sp) (Tr.all_n (G_schema_Schema_named sp) Tr.all_e Tr.all_e) (Tr.all_n (G_omap_Map_string_int_Get sp) Tr.all_e Tr.all_e)) (Tr.all_n (G_bitmap_Map_add sp) (Tr.all_n (G_dict_Dict_Take sp) Tr.all_e Tr.all_e) (Tr.all_n (G_omap_New_string_int sp) Tr.all_e Tr.all_e))) (Tr.all_n (G_schema_New sp) (Tr.all_n (G_asterismref8_Schema_May sp) Tr.all_e (Tr.all_n (G_val_Letter sp) Tr.all_e Tr.all_e)) (Tr.all_n (G_asterismlaw13_num sp) Tr.all_e Tr.all_e))))) (Tr.all_0 (Tr.all_n (G_asterismlaw15_begun sp) (Tr.all_n (G_asterismlaw12_Star sp) (Tr.all_0 (Tr.all_n (G_bitmap_Map_Has sp) (Tr.all_n (G_slices_Clone_api_Col_api_Col sp) Tr.all_e Tr.all_e) Tr.all_e) (Tr.all_n (G_path_Col sp) Tr.all_e (Tr.all_n (G_asterismref1_Word sp) Tr.all_e Tr.all_e))) (Tr.all_n (G_asterismref12_DB_Add sp) (Tr.all_n (G_schema_Schema_Find sp) (Tr.all_n (G_column_Column_Append sp) Tr.all_e Tr.all_e) Tr.all_e) (Tr.all_0 (Tr.all_n (G_slices_IndexFunc_api_Col_api_Col sp) Tr.all_e Tr.all_e) Tr.all_e))) (Tr.all_0 (Tr.all_n (G_data_DB_Copy sp) (Tr.all_n (G_table_Table_Form sp) (Tr.all_n (G_schema_Schema_Find_1 sp) Tr.all_e Tr.all_e) (Tr.all_n (G_asterismref1_May sp) Tr.all_e Tr.all_e)) (Tr.all_n (G_slices_Clone_int_int sp) (Tr.all_n (G_bitmap_Not sp) Tr.all_e Tr.all_e) Tr.all_e)) (Tr.all_0 (Tr.all_n (G_asterismref12_DB_row sp) (Tr.all_n (G_cmp_isNaN_int64 sp) Tr.all_e Tr.all_e) (Tr.all_n (G_val_Digit sp) Tr.all_e Tr.all_e)) (Tr.all_n (G_slices_SortFunc_2_int_2_int sp) (Tr.all_n (G_schema_col_1 sp) Tr.all_e Tr.all_e) (Tr.all_n (G_omap_Map_string_int_find_1 sp) Tr.all_e Tr.all_e))))) (Tr.all_n (G_load_Load sp) (Tr.all_n (G_table_Table_Next sp) (Tr.all_n (G_bitmap_Map_All sp) (Tr.all_0 (Tr.all_n (G_column_Column_Words sp) Tr.all_e Tr.all_e) Tr.all_e) (Tr.all_0 (Tr.all_n (G_table_Table_may sp) Tr.all_e Tr.all_e) Tr.all_e)) (Tr.all_0 (Tr.all_n (G_table_Table_Row sp) Tr.all_e Tr.all_e) (Tr.all_n (G_bitmap_Map_Has_1 sp) (Tr.all_n (G_schema_twice sp) Tr.all_e Tr.all_e) (Tr.all_n (G_slices_IndexFunc_string_string sp) Tr.all_e Tr.all_e)))) (Tr.all_0 (Tr.all_0 (Tr.all_n (G_check_alike sp) (Tr.all_n (G_schema_Schema_Add_1 sp) Tr.all_e Tr.all_e) (Tr.all_n (G_omap_Map_string_int_Del sp) Tr.all_e Tr.all_e)) (Tr.all_n (G_table_Table_Insert sp) (Tr.all_n (G_slices_IndexFunc_2_int_2_int sp) Tr.all_e Tr.all_e) (Tr.all_n (G_omap_Map_string_int_find sp) Tr.all_e Tr.all_e))) (Tr.all_0 (Tr.all_n (G_cmp_Or_int sp) Tr.all_e (Tr.all_n (G_slices_IndexFunc_api_Dep_api_Dep sp) Tr.all_e Tr.all_e)) (Tr.all_n (G_asterismlaw12_Begun sp) (Tr.all_n (G_slices_insertionSortOrdered_int sp) Tr.all_e Tr.all_e) (Tr.all_n (G_asterismlaw11_shop sp) Tr.all_e Tr.all_e))))))) (Tr.all_0 (Tr.all_0 (Tr.all_0 (Tr.all_0 (Tr.all_n (G_table_Table_Live sp) (Tr.all_0 (Tr.all_n (G_asterismlaw14_text sp) Tr.all_e Tr.all_e) Tr.all_e) (Tr.all_n (G_cmp_Compare_string sp) Tr.all_e (Tr.all_n (G_asterismref1_Digit sp) Tr.all_e Tr.all_e))) (Tr.all_n (G_data_DB_Add sp) (Tr.all_0 (Tr.all_n (G_column_Column_Len sp) Tr.all_e Tr.all_e) Tr.all_e) (Tr.all_n (G_table_Table_Set sp) (Tr.all_n (G_asterismlaw12_begun sp) Tr.all_e Tr.all_e) Tr.all_e))) (Tr.all_0 (Tr.all_0 (Tr.all_n (G_asterismlaw14_begun sp) (Tr.all_n (G_slices_IndexFunc_api_Table_api_Table sp) Tr.all_e Tr.all_e) (Tr.all_n (G_val_May sp) Tr.all_e Tr.all_e)) (Tr.all_0 (Tr.all_n (G_bitmap_And sp) Tr.all_e Tr.all_e) Tr.all_e)) (Tr.all_0 (Tr.all_n (G_asterismref12_DB_Words sp) (Tr.all_n (G_cmp_isNaN_int sp) Tr.all_e Tr.all_e) (Tr.all_n (G_omap_Map_string_int_Len sp) Tr.all_e Tr.all_e)) (Tr.all_n (G_slices_Concat_2_int_2_int sp) (Tr.all_n (G_schema_dep sp) Tr.all_e Tr.all_e) (Tr.all_n (G_slices_BinarySearchFunc_omap_pair_string_int_omap_pair_string_int_string sp) Tr.all_e Tr.all_e))))) (Tr.all_0 (Tr.all_n (G_data_DB_Table sp) (Tr.all_n (G_check_limits sp) (Tr.all_0 (Tr.all_n (G_table_Table_col sp) Tr.all_e Tr.all_e) Tr.all_e) (Tr.all_0 (Tr.all_n (G_math_bits_Len sp) Tr.all_e Tr.all_e) Tr.all_e)) (Tr.all_n (G_data_DB_Value sp) (Tr.all_n (G_batch_one sp) (Tr.all_n (G_asterismref8_ColOf sp) Tr.all_e Tr.all_e) Tr.all_e) (Tr.all_n (G_slices_ContainsFunc_2_int_2_int sp) (Tr.all_n (G_val_Name sp) Tr.all_e Tr.all_e) (Tr.all_n (G_slices_Index_string_string sp) Tr.all_e Tr.all_e)))) (Tr.all_0 (Tr.all_0 (Tr.all_n (G_table_Table_Get sp) (Tr.all_n (G_slices_ContainsFunc_api_Col_api_Col sp) Tr.all_e Tr.all_e) (Tr.all_n (G_omap_Map_string_int_Put sp) Tr.all_e Tr.all_e)) (Tr.all_n (G_asterismref8_Schema_Find sp) (Tr.all_n (G_column_Column_count sp) Tr.all_e Tr.all_e) (Tr.all_n (G_strings_Compare sp) Tr.all_e Tr.all_e))) (Tr.all_n (G_asterismlaw12_Fill sp) (Tr.all_n (G_asterismref8_Form sp) Tr.all_e (Tr.all_n (G_slices_Contains_string_string sp) Tr.all_e Tr.all_e)) (Tr.all_n (G_asterismlaw13_text sp) Tr.all_e Tr.all_e))))) (Tr.all_n (G_asterismlaw15_LoadOrder sp) (Tr.all_0 (Tr.all_n (G_asterismlaw15_num sp) (Tr.all_n (G_data_DB_Schema sp) (Tr.all_0 (Tr.all_n (G_slices_Clone_api_Dep_api_Dep sp) Tr.all_e Tr.all_e) Tr.all_e) (Tr.all_n (G_schema_Schema_Col sp) Tr.all_e (Tr.all_n (G_asterismref1_Letter sp) Tr.all_e Tr.all_e))) (Tr.all_0 (Tr.all_n (G_schema_Schema_Add sp) Tr.all_e Tr.all_e) (Tr.all_n (G_bitmap_Without sp) (Tr.all_n (G_table_Table_col_1 sp) Tr.all_e Tr.all_e) Tr.all_e))) (Tr.all_0 (Tr.all_n (G_batch_Apply sp) (Tr.all_n (G_table_Table_Words sp) (Tr.all_n (G_schema_copied sp) Tr.all_e Tr.all_e) (Tr.all_n (G_dict_Dict_words sp) Tr.all_e Tr.all_e)) (Tr.all_n (G_slices_Sort_int_int sp) (Tr.all_n (G_column_Column_may sp) Tr.all_e Tr.all_e) (Tr.all_n (G_val_text sp) Tr.all_e Tr.all_e))) (Tr.all_n (G_bitmap_Of sp) (Tr.all_n (G_table_New sp) (Tr.all_n (G_cmp_isNaN_string sp) Tr.all_e Tr.all_e) (Tr.all_n (G_val_key sp) Tr.all_e Tr.all_e)) (Tr.all_n (G_bitmap_Or_1 sp) (Tr.all_n (G_asterismref1_Name sp) Tr.all_e Tr.all_e) Tr.all_e)))) (Tr.all_0 (Tr.all_0 (Tr.all_n (G_check_row sp) (Tr.all_n (G_bitmap_Or sp) (Tr.all_n (G_column_Column_At sp) Tr.all_e Tr.all_e) Tr.all_e) (Tr.all_0 (Tr.all_n (G_asterismref12_typed sp) Tr.all_e Tr.all_e) Tr.all_e)) (Tr.all_0 (Tr.all_0 (Tr.all_n (G_column_New sp) Tr.all_e Tr.all_e) Tr.all_e) (Tr.all_0 (Tr.all_n (G_slices_ContainsFunc_api_Dep_api_Dep sp) Tr.all_e Tr.all_e) Tr.all_e))) (Tr.all_n (G_asterismlaw13_Begun sp) (Tr.all_n (G_asterismref12_DB_Check sp) (Tr.all_n (G_data_DB_ByKey sp) (Tr.all_n (G_schema_Schema_refs sp) Tr.all_e Tr.all_e) (Tr.all_n (G_dict_Dict_Add sp) Tr.all_e Tr.all_e)) (Tr.all_n (G_asterismref12_DB_Insert sp) (Tr.all_n (G_slices_Grow_2_int_2_int sp) Tr.all_e Tr.all_e) Tr.all_e)) (Tr.all_0 (Tr.all_n (G_cmp_Compare_int sp) Tr.all_e (Tr.all_n (G_schema_dep_1 sp) Tr.all_e Tr.all_e)) (Tr.all_n (G_asterismlaw14_put sp) Tr.all_e (Tr.all_n (G_asterismlaw11_row sp) Tr.all_e Tr.all_e))))))))
end Go.L1
