/- Texts of a proof: no condition. -/
import Derived.Test.YtbmpmjljbiepiaaGreatTwoC
import Derived.Test.YtbmpmjljbiepiaaGreatSeatE
import Derived.KernelRfl
set_option autoImplicit true
set_option relaxedAutoImplicit true
set_option linter.all false
set_option linter.unusedVariables false
set_option linter.unusedSimpArgs false
set_option maxRecDepth 100000
set_option linter.unusedVariables false
namespace Go.L1
open Go Go.Proofs
noncomputable def E_k8 : FnE := fun call lp args h => match args with
 | [] => F_k8 call lp  h
 | _ => none
theorem G_k8 (sp : List Nat) : Good (pg sp) N_k8 E_k8 := by
  intro hsp call lp args h r hc hl hh
  unfold E_k8 at hh
  split at hh
  · rw [← F_k8_eq sp] at hh
    exact ic_k8 hsp ((F_k8_eq _ _ _ _).symm.trans (F_mono hc hl hh))
  · cases hh
noncomputable def E_k9 : FnE := fun call lp args h => match args with
 | [] => F_k9 call lp  h
 | _ => none
theorem G_k9 (sp : List Nat) : Good (pg sp) N_k9 E_k9 := by
  intro hsp call lp args h r hc hl hh
  unfold E_k9 at hh
  split at hh
  · rw [← F_k9_eq sp] at hh
    exact ic_k9 hsp ((F_k9_eq _ _ _ _).symm.trans (F_mono hc hl hh))
  · cases hh
noncomputable def E_k11 : FnE := fun call lp args h => match args with
 | [x0] => F_k11 call lp x0 h
 | _ => none
theorem G_k11 (sp : List Nat) : Good (pg sp) N_k11 E_k11 := by
  intro hsp call lp args h r hc hl hh
  unfold E_k11 at hh
  split at hh
  · rw [← F_k11_eq sp] at hh
    exact ic_k11 hsp _ ((F_k11_eq _ _ _ _ _).symm.trans (F_mono hc hl hh))
  · cases hh
noncomputable def E_k13 : FnE := fun call lp args h => match args with
 | [x0, x1] => F_k13 call lp x0 x1 h
 | _ => none
theorem G_k13 (sp : List Nat) : Good (pg sp) N_k13 E_k13 := by
  intro hsp call lp args h r hc hl hh
  unfold E_k13 at hh
  split at hh
  · rw [← F_k13_eq sp] at hh
    exact ic_k13 hsp _ _ ((F_k13_eq _ _ _ _ _ _).symm.trans (F_mono hc hl hh))
  · cases hh
noncomputable def E_k17 : FnE := fun call lp args h => match args with
 | [] => F_k17 call lp  h
 | _ => none
theorem G_k17 (sp : List Nat) : Good (pg sp) N_k17 E_k17 := by
  intro hsp call lp args h r hc hl hh
  unfold E_k17 at hh
  split at hh
  · rw [← F_k17_eq sp] at hh
    exact ic_k17 hsp ((F_k17_eq _ _ _ _).symm.trans (F_mono hc hl hh))
  · cases hh
noncomputable def E_k18 : FnE := fun call lp args h => match args with
 | [x0] => F_k18 call lp x0 h
 | _ => none
theorem G_k18 (sp : List Nat) : Good (pg sp) N_k18 E_k18 := by
  intro hsp call lp args h r hc hl hh
  unfold E_k18 at hh
  split at hh
  · rw [← F_k18_eq sp] at hh
    exact ic_k18 hsp _ ((F_k18_eq _ _ _ _ _).symm.trans (F_mono hc hl hh))
  · cases hh
noncomputable def E_k19 : FnE := fun call lp args h => match args with
 | [x0] => F_k19 call lp x0 h
 | _ => none
theorem G_k19 (sp : List Nat) : Good (pg sp) N_k19 E_k19 := by
  intro hsp call lp args h r hc hl hh
  unfold E_k19 at hh
  split at hh
  · rw [← F_k19_eq sp] at hh
    exact ic_k19 hsp _ ((F_k19_eq _ _ _ _ _).symm.trans (F_mono hc hl hh))
  · cases hh
noncomputable def E_k20 : FnE := fun call lp args h => match args with
 | [x0, x1] => F_k20 call lp x0 x1 h
 | _ => none
theorem G_k20 (sp : List Nat) : Good (pg sp) N_k20 E_k20 := by
  intro hsp call lp args h r hc hl hh
  unfold E_k20 at hh
  split at hh
  · rw [← F_k20_eq sp] at hh
    exact ic_k20 hsp _ _ ((F_k20_eq _ _ _ _ _ _).symm.trans (F_mono hc hl hh))
  · cases hh
noncomputable def E_k21 : FnE := fun call lp args h => match args with
 | [x0] => F_k21 call lp x0 h
 | _ => none
theorem G_k21 (sp : List Nat) : Good (pg sp) N_k21 E_k21 := by
  intro hsp call lp args h r hc hl hh
  unfold E_k21 at hh
  split at hh
  · rw [← F_k21_eq sp] at hh
    exact ic_k21 hsp _ ((F_k21_eq _ _ _ _ _).symm.trans (F_mono hc hl hh))
  · cases hh
noncomputable def E_k22 : FnE := fun call lp args h => match args with
 | [x0, x1] => F_k22 call lp x0 x1 h
 | _ => none
theorem G_k22 (sp : List Nat) : Good (pg sp) N_k22 E_k22 := by
  intro hsp call lp args h r hc hl hh
  unfold E_k22 at hh
  split at hh
  · rw [← F_k22_eq sp] at hh
    exact ic_k22 hsp _ _ ((F_k22_eq _ _ _ _ _ _).symm.trans (F_mono hc hl hh))
  · cases hh
noncomputable def E_k23 : FnE := fun call lp args h => match args with
 | [] => F_k23 call lp  h
 | _ => none
theorem G_k23 (sp : List Nat) : Good (pg sp) N_k23 E_k23 := by
  intro hsp call lp args h r hc hl hh
  unfold E_k23 at hh
  split at hh
  · rw [← F_k23_eq sp] at hh
    exact ic_k23 hsp ((F_k23_eq _ _ _ _).symm.trans (F_mono hc hl hh))
  · cases hh
noncomputable def E_k24 : FnE := fun call lp args h => match args with
 | [] => F_k24 call lp  h
 | _ => none
theorem G_k24 (sp : List Nat) : Good (pg sp) N_k24 E_k24 := by
  intro hsp call lp args h r hc hl hh
  unfold E_k24 at hh
  split at hh
  · rw [← F_k24_eq sp] at hh
    exact ic_k24 hsp ((F_k24_eq _ _ _ _).symm.trans (F_mono hc hl hh))
  · cases hh
noncomputable def E_k25 : FnE := fun call lp args h => match args with
 | [x0, x1] => F_k25 call lp x0 x1 h
 | _ => none
theorem G_k25 (sp : List Nat) : Good (pg sp) N_k25 E_k25 := by
  intro hsp call lp args h r hc hl hh
  unfold E_k25 at hh
  split at hh
  · rw [← F_k25_eq sp] at hh
    exact ic_k25 hsp _ _ ((F_k25_eq _ _ _ _ _ _).symm.trans (F_mono hc hl hh))
  · cases hh
noncomputable def E_k26 : FnE := fun call lp args h => match args with
 | [x0] => F_k26 call lp x0 h
 | _ => none
theorem G_k26 (sp : List Nat) : Good (pg sp) N_k26 E_k26 := by
  intro hsp call lp args h r hc hl hh
  unfold E_k26 at hh
  split at hh
  · rw [← F_k26_eq sp] at hh
    exact ic_k26 hsp _ ((F_k26_eq _ _ _ _ _).symm.trans (F_mono hc hl hh))
  · cases hh
noncomputable def E_k27 : FnE := fun call lp args h => match args with
 | [x0] => F_k27 call lp x0 h
 | _ => none
theorem G_k27 (sp : List Nat) : Good (pg sp) N_k27 E_k27 := by
  intro hsp call lp args h r hc hl hh
  unfold E_k27 at hh
  split at hh
  · rw [← F_k27_eq sp] at hh
    exact ic_k27 hsp _ ((F_k27_eq _ _ _ _ _).symm.trans (F_mono hc hl hh))
  · cases hh
noncomputable def E_k28 : FnE := fun call lp args h => match args with
 | [x0] => F_k28 call lp x0 h
 | _ => none
theorem G_k28 (sp : List Nat) : Good (pg sp) N_k28 E_k28 := by
  intro hsp call lp args h r hc hl hh
  unfold E_k28 at hh
  split at hh
  · rw [← F_k28_eq sp] at hh
    exact ic_k28 hsp _ ((F_k28_eq _ _ _ _ _).symm.trans (F_mono hc hl hh))
  · cases hh
noncomputable def E_k29 : FnE := fun call lp args h => match args with
 | [x0, x1, x2] => F_k29 call lp x0 x1 x2 h
 | _ => none
theorem G_k29 (sp : List Nat) : Good (pg sp) N_k29 E_k29 := by
  intro hsp call lp args h r hc hl hh
  unfold E_k29 at hh
  split at hh
  · rw [← F_k29_eq sp] at hh
    exact ic_k29 hsp _ _ _ ((F_k29_eq _ _ _ _ _ _ _).symm.trans (F_mono hc hl hh))
  · cases hh
noncomputable def E_k30 : FnE := fun call lp args h => match args with
 | [] => F_k30 call lp  h
 | _ => none
theorem G_k30 (sp : List Nat) : Good (pg sp) N_k30 E_k30 := by
  intro hsp call lp args h r hc hl hh
  unfold E_k30 at hh
  split at hh
  · rw [← F_k30_eq sp] at hh
    exact ic_k30 hsp ((F_k30_eq _ _ _ _).symm.trans (F_mono hc hl hh))
  · cases hh
noncomputable def E_k31 : FnE := fun call lp args h => match args with
 | [] => F_k31 call lp  h
 | _ => none
theorem G_k31 (sp : List Nat) : Good (pg sp) N_k31 E_k31 := by
  intro hsp call lp args h r hc hl hh
  unfold E_k31 at hh
  split at hh
  · rw [← F_k31_eq sp] at hh
    exact ic_k31 hsp ((F_k31_eq _ _ _ _).symm.trans (F_mono hc hl hh))
  · cases hh
noncomputable def E_k32 : FnE := fun call lp args h => match args with
 | [x0] => F_k32 call lp x0 h
 | _ => none
theorem G_k32 (sp : List Nat) : Good (pg sp) N_k32 E_k32 := by
  intro hsp call lp args h r hc hl hh
  unfold E_k32 at hh
  split at hh
  · rw [← F_k32_eq sp] at hh
    exact ic_k32 hsp _ ((F_k32_eq _ _ _ _ _).symm.trans (F_mono hc hl hh))
  · cases hh
noncomputable def E_k34 : FnE := fun call lp args h => match args with
 | [x0] => F_k34 call lp x0 h
 | _ => none
theorem G_k34 (sp : List Nat) : Good (pg sp) N_k34 E_k34 := by
  intro hsp call lp args h r hc hl hh
  unfold E_k34 at hh
  split at hh
  · rw [← F_k34_eq sp] at hh
    exact ic_k34 hsp _ ((F_k34_eq _ _ _ _ _).symm.trans (F_mono hc hl hh))
  · cases hh
noncomputable def E_k35 : FnE := fun call lp args h => match args with
 | [x0] => F_k35 call lp x0 h
 | _ => none
theorem G_k35 (sp : List Nat) : Good (pg sp) N_k35 E_k35 := by
  intro hsp call lp args h r hc hl hh
  unfold E_k35 at hh
  split at hh
  · rw [← F_k35_eq sp] at hh
    exact ic_k35 hsp _ ((F_k35_eq _ _ _ _ _).symm.trans (F_mono hc hl hh))
  · cases hh
noncomputable def E_k36 : FnE := fun call lp args h => match args with
 | [x0, x1] => F_k36 call lp x0 x1 h
 | _ => none
theorem G_k36 (sp : List Nat) : Good (pg sp) N_k36 E_k36 := by
  intro hsp call lp args h r hc hl hh
  unfold E_k36 at hh
  split at hh
  · rw [← F_k36_eq sp] at hh
    exact ic_k36 hsp _ _ ((F_k36_eq _ _ _ _ _ _).symm.trans (F_mono hc hl hh))
  · cases hh
noncomputable def E_k37 : FnE := fun call lp args h => match args with
 | [x0] => F_k37 call lp x0 h
 | _ => none
theorem G_k37 (sp : List Nat) : Good (pg sp) N_k37 E_k37 := by
  intro hsp call lp args h r hc hl hh
  unfold E_k37 at hh
  split at hh
  · rw [← F_k37_eq sp] at hh
    exact ic_k37 hsp _ ((F_k37_eq _ _ _ _ _).symm.trans (F_mono hc hl hh))
  · cases hh
noncomputable def E_k38 : FnE := fun call lp args h => match args with
 | [x0, x1, x2, x3] => F_k38 call lp x0 x1 x2 x3 h
 | _ => none
theorem G_k38 (sp : List Nat) : Good (pg sp) N_k38 E_k38 := by
  intro hsp call lp args h r hc hl hh
  unfold E_k38 at hh
  split at hh
  · rw [← F_k38_eq sp] at hh
    exact ic_k38 hsp _ _ _ _ ((F_k38_eq _ _ _ _ _ _ _ _).symm.trans (F_mono hc hl hh))
  · cases hh
noncomputable def E_k41 : FnE := fun call lp args h => match args with
 | [x0] => F_k41 call lp x0 h
 | _ => none
theorem G_k41 (sp : List Nat) : Good (pg sp) N_k41 E_k41 := by
  intro hsp call lp args h r hc hl hh
  unfold E_k41 at hh
  split at hh
  · rw [← F_k41_eq sp] at hh
    exact ic_k41 hsp _ ((F_k41_eq _ _ _ _ _).symm.trans (F_mono hc hl hh))
  · cases hh
noncomputable def E_k42 : FnE := fun call lp args h => match args with
 | [x0, x1] => F_k42 call lp x0 x1 h
 | _ => none
theorem G_k42 (sp : List Nat) : Good (pg sp) N_k42 E_k42 := by
  intro hsp call lp args h r hc hl hh
  unfold E_k42 at hh
  split at hh
  · rw [← F_k42_eq sp] at hh
    exact ic_k42 hsp _ _ ((F_k42_eq _ _ _ _ _ _).symm.trans (F_mono hc hl hh))
  · cases hh
noncomputable def E_k46 : FnE := fun call lp args h => match args with
 | [x0] => F_k46 call lp x0 h
 | _ => none
theorem G_k46 (sp : List Nat) : Good (pg sp) N_k46 E_k46 := by
  intro hsp call lp args h r hc hl hh
  unfold E_k46 at hh
  split at hh
  · rw [← F_k46_eq sp] at hh
    exact ic_k46 hsp _ ((F_k46_eq _ _ _ _ _).symm.trans (F_mono hc hl hh))
  · cases hh
noncomputable def E_k47 : FnE := fun call lp args h => match args with
 | [] => F_k47 call lp  h
 | _ => none
theorem G_k47 (sp : List Nat) : Good (pg sp) N_k47 E_k47 := by
  intro hsp call lp args h r hc hl hh
  unfold E_k47 at hh
  split at hh
  · rw [← F_k47_eq sp] at hh
    exact ic_k47 hsp ((F_k47_eq _ _ _ _).symm.trans (F_mono hc hl hh))
  · cases hh
noncomputable def E_k48 : FnE := fun call lp args h => match args with
 | [x0, x1] => F_k48 call lp x0 x1 h
 | _ => none
theorem G_k48 (sp : List Nat) : Good (pg sp) N_k48 E_k48 := by
  intro hsp call lp args h r hc hl hh
  unfold E_k48 at hh
  split at hh
  · rw [← F_k48_eq sp] at hh
    exact ic_k48 hsp _ _ ((F_k48_eq _ _ _ _ _ _).symm.trans (F_mono hc hl hh))
  · cases hh
noncomputable def E_k49 : FnE := fun call lp args h => match args with
 | [x0, x1] => F_k49 call lp x0 x1 h
 | _ => none
theorem G_k49 (sp : List Nat) : Good (pg sp) N_k49 E_k49 := by
  intro hsp call lp args h r hc hl hh
  unfold E_k49 at hh
  split at hh
  · rw [← F_k49_eq sp] at hh
    exact ic_k49 hsp _ _ ((F_k49_eq _ _ _ _ _ _).symm.trans (F_mono hc hl hh))
  · cases hh
noncomputable def E_k50 : FnE := fun call lp args h => match args with
 | [x0] => F_k50 call lp x0 h
 | _ => none
theorem G_k50 (sp : List Nat) : Good (pg sp) N_k50 E_k50 := by
  intro hsp call lp args h r hc hl hh
  unfold E_k50 at hh
  split at hh
  · rw [← F_k50_eq sp] at hh
    exact ic_k50 hsp _ ((F_k50_eq _ _ _ _ _).symm.trans (F_mono hc hl hh))
  · cases hh
noncomputable def E_k51 : FnE := fun call lp args h => match args with
 | [x0, x1] => F_k51 call lp x0 x1 h
 | _ => none
theorem G_k51 (sp : List Nat) : Good (pg sp) N_k51 E_k51 := by
  intro hsp call lp args h r hc hl hh
  unfold E_k51 at hh
  split at hh
  · rw [← F_k51_eq sp] at hh
    exact ic_k51 hsp _ _ ((F_k51_eq _ _ _ _ _ _).symm.trans (F_mono hc hl hh))
  · cases hh
noncomputable def E_k52 : FnE := fun call lp args h => match args with
 | [x0, x1, x2, x3] => F_k52 call lp x0 x1 x2 x3 h
 | _ => none
theorem G_k52 (sp : List Nat) : Good (pg sp) N_k52 E_k52 := by
  intro hsp call lp args h r hc hl hh
  unfold E_k52 at hh
  split at hh
  · rw [← F_k52_eq sp] at hh
    exact ic_k52 hsp _ _ _ _ ((F_k52_eq _ _ _ _ _ _ _ _).symm.trans (F_mono hc hl hh))
  · cases hh
noncomputable def E_k53 : FnE := fun call lp args h => match args with
 | [x0, x1] => F_k53 call lp x0 x1 h
 | _ => none
theorem G_k53 (sp : List Nat) : Good (pg sp) N_k53 E_k53 := by
  intro hsp call lp args h r hc hl hh
  unfold E_k53 at hh
  split at hh
  · rw [← F_k53_eq sp] at hh
    exact ic_k53 hsp _ _ ((F_k53_eq _ _ _ _ _ _).symm.trans (F_mono hc hl hh))
  · cases hh
noncomputable def E_k54 : FnE := fun call lp args h => match args with
 | [x0, x1, x2] => F_k54 call lp x0 x1 x2 h
 | _ => none
theorem G_k54 (sp : List Nat) : Good (pg sp) N_k54 E_k54 := by
  intro hsp call lp args h r hc hl hh
  unfold E_k54 at hh
  split at hh
  · rw [← F_k54_eq sp] at hh
    exact ic_k54 hsp _ _ _ ((F_k54_eq _ _ _ _ _ _ _).symm.trans (F_mono hc hl hh))
  · cases hh
noncomputable def E_k55 : FnE := fun call lp args h => match args with
 | [x0] => F_k55 call lp x0 h
 | _ => none
theorem G_k55 (sp : List Nat) : Good (pg sp) N_k55 E_k55 := by
  intro hsp call lp args h r hc hl hh
  unfold E_k55 at hh
  split at hh
  · rw [← F_k55_eq sp] at hh
    exact ic_k55 hsp _ ((F_k55_eq _ _ _ _ _).symm.trans (F_mono hc hl hh))
  · cases hh
noncomputable def E_k56 : FnE := fun call lp args h => match args with
 | [x0] => F_k56 call lp x0 h
 | _ => none
theorem G_k56 (sp : List Nat) : Good (pg sp) N_k56 E_k56 := by
  intro hsp call lp args h r hc hl hh
  unfold E_k56 at hh
  split at hh
  · rw [← F_k56_eq sp] at hh
    exact ic_k56 hsp _ ((F_k56_eq _ _ _ _ _).symm.trans (F_mono hc hl hh))
  · cases hh
noncomputable def E_k57 : FnE := fun call lp args h => match args with
 | [x0, x1, x2] => F_k57 call lp x0 x1 x2 h
 | _ => none
theorem G_k57 (sp : List Nat) : Good (pg sp) N_k57 E_k57 := by
  intro hsp call lp args h r hc hl hh
  unfold E_k57 at hh
  split at hh
  · rw [← F_k57_eq sp] at hh
    exact ic_k57 hsp _ _ _ ((F_k57_eq _ _ _ _ _ _ _).symm.trans (F_mono hc hl hh))
  · cases hh
noncomputable def E_k58 : FnE := fun call lp args h => match args with
 | [x0] => F_k58 call lp x0 h
 | _ => none
theorem G_k58 (sp : List Nat) : Good (pg sp) N_k58 E_k58 := by
  intro hsp call lp args h r hc hl hh
  unfold E_k58 at hh
  split at hh
  · rw [← F_k58_eq sp] at hh
    exact ic_k58 hsp _ ((F_k58_eq _ _ _ _ _).symm.trans (F_mono hc hl hh))
  · cases hh
noncomputable def E_k59 : FnE := fun call lp args h => match args with
 | [] => F_k59 call lp  h
 | _ => none
theorem G_k59 (sp : List Nat) : Good (pg sp) N_k59 E_k59 := by
  intro hsp call lp args h r hc hl hh
  unfold E_k59 at hh
  split at hh
  · rw [← F_k59_eq sp] at hh
    exact ic_k59 hsp ((F_k59_eq _ _ _ _).symm.trans (F_mono hc hl hh))
  · cases hh
noncomputable def E_k60 : FnE := fun call lp args h => match args with
 | [x0, x1, x2] => F_k60 call lp x0 x1 x2 h
 | _ => none
theorem G_k60 (sp : List Nat) : Good (pg sp) N_k60 E_k60 := by
  intro hsp call lp args h r hc hl hh
  unfold E_k60 at hh
  split at hh
  · rw [← F_k60_eq sp] at hh
    exact ic_k60 hsp _ _ _ ((F_k60_eq _ _ _ _ _ _ _).symm.trans (F_mono hc hl hh))
  · cases hh
noncomputable def E_k61 : FnE := fun call lp args h => match args with
 | [x0] => F_k61 call lp x0 h
 | _ => none
theorem G_k61 (sp : List Nat) : Good (pg sp) N_k61 E_k61 := by
  intro hsp call lp args h r hc hl hh
  unfold E_k61 at hh
  split at hh
  · rw [← F_k61_eq sp] at hh
    exact ic_k61 hsp _ ((F_k61_eq _ _ _ _ _).symm.trans (F_mono hc hl hh))
  · cases hh
noncomputable def E_k62 : FnE := fun call lp args h => match args with
 | [x0, x1, x2] => F_k62 call lp x0 x1 x2 h
 | _ => none
theorem G_k62 (sp : List Nat) : Good (pg sp) N_k62 E_k62 := by
  intro hsp call lp args h r hc hl hh
  unfold E_k62 at hh
  split at hh
  · rw [← F_k62_eq sp] at hh
    exact ic_k62 hsp _ _ _ ((F_k62_eq _ _ _ _ _ _ _).symm.trans (F_mono hc hl hh))
  · cases hh
noncomputable def E_k63 : FnE := fun call lp args h => match args with
 | [x0, x1] => F_k63 call lp x0 x1 h
 | _ => none
theorem G_k63 (sp : List Nat) : Good (pg sp) N_k63 E_k63 := by
  intro hsp call lp args h r hc hl hh
  unfold E_k63 at hh
  split at hh
  · rw [← F_k63_eq sp] at hh
    exact ic_k63 hsp _ _ ((F_k63_eq _ _ _ _ _ _).symm.trans (F_mono hc hl hh))
  · cases hh
noncomputable def E_k64 : FnE := fun call lp args h => match args with
 | [] => F_k64 call lp  h
 | _ => none
theorem G_k64 (sp : List Nat) : Good (pg sp) N_k64 E_k64 := by
  intro hsp call lp args h r hc hl hh
  unfold E_k64 at hh
  split at hh
  · rw [← F_k64_eq sp] at hh
    exact ic_k64 hsp ((F_k64_eq _ _ _ _).symm.trans (F_mono hc hl hh))
  · cases hh
noncomputable def E_k65 : FnE := fun call lp args h => match args with
 | [x0, x1] => F_k65 call lp x0 x1 h
 | _ => none
theorem G_k65 (sp : List Nat) : Good (pg sp) N_k65 E_k65 := by
  intro hsp call lp args h r hc hl hh
  unfold E_k65 at hh
  split at hh
  · rw [← F_k65_eq sp] at hh
    exact ic_k65 hsp _ _ ((F_k65_eq _ _ _ _ _ _).symm.trans (F_mono hc hl hh))
  · cases hh
noncomputable def E_k66 : FnE := fun call lp args h => match args with
 | [x0, x1] => F_k66 call lp x0 x1 h
 | _ => none
theorem G_k66 (sp : List Nat) : Good (pg sp) N_k66 E_k66 := by
  intro hsp call lp args h r hc hl hh
  unfold E_k66 at hh
  split at hh
  · rw [← F_k66_eq sp] at hh
    exact ic_k66 hsp _ _ ((F_k66_eq _ _ _ _ _ _).symm.trans (F_mono hc hl hh))
  · cases hh
noncomputable def E_k67 : FnE := fun call lp args h => match args with
 | [x0, x1] => F_k67 call lp x0 x1 h
 | _ => none
theorem G_k67 (sp : List Nat) : Good (pg sp) N_k67 E_k67 := by
  intro hsp call lp args h r hc hl hh
  unfold E_k67 at hh
  split at hh
  · rw [← F_k67_eq sp] at hh
    exact ic_k67 hsp _ _ ((F_k67_eq _ _ _ _ _ _).symm.trans (F_mono hc hl hh))
  · cases hh
noncomputable def E_k68 : FnE := fun call lp args h => match args with
 | [x0] => F_k68 call lp x0 h
 | _ => none
theorem G_k68 (sp : List Nat) : Good (pg sp) N_k68 E_k68 := by
  intro hsp call lp args h r hc hl hh
  unfold E_k68 at hh
  split at hh
  · rw [← F_k68_eq sp] at hh
    exact ic_k68 hsp _ ((F_k68_eq _ _ _ _ _).symm.trans (F_mono hc hl hh))
  · cases hh
noncomputable def E_k69 : FnE := fun call lp args h => match args with
 | [x0, x1, x2] => F_k69 call lp x0 x1 x2 h
 | _ => none
theorem G_k69 (sp : List Nat) : Good (pg sp) N_k69 E_k69 := by
  intro hsp call lp args h r hc hl hh
  unfold E_k69 at hh
  split at hh
  · rw [← F_k69_eq sp] at hh
    exact ic_k69 hsp _ _ _ ((F_k69_eq _ _ _ _ _ _ _).symm.trans (F_mono hc hl hh))
  · cases hh
noncomputable def E_k70 : FnE := fun call lp args h => match args with
 | [x0, x1] => F_k70 call lp x0 x1 h
 | _ => none
theorem G_k70 (sp : List Nat) : Good (pg sp) N_k70 E_k70 := by
  intro hsp call lp args h r hc hl hh
  unfold E_k70 at hh
  split at hh
  · rw [← F_k70_eq sp] at hh
    exact ic_k70 hsp _ _ ((F_k70_eq _ _ _ _ _ _).symm.trans (F_mono hc hl hh))
  · cases hh
noncomputable def E_k71 : FnE := fun call lp args h => match args with
 | [] => F_k71 call lp  h
 | _ => none
theorem G_k71 (sp : List Nat) : Good (pg sp) N_k71 E_k71 := by
  intro hsp call lp args h r hc hl hh
  unfold E_k71 at hh
  split at hh
  · rw [← F_k71_eq sp] at hh
    exact ic_k71 hsp ((F_k71_eq _ _ _ _).symm.trans (F_mono hc hl hh))
  · cases hh
noncomputable def E_k72 : FnE := fun call lp args h => match args with
 | [] => F_k72 call lp  h
 | _ => none
theorem G_k72 (sp : List Nat) : Good (pg sp) N_k72 E_k72 := by
  intro hsp call lp args h r hc hl hh
  unfold E_k72 at hh
  split at hh
  · rw [← F_k72_eq sp] at hh
    exact ic_k72 hsp ((F_k72_eq _ _ _ _).symm.trans (F_mono hc hl hh))
  · cases hh
noncomputable def E_k73 : FnE := fun call lp args h => match args with
 | [x0] => F_k73 call lp x0 h
 | _ => none
theorem G_k73 (sp : List Nat) : Good (pg sp) N_k73 E_k73 := by
  intro hsp call lp args h r hc hl hh
  unfold E_k73 at hh
  split at hh
  · rw [← F_k73_eq sp] at hh
    exact ic_k73 hsp _ ((F_k73_eq _ _ _ _ _).symm.trans (F_mono hc hl hh))
  · cases hh
noncomputable def E_k74 : FnE := fun call lp args h => match args with
 | [x0, x1] => F_k74 call lp x0 x1 h
 | _ => none
theorem G_k74 (sp : List Nat) : Good (pg sp) N_k74 E_k74 := by
  intro hsp call lp args h r hc hl hh
  unfold E_k74 at hh
  split at hh
  · rw [← F_k74_eq sp] at hh
    exact ic_k74 hsp _ _ ((F_k74_eq _ _ _ _ _ _).symm.trans (F_mono hc hl hh))
  · cases hh
noncomputable def E_k75 : FnE := fun call lp args h => match args with
 | [x0, x1] => F_k75 call lp x0 x1 h
 | _ => none
theorem G_k75 (sp : List Nat) : Good (pg sp) N_k75 E_k75 := by
  intro hsp call lp args h r hc hl hh
  unfold E_k75 at hh
  split at hh
  · rw [← F_k75_eq sp] at hh
    exact ic_k75 hsp _ _ ((F_k75_eq _ _ _ _ _ _).symm.trans (F_mono hc hl hh))
  · cases hh
noncomputable def E_k76 : FnE := fun call lp args h => match args with
 | [x0, x1, x2] => F_k76 call lp x0 x1 x2 h
 | _ => none
theorem G_k76 (sp : List Nat) : Good (pg sp) N_k76 E_k76 := by
  intro hsp call lp args h r hc hl hh
  unfold E_k76 at hh
  split at hh
  · rw [← F_k76_eq sp] at hh
    exact ic_k76 hsp _ _ _ ((F_k76_eq _ _ _ _ _ _ _).symm.trans (F_mono hc hl hh))
  · cases hh
noncomputable def E_k77 : FnE := fun call lp args h => match args with
 | [x0, x1, x2, x3] => F_k77 call lp x0 x1 x2 x3 h
 | _ => none
theorem G_k77 (sp : List Nat) : Good (pg sp) N_k77 E_k77 := by
  intro hsp call lp args h r hc hl hh
  unfold E_k77 at hh
  split at hh
  · rw [← F_k77_eq sp] at hh
    exact ic_k77 hsp _ _ _ _ ((F_k77_eq _ _ _ _ _ _ _ _).symm.trans (F_mono hc hl hh))
  · cases hh
noncomputable def E_k78 : FnE := fun call lp args h => match args with
 | [x0, x1, x2] => F_k78 call lp x0 x1 x2 h
 | _ => none
theorem G_k78 (sp : List Nat) : Good (pg sp) N_k78 E_k78 := by
  intro hsp call lp args h r hc hl hh
  unfold E_k78 at hh
  split at hh
  · rw [← F_k78_eq sp] at hh
    exact ic_k78 hsp _ _ _ ((F_k78_eq _ _ _ _ _ _ _).symm.trans (F_mono hc hl hh))
  · cases hh
noncomputable def E_k79 : FnE := fun call lp args h => match args with
 | [x0, x1, x2, x3] => F_k79 call lp x0 x1 x2 x3 h
 | _ => none
theorem G_k79 (sp : List Nat) : Good (pg sp) N_k79 E_k79 := by
  intro hsp call lp args h r hc hl hh
  unfold E_k79 at hh
  split at hh
  · rw [← F_k79_eq sp] at hh
    exact ic_k79 hsp _ _ _ _ ((F_k79_eq _ _ _ _ _ _ _ _).symm.trans (F_mono hc hl hh))
  · cases hh
noncomputable def E_k81 : FnE := fun call lp args h => match args with
 | [x0, x1] => F_k81 call lp x0 x1 h
 | _ => none
theorem G_k81 (sp : List Nat) : Good (pg sp) N_k81 E_k81 := by
  intro hsp call lp args h r hc hl hh
  unfold E_k81 at hh
  split at hh
  · rw [← F_k81_eq sp] at hh
    exact ic_k81 hsp _ _ ((F_k81_eq _ _ _ _ _ _).symm.trans (F_mono hc hl hh))
  · cases hh
noncomputable def E_k82 : FnE := fun call lp args h => match args with
 | [x0, x1] => F_k82 call lp x0 x1 h
 | _ => none
theorem G_k82 (sp : List Nat) : Good (pg sp) N_k82 E_k82 := by
  intro hsp call lp args h r hc hl hh
  unfold E_k82 at hh
  split at hh
  · rw [← F_k82_eq sp] at hh
    exact ic_k82 hsp _ _ ((F_k82_eq _ _ _ _ _ _).symm.trans (F_mono hc hl hh))
  · cases hh
noncomputable def E_k83 : FnE := fun call lp args h => match args with
 | [x0] => F_k83 call lp x0 h
 | _ => none
theorem G_k83 (sp : List Nat) : Good (pg sp) N_k83 E_k83 := by
  intro hsp call lp args h r hc hl hh
  unfold E_k83 at hh
  split at hh
  · rw [← F_k83_eq sp] at hh
    exact ic_k83 hsp _ ((F_k83_eq _ _ _ _ _).symm.trans (F_mono hc hl hh))
  · cases hh
noncomputable def E_k84 : FnE := fun call lp args h => match args with
 | [x0, x1] => F_k84 call lp x0 x1 h
 | _ => none
theorem G_k84 (sp : List Nat) : Good (pg sp) N_k84 E_k84 := by
  intro hsp call lp args h r hc hl hh
  unfold E_k84 at hh
  split at hh
  · rw [← F_k84_eq sp] at hh
    exact ic_k84 hsp _ _ ((F_k84_eq _ _ _ _ _ _).symm.trans (F_mono hc hl hh))
  · cases hh
noncomputable def E_k85 : FnE := fun call lp args h => match args with
 | [x0, x1] => F_k85 call lp x0 x1 h
 | _ => none
theorem G_k85 (sp : List Nat) : Good (pg sp) N_k85 E_k85 := by
  intro hsp call lp args h r hc hl hh
  unfold E_k85 at hh
  split at hh
  · rw [← F_k85_eq sp] at hh
    exact ic_k85 hsp _ _ ((F_k85_eq _ _ _ _ _ _).symm.trans (F_mono hc hl hh))
  · cases hh
noncomputable def E_k88 : FnE := fun call lp args h => match args with
 | [x0, x1, x2] => F_k88 call lp x0 x1 x2 h
 | _ => none
theorem G_k88 (sp : List Nat) : Good (pg sp) N_k88 E_k88 := by
  intro hsp call lp args h r hc hl hh
  unfold E_k88 at hh
  split at hh
  · rw [← F_k88_eq sp] at hh
    exact ic_k88 hsp _ _ _ ((F_k88_eq _ _ _ _ _ _ _).symm.trans (F_mono hc hl hh))
  · cases hh
noncomputable def E_k89 : FnE := fun call lp args h => match args with
 | [x0, x1, x2] => F_k89 call lp x0 x1 x2 h
 | _ => none
theorem G_k89 (sp : List Nat) : Good (pg sp) N_k89 E_k89 := by
  intro hsp call lp args h r hc hl hh
  unfold E_k89 at hh
  split at hh
  · rw [← F_k89_eq sp] at hh
    exact ic_k89 hsp _ _ _ ((F_k89_eq _ _ _ _ _ _ _).symm.trans (F_mono hc hl hh))
  · cases hh
noncomputable def E_k90 : FnE := fun call lp args h => match args with
 | [x0] => F_k90 call lp x0 h
 | _ => none
theorem G_k90 (sp : List Nat) : Good (pg sp) N_k90 E_k90 := by
  intro hsp call lp args h r hc hl hh
  unfold E_k90 at hh
  split at hh
  · rw [← F_k90_eq sp] at hh
    exact ic_k90 hsp _ ((F_k90_eq _ _ _ _ _).symm.trans (F_mono hc hl hh))
  · cases hh
noncomputable def E_k91 : FnE := fun call lp args h => match args with
 | [x0, x1] => F_k91 call lp x0 x1 h
 | _ => none
theorem G_k91 (sp : List Nat) : Good (pg sp) N_k91 E_k91 := by
  intro hsp call lp args h r hc hl hh
  unfold E_k91 at hh
  split at hh
  · rw [← F_k91_eq sp] at hh
    exact ic_k91 hsp _ _ ((F_k91_eq _ _ _ _ _ _).symm.trans (F_mono hc hl hh))
  · cases hh
noncomputable def E_k92 : FnE := fun call lp args h => match args with
 | [x0] => F_k92 call lp x0 h
 | _ => none
theorem G_k92 (sp : List Nat) : Good (pg sp) N_k92 E_k92 := by
  intro hsp call lp args h r hc hl hh
  unfold E_k92 at hh
  split at hh
  · rw [← F_k92_eq sp] at hh
    exact ic_k92 hsp _ ((F_k92_eq _ _ _ _ _).symm.trans (F_mono hc hl hh))
  · cases hh
noncomputable def E_k93 : FnE := fun call lp args h => match args with
 | [x0] => F_k93 call lp x0 h
 | _ => none
theorem G_k93 (sp : List Nat) : Good (pg sp) N_k93 E_k93 := by
  intro hsp call lp args h r hc hl hh
  unfold E_k93 at hh
  split at hh
  · rw [← F_k93_eq sp] at hh
    exact ic_k93 hsp _ ((F_k93_eq _ _ _ _ _).symm.trans (F_mono hc hl hh))
  · cases hh
noncomputable def E_k94 : FnE := fun call lp args h => match args with
 | [x0, x1] => F_k94 call lp x0 x1 h
 | _ => none
theorem G_k94 (sp : List Nat) : Good (pg sp) N_k94 E_k94 := by
  intro hsp call lp args h r hc hl hh
  unfold E_k94 at hh
  split at hh
  · rw [← F_k94_eq sp] at hh
    exact ic_k94 hsp _ _ ((F_k94_eq _ _ _ _ _ _).symm.trans (F_mono hc hl hh))
  · cases hh
noncomputable def E_k95 : FnE := fun call lp args h => match args with
 | [x0, x1] => F_k95 call lp x0 x1 h
 | _ => none
theorem G_k95 (sp : List Nat) : Good (pg sp) N_k95 E_k95 := by
  intro hsp call lp args h r hc hl hh
  unfold E_k95 at hh
  split at hh
  · rw [← F_k95_eq sp] at hh
    exact ic_k95 hsp _ _ ((F_k95_eq _ _ _ _ _ _).symm.trans (F_mono hc hl hh))
  · cases hh
noncomputable def E_k96 : FnE := fun call lp args h => match args with
 | [x0, x1] => F_k96 call lp x0 x1 h
 | _ => none
theorem G_k96 (sp : List Nat) : Good (pg sp) N_k96 E_k96 := by
  intro hsp call lp args h r hc hl hh
  unfold E_k96 at hh
  split at hh
  · rw [← F_k96_eq sp] at hh
    exact ic_k96 hsp _ _ ((F_k96_eq _ _ _ _ _ _).symm.trans (F_mono hc hl hh))
  · cases hh
noncomputable def E_k97 : FnE := fun call lp args h => match args with
 | [x0, x1, x2] => F_k97 call lp x0 x1 x2 h
 | _ => none
theorem G_k97 (sp : List Nat) : Good (pg sp) N_k97 E_k97 := by
  intro hsp call lp args h r hc hl hh
  unfold E_k97 at hh
  split at hh
  · rw [← F_k97_eq sp] at hh
    exact ic_k97 hsp _ _ _ ((F_k97_eq _ _ _ _ _ _ _).symm.trans (F_mono hc hl hh))
  · cases hh
noncomputable def E_k98 : FnE := fun call lp args h => match args with
 | [x0, x1, x2] => F_k98 call lp x0 x1 x2 h
 | _ => none
theorem G_k98 (sp : List Nat) : Good (pg sp) N_k98 E_k98 := by
  intro hsp call lp args h r hc hl hh
  unfold E_k98 at hh
  split at hh
  · rw [← F_k98_eq sp] at hh
    exact ic_k98 hsp _ _ _ ((F_k98_eq _ _ _ _ _ _ _).symm.trans (F_mono hc hl hh))
  · cases hh
noncomputable def E_k99 : FnE := fun call lp args h => match args with
 | [x0, x1] => F_k99 call lp x0 x1 h
 | _ => none
theorem G_k99 (sp : List Nat) : Good (pg sp) N_k99 E_k99 := by
  intro hsp call lp args h r hc hl hh
  unfold E_k99 at hh
  split at hh
  · rw [← F_k99_eq sp] at hh
    exact ic_k99 hsp _ _ ((F_k99_eq _ _ _ _ _ _).symm.trans (F_mono hc hl hh))
  · cases hh
noncomputable def E_k101 : FnE := fun call lp args h => match args with
 | [x0, x1] => F_k101 call lp x0 x1 h
 | _ => none
theorem G_k101 (sp : List Nat) : Good (pg sp) N_k101 E_k101 := by
  intro hsp call lp args h r hc hl hh
  unfold E_k101 at hh
  split at hh
  · rw [← F_k101_eq sp] at hh
    exact ic_k101 hsp _ _ ((F_k101_eq _ _ _ _ _ _).symm.trans (F_mono hc hl hh))
  · cases hh
noncomputable def E_k102 : FnE := fun call lp args h => match args with
 | [x0] => F_k102 call lp x0 h
 | _ => none
theorem G_k102 (sp : List Nat) : Good (pg sp) N_k102 E_k102 := by
  intro hsp call lp args h r hc hl hh
  unfold E_k102 at hh
  split at hh
  · rw [← F_k102_eq sp] at hh
    exact ic_k102 hsp _ ((F_k102_eq _ _ _ _ _).symm.trans (F_mono hc hl hh))
  · cases hh
noncomputable def E_k103 : FnE := fun call lp args h => match args with
 | [x0, x1] => F_k103 call lp x0 x1 h
 | _ => none
theorem G_k103 (sp : List Nat) : Good (pg sp) N_k103 E_k103 := by
  intro hsp call lp args h r hc hl hh
  unfold E_k103 at hh
  split at hh
  · rw [← F_k103_eq sp] at hh
    exact ic_k103 hsp _ _ ((F_k103_eq _ _ _ _ _ _).symm.trans (F_mono hc hl hh))
  · cases hh
noncomputable def E_k105 : FnE := fun call lp args h => match args with
 | [x0] => F_k105 call lp x0 h
 | _ => none
theorem G_k105 (sp : List Nat) : Good (pg sp) N_k105 E_k105 := by
  intro hsp call lp args h r hc hl hh
  unfold E_k105 at hh
  split at hh
  · rw [← F_k105_eq sp] at hh
    exact ic_k105 hsp _ ((F_k105_eq _ _ _ _ _).symm.trans (F_mono hc hl hh))
  · cases hh
noncomputable def E_k106 : FnE := fun call lp args h => match args with
 | [x0] => F_k106 call lp x0 h
 | _ => none
theorem G_k106 (sp : List Nat) : Good (pg sp) N_k106 E_k106 := by
  intro hsp call lp args h r hc hl hh
  unfold E_k106 at hh
  split at hh
  · rw [← F_k106_eq sp] at hh
    exact ic_k106 hsp _ ((F_k106_eq _ _ _ _ _).symm.trans (F_mono hc hl hh))
  · cases hh
noncomputable def E_k107 : FnE := fun call lp args h => match args with
 | [x0, x1, x2] => F_k107 call lp x0 x1 x2 h
 | _ => none
theorem G_k107 (sp : List Nat) : Good (pg sp) N_k107 E_k107 := by
  intro hsp call lp args h r hc hl hh
  unfold E_k107 at hh
  split at hh
  · rw [← F_k107_eq sp] at hh
    exact ic_k107 hsp _ _ _ ((F_k107_eq _ _ _ _ _ _ _).symm.trans (F_mono hc hl hh))
  · cases hh
noncomputable def E_k108 : FnE := fun call lp args h => match args with
 | [x0, x1] => F_k108 call lp x0 x1 h
 | _ => none
theorem G_k108 (sp : List Nat) : Good (pg sp) N_k108 E_k108 := by
  intro hsp call lp args h r hc hl hh
  unfold E_k108 at hh
  split at hh
  · rw [← F_k108_eq sp] at hh
    exact ic_k108 hsp _ _ ((F_k108_eq _ _ _ _ _ _).symm.trans (F_mono hc hl hh))
  · cases hh
noncomputable def E_k109 : FnE := fun call lp args h => match args with
 | [x0, x1] => F_k109 call lp x0 x1 h
 | _ => none
theorem G_k109 (sp : List Nat) : Good (pg sp) N_k109 E_k109 := by
  intro hsp call lp args h r hc hl hh
  unfold E_k109 at hh
  split at hh
  · rw [← F_k109_eq sp] at hh
    exact ic_k109 hsp _ _ ((F_k109_eq _ _ _ _ _ _).symm.trans (F_mono hc hl hh))
  · cases hh
noncomputable def E_k110 : FnE := fun call lp args h => match args with
 | [x0, x1, x2] => F_k110 call lp x0 x1 x2 h
 | _ => none
theorem G_k110 (sp : List Nat) : Good (pg sp) N_k110 E_k110 := by
  intro hsp call lp args h r hc hl hh
  unfold E_k110 at hh
  split at hh
  · rw [← F_k110_eq sp] at hh
    exact ic_k110 hsp _ _ _ ((F_k110_eq _ _ _ _ _ _ _).symm.trans (F_mono hc hl hh))
  · cases hh
noncomputable def E_k112 : FnE := fun call lp args h => match args with
 | [x0, x1, x2, x3] => F_k112 call lp x0 x1 x2 x3 h
 | _ => none
theorem G_k112 (sp : List Nat) : Good (pg sp) N_k112 E_k112 := by
  intro hsp call lp args h r hc hl hh
  unfold E_k112 at hh
  split at hh
  · rw [← F_k112_eq sp] at hh
    exact ic_k112 hsp _ _ _ _ ((F_k112_eq _ _ _ _ _ _ _ _).symm.trans (F_mono hc hl hh))
  · cases hh
noncomputable def E_k114 : FnE := fun call lp args h => match args with
 | [x0, x1] => F_k114 call lp x0 x1 h
 | _ => none
theorem G_k114 (sp : List Nat) : Good (pg sp) N_k114 E_k114 := by
  intro hsp call lp args h r hc hl hh
  unfold E_k114 at hh
  split at hh
  · rw [← F_k114_eq sp] at hh
    exact ic_k114 hsp _ _ ((F_k114_eq _ _ _ _ _ _).symm.trans (F_mono hc hl hh))
  · cases hh
noncomputable def E_k115 : FnE := fun call lp args h => match args with
 | [x0, x1, x2] => F_k115 call lp x0 x1 x2 h
 | _ => none
theorem G_k115 (sp : List Nat) : Good (pg sp) N_k115 E_k115 := by
  intro hsp call lp args h r hc hl hh
  unfold E_k115 at hh
  split at hh
  · rw [← F_k115_eq sp] at hh
    exact ic_k115 hsp _ _ _ ((F_k115_eq _ _ _ _ _ _ _).symm.trans (F_mono hc hl hh))
  · cases hh
noncomputable def E_k116 : FnE := fun call lp args h => match args with
 | [x0, x1] => F_k116 call lp x0 x1 h
 | _ => none
theorem G_k116 (sp : List Nat) : Good (pg sp) N_k116 E_k116 := by
  intro hsp call lp args h r hc hl hh
  unfold E_k116 at hh
  split at hh
  · rw [← F_k116_eq sp] at hh
    exact ic_k116 hsp _ _ ((F_k116_eq _ _ _ _ _ _).symm.trans (F_mono hc hl hh))
  · cases hh
noncomputable def E_k117 : FnE := fun call lp args h => match args with
 | [x0, x1] => F_k117 call lp x0 x1 h
 | _ => none
theorem G_k117 (sp : List Nat) : Good (pg sp) N_k117 E_k117 := by
  intro hsp call lp args h r hc hl hh
  unfold E_k117 at hh
  split at hh
  · rw [← F_k117_eq sp] at hh
    exact ic_k117 hsp _ _ ((F_k117_eq _ _ _ _ _ _).symm.trans (F_mono hc hl hh))
  · cases hh
noncomputable def E_k118 : FnE := fun call lp args h => match args with
 | [x0, x1] => F_k118 call lp x0 x1 h
 | _ => none
theorem G_k118 (sp : List Nat) : Good (pg sp) N_k118 E_k118 := by
  intro hsp call lp args h r hc hl hh
  unfold E_k118 at hh
  split at hh
  · rw [← F_k118_eq sp] at hh
    exact ic_k118 hsp _ _ ((F_k118_eq _ _ _ _ _ _).symm.trans (F_mono hc hl hh))
  · cases hh
noncomputable def E_k119 : FnE := fun call lp args h => match args with
 | [x0] => F_k119 call lp x0 h
 | _ => none
theorem G_k119 (sp : List Nat) : Good (pg sp) N_k119 E_k119 := by
  intro hsp call lp args h r hc hl hh
  unfold E_k119 at hh
  split at hh
  · rw [← F_k119_eq sp] at hh
    exact ic_k119 hsp _ ((F_k119_eq _ _ _ _ _).symm.trans (F_mono hc hl hh))
  · cases hh
noncomputable def E_k120 : FnE := fun call lp args h => match args with
 | [x0] => F_k120 call lp x0 h
 | _ => none
theorem G_k120 (sp : List Nat) : Good (pg sp) N_k120 E_k120 := by
  intro hsp call lp args h r hc hl hh
  unfold E_k120 at hh
  split at hh
  · rw [← F_k120_eq sp] at hh
    exact ic_k120 hsp _ ((F_k120_eq _ _ _ _ _).symm.trans (F_mono hc hl hh))
  · cases hh
noncomputable def E_k121 : FnE := fun call lp args h => match args with
 | [x0, x1] => F_k121 call lp x0 x1 h
 | _ => none
theorem G_k121 (sp : List Nat) : Good (pg sp) N_k121 E_k121 := by
  intro hsp call lp args h r hc hl hh
  unfold E_k121 at hh
  split at hh
  · rw [← F_k121_eq sp] at hh
    exact ic_k121 hsp _ _ ((F_k121_eq _ _ _ _ _ _).symm.trans (F_mono hc hl hh))
  · cases hh
noncomputable def E_k122 : FnE := fun call lp args h => match args with
 | [x0, x1] => F_k122 call lp x0 x1 h
 | _ => none
theorem G_k122 (sp : List Nat) : Good (pg sp) N_k122 E_k122 := by
  intro hsp call lp args h r hc hl hh
  unfold E_k122 at hh
  split at hh
  · rw [← F_k122_eq sp] at hh
    exact ic_k122 hsp _ _ ((F_k122_eq _ _ _ _ _ _).symm.trans (F_mono hc hl hh))
  · cases hh
noncomputable def E_k123 : FnE := fun call lp args h => match args with
 | [x0] => F_k123 call lp x0 h
 | _ => none
theorem G_k123 (sp : List Nat) : Good (pg sp) N_k123 E_k123 := by
  intro hsp call lp args h r hc hl hh
  unfold E_k123 at hh
  split at hh
  · rw [← F_k123_eq sp] at hh
    exact ic_k123 hsp _ ((F_k123_eq _ _ _ _ _).symm.trans (F_mono hc hl hh))
  · cases hh
noncomputable def E_k124 : FnE := fun call lp args h => match args with
 | [x0] => F_k124 call lp x0 h
 | _ => none
theorem G_k124 (sp : List Nat) : Good (pg sp) N_k124 E_k124 := by
  intro hsp call lp args h r hc hl hh
  unfold E_k124 at hh
  split at hh
  · rw [← F_k124_eq sp] at hh
    exact ic_k124 hsp _ ((F_k124_eq _ _ _ _ _).symm.trans (F_mono hc hl hh))
  · cases hh
noncomputable def E_k125 : FnE := fun call lp args h => match args with
 | [] => F_k125 call lp  h
 | _ => none
theorem G_k125 (sp : List Nat) : Good (pg sp) N_k125 E_k125 := by
  intro hsp call lp args h r hc hl hh
  unfold E_k125 at hh
  split at hh
  · rw [← F_k125_eq sp] at hh
    exact ic_k125 hsp ((F_k125_eq _ _ _ _).symm.trans (F_mono hc hl hh))
  · cases hh
noncomputable def E_k126 : FnE := fun call lp args h => match args with
 | [x0, x1] => F_k126 call lp x0 x1 h
 | _ => none
theorem G_k126 (sp : List Nat) : Good (pg sp) N_k126 E_k126 := by
  intro hsp call lp args h r hc hl hh
  unfold E_k126 at hh
  split at hh
  · rw [← F_k126_eq sp] at hh
    exact ic_k126 hsp _ _ ((F_k126_eq _ _ _ _ _ _).symm.trans (F_mono hc hl hh))
  · cases hh
noncomputable def E_k127 : FnE := fun call lp args h => match args with
 | [x0] => F_k127 call lp x0 h
 | _ => none
theorem G_k127 (sp : List Nat) : Good (pg sp) N_k127 E_k127 := by
  intro hsp call lp args h r hc hl hh
  unfold E_k127 at hh
  split at hh
  · rw [← F_k127_eq sp] at hh
    exact ic_k127 hsp _ ((F_k127_eq _ _ _ _ _).symm.trans (F_mono hc hl hh))
  · cases hh
noncomputable def E_k128 : FnE := fun call lp args h => match args with
 | [x0] => F_k128 call lp x0 h
 | _ => none
theorem G_k128 (sp : List Nat) : Good (pg sp) N_k128 E_k128 := by
  intro hsp call lp args h r hc hl hh
  unfold E_k128 at hh
  split at hh
  · rw [← F_k128_eq sp] at hh
    exact ic_k128 hsp _ ((F_k128_eq _ _ _ _ _).symm.trans (F_mono hc hl hh))
  · cases hh
noncomputable def E_k129 : FnE := fun call lp args h => match args with
 | [x0] => F_k129 call lp x0 h
 | _ => none
theorem G_k129 (sp : List Nat) : Good (pg sp) N_k129 E_k129 := by
  intro hsp call lp args h r hc hl hh
  unfold E_k129 at hh
  split at hh
  · rw [← F_k129_eq sp] at hh
    exact ic_k129 hsp _ ((F_k129_eq _ _ _ _ _).symm.trans (F_mono hc hl hh))
  · cases hh
noncomputable def E_k130 : FnE := fun call lp args h => match args with
 | [x0] => F_k130 call lp x0 h
 | _ => none
theorem G_k130 (sp : List Nat) : Good (pg sp) N_k130 E_k130 := by
  intro hsp call lp args h r hc hl hh
  unfold E_k130 at hh
  split at hh
  · rw [← F_k130_eq sp] at hh
    exact ic_k130 hsp _ ((F_k130_eq _ _ _ _ _).symm.trans (F_mono hc hl hh))
  · cases hh
noncomputable def E_k131 : FnE := fun call lp args h => match args with
 | [x0] => F_k131 call lp x0 h
 | _ => none
theorem G_k131 (sp : List Nat) : Good (pg sp) N_k131 E_k131 := by
  intro hsp call lp args h r hc hl hh
  unfold E_k131 at hh
  split at hh
  · rw [← F_k131_eq sp] at hh
    exact ic_k131 hsp _ ((F_k131_eq _ _ _ _ _).symm.trans (F_mono hc hl hh))
  · cases hh
noncomputable def E_k132 : FnE := fun call lp args h => match args with
 | [x0, x1] => F_k132 call lp x0 x1 h
 | _ => none
theorem G_k132 (sp : List Nat) : Good (pg sp) N_k132 E_k132 := by
  intro hsp call lp args h r hc hl hh
  unfold E_k132 at hh
  split at hh
  · rw [← F_k132_eq sp] at hh
    exact ic_k132 hsp _ _ ((F_k132_eq _ _ _ _ _ _).symm.trans (F_mono hc hl hh))
  · cases hh
noncomputable def E_k133 : FnE := fun call lp args h => match args with
 | [x0] => F_k133 call lp x0 h
 | _ => none
theorem G_k133 (sp : List Nat) : Good (pg sp) N_k133 E_k133 := by
  intro hsp call lp args h r hc hl hh
  unfold E_k133 at hh
  split at hh
  · rw [← F_k133_eq sp] at hh
    exact ic_k133 hsp _ ((F_k133_eq _ _ _ _ _).symm.trans (F_mono hc hl hh))
  · cases hh
noncomputable def E_k134 : FnE := fun call lp args h => match args with
 | [x0, x1] => F_k134 call lp x0 x1 h
 | _ => none
theorem G_k134 (sp : List Nat) : Good (pg sp) N_k134 E_k134 := by
  intro hsp call lp args h r hc hl hh
  unfold E_k134 at hh
  split at hh
  · rw [← F_k134_eq sp] at hh
    exact ic_k134 hsp _ _ ((F_k134_eq _ _ _ _ _ _).symm.trans (F_mono hc hl hh))
  · cases hh
noncomputable def E_k135 : FnE := fun call lp args h => match args with
 | [x0, x1] => F_k135 call lp x0 x1 h
 | _ => none
theorem G_k135 (sp : List Nat) : Good (pg sp) N_k135 E_k135 := by
  intro hsp call lp args h r hc hl hh
  unfold E_k135 at hh
  split at hh
  · rw [← F_k135_eq sp] at hh
    exact ic_k135 hsp _ _ ((F_k135_eq _ _ _ _ _ _).symm.trans (F_mono hc hl hh))
  · cases hh
noncomputable def E_k136 : FnE := fun call lp args h => match args with
 | [x0, x1] => F_k136 call lp x0 x1 h
 | _ => none
theorem G_k136 (sp : List Nat) : Good (pg sp) N_k136 E_k136 := by
  intro hsp call lp args h r hc hl hh
  unfold E_k136 at hh
  split at hh
  · rw [← F_k136_eq sp] at hh
    exact ic_k136 hsp _ _ ((F_k136_eq _ _ _ _ _ _).symm.trans (F_mono hc hl hh))
  · cases hh
noncomputable def E_k137 : FnE := fun call lp args h => match args with
 | [x0, x1] => F_k137 call lp x0 x1 h
 | _ => none
theorem G_k137 (sp : List Nat) : Good (pg sp) N_k137 E_k137 := by
  intro hsp call lp args h r hc hl hh
  unfold E_k137 at hh
  split at hh
  · rw [← F_k137_eq sp] at hh
    exact ic_k137 hsp _ _ ((F_k137_eq _ _ _ _ _ _).symm.trans (F_mono hc hl hh))
  · cases hh
noncomputable def E_k138 : FnE := fun call lp args h => match args with
 | [x0] => F_k138 call lp x0 h
 | _ => none
theorem G_k138 (sp : List Nat) : Good (pg sp) N_k138 E_k138 := by
  intro hsp call lp args h r hc hl hh
  unfold E_k138 at hh
  split at hh
  · rw [← F_k138_eq sp] at hh
    exact ic_k138 hsp _ ((F_k138_eq _ _ _ _ _).symm.trans (F_mono hc hl hh))
  · cases hh
noncomputable def E_k139 : FnE := fun call lp args h => match args with
 | [x0, x1] => F_k139 call lp x0 x1 h
 | _ => none
theorem G_k139 (sp : List Nat) : Good (pg sp) N_k139 E_k139 := by
  intro hsp call lp args h r hc hl hh
  unfold E_k139 at hh
  split at hh
  · rw [← F_k139_eq sp] at hh
    exact ic_k139 hsp _ _ ((F_k139_eq _ _ _ _ _ _).symm.trans (F_mono hc hl hh))
  · cases hh
noncomputable def E_k140 : FnE := fun call lp args h => match args with
 | [x0, x1] => F_k140 call lp x0 x1 h
 | _ => none
theorem G_k140 (sp : List Nat) : Good (pg sp) N_k140 E_k140 := by
  intro hsp call lp args h r hc hl hh
  unfold E_k140 at hh
  split at hh
  · rw [← F_k140_eq sp] at hh
    exact ic_k140 hsp _ _ ((F_k140_eq _ _ _ _ _ _).symm.trans (F_mono hc hl hh))
  · cases hh
noncomputable def E_k141 : FnE := fun call lp args h => match args with
 | [x0] => F_k141 call lp x0 h
 | _ => none
theorem G_k141 (sp : List Nat) : Good (pg sp) N_k141 E_k141 := by
  intro hsp call lp args h r hc hl hh
  unfold E_k141 at hh
  split at hh
  · rw [← F_k141_eq sp] at hh
    exact ic_k141 hsp _ ((F_k141_eq _ _ _ _ _).symm.trans (F_mono hc hl hh))
  · cases hh
noncomputable def E_k142 : FnE := fun call lp args h => match args with
 | [x0, x1] => F_k142 call lp x0 x1 h
 | _ => none
theorem G_k142 (sp : List Nat) : Good (pg sp) N_k142 E_k142 := by
  intro hsp call lp args h r hc hl hh
  unfold E_k142 at hh
  split at hh
  · rw [← F_k142_eq sp] at hh
    exact ic_k142 hsp _ _ ((F_k142_eq _ _ _ _ _ _).symm.trans (F_mono hc hl hh))
  · cases hh
noncomputable def E_k143 : FnE := fun call lp args h => match args with
 | [x0, x1] => F_k143 call lp x0 x1 h
 | _ => none
theorem G_k143 (sp : List Nat) : Good (pg sp) N_k143 E_k143 := by
  intro hsp call lp args h r hc hl hh
  unfold E_k143 at hh
  split at hh
  · rw [← F_k143_eq sp] at hh
    exact ic_k143 hsp _ _ ((F_k143_eq _ _ _ _ _ _).symm.trans (F_mono hc hl hh))
  · cases hh
noncomputable def E_k144 : FnE := fun call lp args h => match args with
 | [x0] => F_k144 call lp x0 h
 | _ => none
theorem G_k144 (sp : List Nat) : Good (pg sp) N_k144 E_k144 := by
  intro hsp call lp args h r hc hl hh
  unfold E_k144 at hh
  split at hh
  · rw [← F_k144_eq sp] at hh
    exact ic_k144 hsp _ ((F_k144_eq _ _ _ _ _).symm.trans (F_mono hc hl hh))
  · cases hh
noncomputable def E_k145 : FnE := fun call lp args h => match args with
 | [x0, x1] => F_k145 call lp x0 x1 h
 | _ => none
theorem G_k145 (sp : List Nat) : Good (pg sp) N_k145 E_k145 := by
  intro hsp call lp args h r hc hl hh
  unfold E_k145 at hh
  split at hh
  · rw [← F_k145_eq sp] at hh
    exact ic_k145 hsp _ _ ((F_k145_eq _ _ _ _ _ _).symm.trans (F_mono hc hl hh))
  · cases hh
noncomputable def E_k147 : FnE := fun call lp args h => match args with
 | [x0, x1] => F_k147 call lp x0 x1 h
 | _ => none
theorem G_k147 (sp : List Nat) : Good (pg sp) N_k147 E_k147 := by
  intro hsp call lp args h r hc hl hh
  unfold E_k147 at hh
  split at hh
  · rw [← F_k147_eq sp] at hh
    exact ic_k147 hsp _ _ ((F_k147_eq _ _ _ _ _ _).symm.trans (F_mono hc hl hh))
  · cases hh
noncomputable def E_k148 : FnE := fun call lp args h => match args with
 | [x0, x1] => F_k148 call lp x0 x1 h
 | _ => none
theorem G_k148 (sp : List Nat) : Good (pg sp) N_k148 E_k148 := by
  intro hsp call lp args h r hc hl hh
  unfold E_k148 at hh
  split at hh
  · rw [← F_k148_eq sp] at hh
    exact ic_k148 hsp _ _ ((F_k148_eq _ _ _ _ _ _).symm.trans (F_mono hc hl hh))
  · cases hh
noncomputable def E_k150 : FnE := fun call lp args h => match args with
 | [x0] => F_k150 call lp x0 h
 | _ => none
theorem G_k150 (sp : List Nat) : Good (pg sp) N_k150 E_k150 := by
  intro hsp call lp args h r hc hl hh
  unfold E_k150 at hh
  split at hh
  · rw [← F_k150_eq sp] at hh
    exact ic_k150 hsp _ ((F_k150_eq _ _ _ _ _).symm.trans (F_mono hc hl hh))
  · cases hh
noncomputable def E_k151 : FnE := fun call lp args h => match args with
 | [x0, x1] => F_k151 call lp x0 x1 h
 | _ => none
theorem G_k151 (sp : List Nat) : Good (pg sp) N_k151 E_k151 := by
  intro hsp call lp args h r hc hl hh
  unfold E_k151 at hh
  split at hh
  · rw [← F_k151_eq sp] at hh
    exact ic_k151 hsp _ _ ((F_k151_eq _ _ _ _ _ _).symm.trans (F_mono hc hl hh))
  · cases hh
noncomputable def E_k152 : FnE := fun call lp args h => match args with
 | [x0] => F_k152 call lp x0 h
 | _ => none
theorem G_k152 (sp : List Nat) : Good (pg sp) N_k152 E_k152 := by
  intro hsp call lp args h r hc hl hh
  unfold E_k152 at hh
  split at hh
  · rw [← F_k152_eq sp] at hh
    exact ic_k152 hsp _ ((F_k152_eq _ _ _ _ _).symm.trans (F_mono hc hl hh))
  · cases hh
noncomputable def E_k153 : FnE := fun call lp args h => match args with
 | [x0] => F_k153 call lp x0 h
 | _ => none
theorem G_k153 (sp : List Nat) : Good (pg sp) N_k153 E_k153 := by
  intro hsp call lp args h r hc hl hh
  unfold E_k153 at hh
  split at hh
  · rw [← F_k153_eq sp] at hh
    exact ic_k153 hsp _ ((F_k153_eq _ _ _ _ _).symm.trans (F_mono hc hl hh))
  · cases hh
noncomputable def E_k154 : FnE := fun call lp args h => match args with
 | [x0] => F_k154 call lp x0 h
 | _ => none
theorem G_k154 (sp : List Nat) : Good (pg sp) N_k154 E_k154 := by
  intro hsp call lp args h r hc hl hh
  unfold E_k154 at hh
  split at hh
  · rw [← F_k154_eq sp] at hh
    exact ic_k154 hsp _ ((F_k154_eq _ _ _ _ _).symm.trans (F_mono hc hl hh))
  · cases hh
noncomputable def E_k155 : FnE := fun call lp args h => match args with
 | [x0, x1, x2] => F_k155 call lp x0 x1 x2 h
 | _ => none
theorem G_k155 (sp : List Nat) : Good (pg sp) N_k155 E_k155 := by
  intro hsp call lp args h r hc hl hh
  unfold E_k155 at hh
  split at hh
  · rw [← F_k155_eq sp] at hh
    exact ic_k155 hsp _ _ _ ((F_k155_eq _ _ _ _ _ _ _).symm.trans (F_mono hc hl hh))
  · cases hh
noncomputable def E_k156 : FnE := fun call lp args h => match args with
 | [x0, x1, x2] => F_k156 call lp x0 x1 x2 h
 | _ => none
theorem G_k156 (sp : List Nat) : Good (pg sp) N_k156 E_k156 := by
  intro hsp call lp args h r hc hl hh
  unfold E_k156 at hh
  split at hh
  · rw [← F_k156_eq sp] at hh
    exact ic_k156 hsp _ _ _ ((F_k156_eq _ _ _ _ _ _ _).symm.trans (F_mono hc hl hh))
  · cases hh
noncomputable def E_k159 : FnE := fun call lp args h => match args with
 | [x0, x1, x2] => F_k159 call lp x0 x1 x2 h
 | _ => none
theorem G_k159 (sp : List Nat) : Good (pg sp) N_k159 E_k159 := by
  intro hsp call lp args h r hc hl hh
  unfold E_k159 at hh
  split at hh
  · rw [← F_k159_eq sp] at hh
    exact ic_k159 hsp _ _ _ ((F_k159_eq _ _ _ _ _ _ _).symm.trans (F_mono hc hl hh))
  · cases hh
noncomputable def E_k160 : FnE := fun call lp args h => match args with
 | [x0, x1, x2] => F_k160 call lp x0 x1 x2 h
 | _ => none
theorem G_k160 (sp : List Nat) : Good (pg sp) N_k160 E_k160 := by
  intro hsp call lp args h r hc hl hh
  unfold E_k160 at hh
  split at hh
  · rw [← F_k160_eq sp] at hh
    exact ic_k160 hsp _ _ _ ((F_k160_eq _ _ _ _ _ _ _).symm.trans (F_mono hc hl hh))
  · cases hh
noncomputable def E_k163 : FnE := fun call lp args h => match args with
 | [x0, x1, x2, x3] => F_k163 call lp x0 x1 x2 x3 h
 | _ => none
theorem G_k163 (sp : List Nat) : Good (pg sp) N_k163 E_k163 := by
  intro hsp call lp args h r hc hl hh
  unfold E_k163 at hh
  split at hh
  · rw [← F_k163_eq sp] at hh
    exact ic_k163 hsp _ _ _ _ ((F_k163_eq _ _ _ _ _ _ _ _).symm.trans (F_mono hc hl hh))
  · cases hh
noncomputable def E_k164 : FnE := fun call lp args h => match args with
 | [x0] => F_k164 call lp x0 h
 | _ => none
theorem G_k164 (sp : List Nat) : Good (pg sp) N_k164 E_k164 := by
  intro hsp call lp args h r hc hl hh
  unfold E_k164 at hh
  split at hh
  · rw [← F_k164_eq sp] at hh
    exact ic_k164 hsp _ ((F_k164_eq _ _ _ _ _).symm.trans (F_mono hc hl hh))
  · cases hh
noncomputable def E_k165 : FnE := fun call lp args h => match args with
 | [x0, x1, x2] => F_k165 call lp x0 x1 x2 h
 | _ => none
theorem G_k165 (sp : List Nat) : Good (pg sp) N_k165 E_k165 := by
  intro hsp call lp args h r hc hl hh
  unfold E_k165 at hh
  split at hh
  · rw [← F_k165_eq sp] at hh
    exact ic_k165 hsp _ _ _ ((F_k165_eq _ _ _ _ _ _ _).symm.trans (F_mono hc hl hh))
  · cases hh
noncomputable def E_k166 : FnE := fun call lp args h => match args with
 | [x0, x1] => F_k166 call lp x0 x1 h
 | _ => none
theorem G_k166 (sp : List Nat) : Good (pg sp) N_k166 E_k166 := by
  intro hsp call lp args h r hc hl hh
  unfold E_k166 at hh
  split at hh
  · rw [← F_k166_eq sp] at hh
    exact ic_k166 hsp _ _ ((F_k166_eq _ _ _ _ _ _).symm.trans (F_mono hc hl hh))
  · cases hh
noncomputable def E_k168 : FnE := fun call lp args h => match args with
 | [x0, x1] => F_k168 call lp x0 x1 h
 | _ => none
theorem G_k168 (sp : List Nat) : Good (pg sp) N_k168 E_k168 := by
  intro hsp call lp args h r hc hl hh
  unfold E_k168 at hh
  split at hh
  · rw [← F_k168_eq sp] at hh
    exact ic_k168 hsp _ _ ((F_k168_eq _ _ _ _ _ _).symm.trans (F_mono hc hl hh))
  · cases hh
noncomputable def E_k169 : FnE := fun call lp args h => match args with
 | [x0, x1] => F_k169 call lp x0 x1 h
 | _ => none
theorem G_k169 (sp : List Nat) : Good (pg sp) N_k169 E_k169 := by
  intro hsp call lp args h r hc hl hh
  unfold E_k169 at hh
  split at hh
  · rw [← F_k169_eq sp] at hh
    exact ic_k169 hsp _ _ ((F_k169_eq _ _ _ _ _ _).symm.trans (F_mono hc hl hh))
  · cases hh
noncomputable def E_k170 : FnE := fun call lp args h => match args with
 | [x0, x1] => F_k170 call lp x0 x1 h
 | _ => none
theorem G_k170 (sp : List Nat) : Good (pg sp) N_k170 E_k170 := by
  intro hsp call lp args h r hc hl hh
  unfold E_k170 at hh
  split at hh
  · rw [← F_k170_eq sp] at hh
    exact ic_k170 hsp _ _ ((F_k170_eq _ _ _ _ _ _).symm.trans (F_mono hc hl hh))
  · cases hh
noncomputable def E_k171 : FnE := fun call lp args h => match args with
 | [x0, x1] => F_k171 call lp x0 x1 h
 | _ => none
theorem G_k171 (sp : List Nat) : Good (pg sp) N_k171 E_k171 := by
  intro hsp call lp args h r hc hl hh
  unfold E_k171 at hh
  split at hh
  · rw [← F_k171_eq sp] at hh
    exact ic_k171 hsp _ _ ((F_k171_eq _ _ _ _ _ _).symm.trans (F_mono hc hl hh))
  · cases hh
noncomputable def E_k172 : FnE := fun call lp args h => match args with
 | [x0, x1] => F_k172 call lp x0 x1 h
 | _ => none
theorem G_k172 (sp : List Nat) : Good (pg sp) N_k172 E_k172 := by
  intro hsp call lp args h r hc hl hh
  unfold E_k172 at hh
  split at hh
  · rw [← F_k172_eq sp] at hh
    exact ic_k172 hsp _ _ ((F_k172_eq _ _ _ _ _ _).symm.trans (F_mono hc hl hh))
  · cases hh
noncomputable def E_k173 : FnE := fun call lp args h => match args with
 | [x0, x1] => F_k173 call lp x0 x1 h
 | _ => none
theorem G_k173 (sp : List Nat) : Good (pg sp) N_k173 E_k173 := by
  intro hsp call lp args h r hc hl hh
  unfold E_k173 at hh
  split at hh
  · rw [← F_k173_eq sp] at hh
    exact ic_k173 hsp _ _ ((F_k173_eq _ _ _ _ _ _).symm.trans (F_mono hc hl hh))
  · cases hh
noncomputable def E_k174 : FnE := fun call lp args h => match args with
 | [x0, x1] => F_k174 call lp x0 x1 h
 | _ => none
theorem G_k174 (sp : List Nat) : Good (pg sp) N_k174 E_k174 := by
  intro hsp call lp args h r hc hl hh
  unfold E_k174 at hh
  split at hh
  · rw [← F_k174_eq sp] at hh
    exact ic_k174 hsp _ _ ((F_k174_eq _ _ _ _ _ _).symm.trans (F_mono hc hl hh))
  · cases hh
noncomputable def E_k175 : FnE := fun call lp args h => match args with
 | [x0, x1, x2, x3, x4] => F_k175 call lp x0 x1 x2 x3 x4 h
 | _ => none
theorem G_k175 (sp : List Nat) : Good (pg sp) N_k175 E_k175 := by
  intro hsp call lp args h r hc hl hh
  unfold E_k175 at hh
  split at hh
  · rw [← F_k175_eq sp] at hh
    exact ic_k175 hsp _ _ _ _ _ ((F_k175_eq _ _ _ _ _ _ _ _ _).symm.trans (F_mono hc hl hh))
  · cases hh
noncomputable def E_k176 : FnE := fun call lp args h => match args with
 | [] => F_k176 call lp  h
 | _ => none
theorem G_k176 (sp : List Nat) : Good (pg sp) N_k176 E_k176 := by
  intro hsp call lp args h r hc hl hh
  unfold E_k176 at hh
  split at hh
  · rw [← F_k176_eq sp] at hh
    exact ic_k176 hsp ((F_k176_eq _ _ _ _).symm.trans (F_mono hc hl hh))
  · cases hh
noncomputable def E_k177 : FnE := fun call lp args h => match args with
 | [x0, x1] => F_k177 call lp x0 x1 h
 | _ => none
theorem G_k177 (sp : List Nat) : Good (pg sp) N_k177 E_k177 := by
  intro hsp call lp args h r hc hl hh
  unfold E_k177 at hh
  split at hh
  · rw [← F_k177_eq sp] at hh
    exact ic_k177 hsp _ _ ((F_k177_eq _ _ _ _ _ _).symm.trans (F_mono hc hl hh))
  · cases hh
noncomputable def E_k178 : FnE := fun call lp args h => match args with
 | [x0, x1] => F_k178 call lp x0 x1 h
 | _ => none
theorem G_k178 (sp : List Nat) : Good (pg sp) N_k178 E_k178 := by
  intro hsp call lp args h r hc hl hh
  unfold E_k178 at hh
  split at hh
  · rw [← F_k178_eq sp] at hh
    exact ic_k178 hsp _ _ ((F_k178_eq _ _ _ _ _ _).symm.trans (F_mono hc hl hh))
  · cases hh
noncomputable def E_k179 : FnE := fun call lp args h => match args with
 | [x0] => F_k179 call lp x0 h
 | _ => none
theorem G_k179 (sp : List Nat) : Good (pg sp) N_k179 E_k179 := by
  intro hsp call lp args h r hc hl hh
  unfold E_k179 at hh
  split at hh
  · rw [← F_k179_eq sp] at hh
    exact ic_k179 hsp _ ((F_k179_eq _ _ _ _ _).symm.trans (F_mono hc hl hh))
  · cases hh
noncomputable def E_k180 : FnE := fun call lp args h => match args with
 | [x0] => F_k180 call lp x0 h
 | _ => none
theorem G_k180 (sp : List Nat) : Good (pg sp) N_k180 E_k180 := by
  intro hsp call lp args h r hc hl hh
  unfold E_k180 at hh
  split at hh
  · rw [← F_k180_eq sp] at hh
    exact ic_k180 hsp _ ((F_k180_eq _ _ _ _ _).symm.trans (F_mono hc hl hh))
  · cases hh
noncomputable def E_k181 : FnE := fun call lp args h => match args with
 | [x0] => F_k181 call lp x0 h
 | _ => none
theorem G_k181 (sp : List Nat) : Good (pg sp) N_k181 E_k181 := by
  intro hsp call lp args h r hc hl hh
  unfold E_k181 at hh
  split at hh
  · rw [← F_k181_eq sp] at hh
    exact ic_k181 hsp _ ((F_k181_eq _ _ _ _ _).symm.trans (F_mono hc hl hh))
  · cases hh
noncomputable def E_k182 : FnE := fun call lp args h => match args with
 | [x0, x1] => F_k182 call lp x0 x1 h
 | _ => none
theorem G_k182 (sp : List Nat) : Good (pg sp) N_k182 E_k182 := by
  intro hsp call lp args h r hc hl hh
  unfold E_k182 at hh
  split at hh
  · rw [← F_k182_eq sp] at hh
    exact ic_k182 hsp _ _ ((F_k182_eq _ _ _ _ _ _).symm.trans (F_mono hc hl hh))
  · cases hh
noncomputable def E_k183 : FnE := fun call lp args h => match args with
 | [x0, x1] => F_k183 call lp x0 x1 h
 | _ => none
theorem G_k183 (sp : List Nat) : Good (pg sp) N_k183 E_k183 := by
  intro hsp call lp args h r hc hl hh
  unfold E_k183 at hh
  split at hh
  · rw [← F_k183_eq sp] at hh
    exact ic_k183 hsp _ _ ((F_k183_eq _ _ _ _ _ _).symm.trans (F_mono hc hl hh))
  · cases hh
noncomputable def E_k184 : FnE := fun call lp args h => match args with
 | [x0, x1] => F_k184 call lp x0 x1 h
 | _ => none
theorem G_k184 (sp : List Nat) : Good (pg sp) N_k184 E_k184 := by
  intro hsp call lp args h r hc hl hh
  unfold E_k184 at hh
  split at hh
  · rw [← F_k184_eq sp] at hh
    exact ic_k184 hsp _ _ ((F_k184_eq _ _ _ _ _ _).symm.trans (F_mono hc hl hh))
  · cases hh
noncomputable def E_k185 : FnE := fun call lp args h => match args with
 | [x0, x1] => F_k185 call lp x0 x1 h
 | _ => none
theorem G_k185 (sp : List Nat) : Good (pg sp) N_k185 E_k185 := by
  intro hsp call lp args h r hc hl hh
  unfold E_k185 at hh
  split at hh
  · rw [← F_k185_eq sp] at hh
    exact ic_k185 hsp _ _ ((F_k185_eq _ _ _ _ _ _).symm.trans (F_mono hc hl hh))
  · cases hh
noncomputable def E_k186 : FnE := fun call lp args h => match args with
 | [x0] => F_k186 call lp x0 h
 | _ => none
theorem G_k186 (sp : List Nat) : Good (pg sp) N_k186 E_k186 := by
  intro hsp call lp args h r hc hl hh
  unfold E_k186 at hh
  split at hh
  · rw [← F_k186_eq sp] at hh
    exact ic_k186 hsp _ ((F_k186_eq _ _ _ _ _).symm.trans (F_mono hc hl hh))
  · cases hh
noncomputable def E_k189 : FnE := fun call lp args h => match args with
 | [x0, x1, x2] => F_k189 call lp x0 x1 x2 h
 | _ => none
theorem G_k189 (sp : List Nat) : Good (pg sp) N_k189 E_k189 := by
  intro hsp call lp args h r hc hl hh
  unfold E_k189 at hh
  split at hh
  · rw [← F_k189_eq sp] at hh
    exact ic_k189 hsp _ _ _ ((F_k189_eq _ _ _ _ _ _ _).symm.trans (F_mono hc hl hh))
  · cases hh
noncomputable def E_k195 : FnE := fun call lp args h => match args with
 | [x0, x1] => F_k195 call lp x0 x1 h
 | _ => none
theorem G_k195 (sp : List Nat) : Good (pg sp) N_k195 E_k195 := by
  intro hsp call lp args h r hc hl hh
  unfold E_k195 at hh
  split at hh
  · rw [← F_k195_eq sp] at hh
    exact ic_k195 hsp _ _ ((F_k195_eq _ _ _ _ _ _).symm.trans (F_mono hc hl hh))
  · cases hh
noncomputable def E_k199 : FnE := fun call lp args h => match args with
 | [x0] => F_k199 call lp x0 h
 | _ => none
theorem G_k199 (sp : List Nat) : Good (pg sp) N_k199 E_k199 := by
  intro hsp call lp args h r hc hl hh
  unfold E_k199 at hh
  split at hh
  · rw [← F_k199_eq sp] at hh
    exact ic_k199 hsp _ ((F_k199_eq _ _ _ _ _).symm.trans (F_mono hc hl hh))
  · cases hh
noncomputable def E_k200 : FnE := fun call lp args h => match args with
 | [x0] => F_k200 call lp x0 h
 | _ => none
theorem G_k200 (sp : List Nat) : Good (pg sp) N_k200 E_k200 := by
  intro hsp call lp args h r hc hl hh
  unfold E_k200 at hh
  split at hh
  · rw [← F_k200_eq sp] at hh
    exact ic_k200 hsp _ ((F_k200_eq _ _ _ _ _).symm.trans (F_mono hc hl hh))
  · cases hh
noncomputable def E_k201 : FnE := fun call lp args h => match args with
 | [x0] => F_k201 call lp x0 h
 | _ => none
theorem G_k201 (sp : List Nat) : Good (pg sp) N_k201 E_k201 := by
  intro hsp call lp args h r hc hl hh
  unfold E_k201 at hh
  split at hh
  · rw [← F_k201_eq sp] at hh
    exact ic_k201 hsp _ ((F_k201_eq _ _ _ _ _).symm.trans (F_mono hc hl hh))
  · cases hh
noncomputable def E_k202 : FnE := fun call lp args h => match args with
 | [x0] => F_k202 call lp x0 h
 | _ => none
theorem G_k202 (sp : List Nat) : Good (pg sp) N_k202 E_k202 := by
  intro hsp call lp args h r hc hl hh
  unfold E_k202 at hh
  split at hh
  · rw [← F_k202_eq sp] at hh
    exact ic_k202 hsp _ ((F_k202_eq _ _ _ _ _).symm.trans (F_mono hc hl hh))
  · cases hh
noncomputable def E_k203 : FnE := fun call lp args h => match args with
 | [x0, x1] => F_k203 call lp x0 x1 h
 | _ => none
theorem G_k203 (sp : List Nat) : Good (pg sp) N_k203 E_k203 := by
  intro hsp call lp args h r hc hl hh
  unfold E_k203 at hh
  split at hh
  · rw [← F_k203_eq sp] at hh
    exact ic_k203 hsp _ _ ((F_k203_eq _ _ _ _ _ _).symm.trans (F_mono hc hl hh))
  · cases hh
noncomputable def E_k204 : FnE := fun call lp args h => match args with
 | [x0, x1, x2] => F_k204 call lp x0 x1 x2 h
 | _ => none
theorem G_k204 (sp : List Nat) : Good (pg sp) N_k204 E_k204 := by
  intro hsp call lp args h r hc hl hh
  unfold E_k204 at hh
  split at hh
  · rw [← F_k204_eq sp] at hh
    exact ic_k204 hsp _ _ _ ((F_k204_eq _ _ _ _ _ _ _).symm.trans (F_mono hc hl hh))
  · cases hh
noncomputable def E_k205 : FnE := fun call lp args h => match args with
 | [x0, x1] => F_k205 call lp x0 x1 h
 | _ => none
theorem G_k205 (sp : List Nat) : Good (pg sp) N_k205 E_k205 := by
  intro hsp call lp args h r hc hl hh
  unfold E_k205 at hh
  split at hh
  · rw [← F_k205_eq sp] at hh
    exact ic_k205 hsp _ _ ((F_k205_eq _ _ _ _ _ _).symm.trans (F_mono hc hl hh))
  · cases hh
noncomputable def E_k206 : FnE := fun call lp args h => match args with
 | [x0, x1] => F_k206 call lp x0 x1 h
 | _ => none
theorem G_k206 (sp : List Nat) : Good (pg sp) N_k206 E_k206 := by
  intro hsp call lp args h r hc hl hh
  unfold E_k206 at hh
  split at hh
  · rw [← F_k206_eq sp] at hh
    exact ic_k206 hsp _ _ ((F_k206_eq _ _ _ _ _ _).symm.trans (F_mono hc hl hh))
  · cases hh
noncomputable def E_k207 : FnE := fun call lp args h => match args with
 | [x0, x1, x2, x3] => F_k207 call lp x0 x1 x2 x3 h
 | _ => none
theorem G_k207 (sp : List Nat) : Good (pg sp) N_k207 E_k207 := by
  intro hsp call lp args h r hc hl hh
  unfold E_k207 at hh
  split at hh
  · rw [← F_k207_eq sp] at hh
    exact ic_k207 hsp _ _ _ _ ((F_k207_eq _ _ _ _ _ _ _ _).symm.trans (F_mono hc hl hh))
  · cases hh
noncomputable def E_k215 : FnE := fun call lp args h => match args with
 | [] => F_k215 call lp  h
 | _ => none
theorem G_k215 (sp : List Nat) : Good (pg sp) N_k215 E_k215 := by
  intro hsp call lp args h r hc hl hh
  unfold E_k215 at hh
  split at hh
  · rw [← F_k215_eq sp] at hh
    exact ic_k215 hsp ((F_k215_eq _ _ _ _).symm.trans (F_mono hc hl hh))
  · cases hh
noncomputable def E_k216 : FnE := fun call lp args h => match args with
 | [x0] => F_k216 call lp x0 h
 | _ => none
theorem G_k216 (sp : List Nat) : Good (pg sp) N_k216 E_k216 := by
  intro hsp call lp args h r hc hl hh
  unfold E_k216 at hh
  split at hh
  · rw [← F_k216_eq sp] at hh
    exact ic_k216 hsp _ ((F_k216_eq _ _ _ _ _).symm.trans (F_mono hc hl hh))
  · cases hh
noncomputable def E_k217 : FnE := fun call lp args h => match args with
 | [x0] => F_k217 call lp x0 h
 | _ => none
theorem G_k217 (sp : List Nat) : Good (pg sp) N_k217 E_k217 := by
  intro hsp call lp args h r hc hl hh
  unfold E_k217 at hh
  split at hh
  · rw [← F_k217_eq sp] at hh
    exact ic_k217 hsp _ ((F_k217_eq _ _ _ _ _).symm.trans (F_mono hc hl hh))
  · cases hh
noncomputable def E_k218 : FnE := fun call lp args h => match args with
 | [x0] => F_k218 call lp x0 h
 | _ => none
theorem G_k218 (sp : List Nat) : Good (pg sp) N_k218 E_k218 := by
  intro hsp call lp args h r hc hl hh
  unfold E_k218 at hh
  split at hh
  · rw [← F_k218_eq sp] at hh
    exact ic_k218 hsp _ ((F_k218_eq _ _ _ _ _).symm.trans (F_mono hc hl hh))
  · cases hh
noncomputable def E_k219 : FnE := fun call lp args h => match args with
 | [x0] => F_k219 call lp x0 h
 | _ => none
theorem G_k219 (sp : List Nat) : Good (pg sp) N_k219 E_k219 := by
  intro hsp call lp args h r hc hl hh
  unfold E_k219 at hh
  split at hh
  · rw [← F_k219_eq sp] at hh
    exact ic_k219 hsp _ ((F_k219_eq _ _ _ _ _).symm.trans (F_mono hc hl hh))
  · cases hh
noncomputable def E_k220 : FnE := fun call lp args h => match args with
 | [x0, x1] => F_k220 call lp x0 x1 h
 | _ => none
theorem G_k220 (sp : List Nat) : Good (pg sp) N_k220 E_k220 := by
  intro hsp call lp args h r hc hl hh
  unfold E_k220 at hh
  split at hh
  · rw [← F_k220_eq sp] at hh
    exact ic_k220 hsp _ _ ((F_k220_eq _ _ _ _ _ _).symm.trans (F_mono hc hl hh))
  · cases hh
noncomputable def E_k221 : FnE := fun call lp args h => match args with
 | [x0, x1] => F_k221 call lp x0 x1 h
 | _ => none
theorem G_k221 (sp : List Nat) : Good (pg sp) N_k221 E_k221 := by
  intro hsp call lp args h r hc hl hh
  unfold E_k221 at hh
  split at hh
  · rw [← F_k221_eq sp] at hh
    exact ic_k221 hsp _ _ ((F_k221_eq _ _ _ _ _ _).symm.trans (F_mono hc hl hh))
  · cases hh
noncomputable def E_k222 : FnE := fun call lp args h => match args with
 | [x0, x1] => F_k222 call lp x0 x1 h
 | _ => none
theorem G_k222 (sp : List Nat) : Good (pg sp) N_k222 E_k222 := by
  intro hsp call lp args h r hc hl hh
  unfold E_k222 at hh
  split at hh
  · rw [← F_k222_eq sp] at hh
    exact ic_k222 hsp _ _ ((F_k222_eq _ _ _ _ _ _).symm.trans (F_mono hc hl hh))
  · cases hh
noncomputable def E_k223 : FnE := fun call lp args h => match args with
 | [x0, x1] => F_k223 call lp x0 x1 h
 | _ => none
theorem G_k223 (sp : List Nat) : Good (pg sp) N_k223 E_k223 := by
  intro hsp call lp args h r hc hl hh
  unfold E_k223 at hh
  split at hh
  · rw [← F_k223_eq sp] at hh
    exact ic_k223 hsp _ _ ((F_k223_eq _ _ _ _ _ _).symm.trans (F_mono hc hl hh))
  · cases hh
noncomputable def E_k224 : FnE := fun call lp args h => match args with
 | [x0] => F_k224 call lp x0 h
 | _ => none
theorem G_k224 (sp : List Nat) : Good (pg sp) N_k224 E_k224 := by
  intro hsp call lp args h r hc hl hh
  unfold E_k224 at hh
  split at hh
  · rw [← F_k224_eq sp] at hh
    exact ic_k224 hsp _ ((F_k224_eq _ _ _ _ _).symm.trans (F_mono hc hl hh))
  · cases hh
noncomputable def E_k225 : FnE := fun call lp args h => match args with
 | [x0] => F_k225 call lp x0 h
 | _ => none
theorem G_k225 (sp : List Nat) : Good (pg sp) N_k225 E_k225 := by
  intro hsp call lp args h r hc hl hh
  unfold E_k225 at hh
  split at hh
  · rw [← F_k225_eq sp] at hh
    exact ic_k225 hsp _ ((F_k225_eq _ _ _ _ _).symm.trans (F_mono hc hl hh))
  · cases hh
noncomputable def E_k226 : FnE := fun call lp args h => match args with
 | [x0] => F_k226 call lp x0 h
 | _ => none
theorem G_k226 (sp : List Nat) : Good (pg sp) N_k226 E_k226 := by
  intro hsp call lp args h r hc hl hh
  unfold E_k226 at hh
  split at hh
  · rw [← F_k226_eq sp] at hh
    exact ic_k226 hsp _ ((F_k226_eq _ _ _ _ _).symm.trans (F_mono hc hl hh))
  · cases hh
noncomputable def E_k234 : FnE := fun call lp args h => match args with
 | [x0] => F_k234 call lp x0 h
 | _ => none
theorem G_k234 (sp : List Nat) : Good (pg sp) N_k234 E_k234 := by
  intro hsp call lp args h r hc hl hh
  unfold E_k234 at hh
  split at hh
  · rw [← F_k234_eq sp] at hh
    exact ic_k234 hsp _ ((F_k234_eq _ _ _ _ _).symm.trans (F_mono hc hl hh))
  · cases hh
noncomputable def E_k235 : FnE := fun call lp args h => match args with
 | [x0] => F_k235 call lp x0 h
 | _ => none
theorem G_k235 (sp : List Nat) : Good (pg sp) N_k235 E_k235 := by
  intro hsp call lp args h r hc hl hh
  unfold E_k235 at hh
  split at hh
  · rw [← F_k235_eq sp] at hh
    exact ic_k235 hsp _ ((F_k235_eq _ _ _ _ _).symm.trans (F_mono hc hl hh))
  · cases hh
noncomputable def E_k236 : FnE := fun call lp args h => match args with
 | [x0, x1] => F_k236 call lp x0 x1 h
 | _ => none
theorem G_k236 (sp : List Nat) : Good (pg sp) N_k236 E_k236 := by
  intro hsp call lp args h r hc hl hh
  unfold E_k236 at hh
  split at hh
  · rw [← F_k236_eq sp] at hh
    exact ic_k236 hsp _ _ ((F_k236_eq _ _ _ _ _ _).symm.trans (F_mono hc hl hh))
  · cases hh
noncomputable def E_k237 : FnE := fun call lp args h => match args with
 | [x0, x1] => F_k237 call lp x0 x1 h
 | _ => none
theorem G_k237 (sp : List Nat) : Good (pg sp) N_k237 E_k237 := by
  intro hsp call lp args h r hc hl hh
  unfold E_k237 at hh
  split at hh
  · rw [← F_k237_eq sp] at hh
    exact ic_k237 hsp _ _ ((F_k237_eq _ _ _ _ _ _).symm.trans (F_mono hc hl hh))
  · cases hh
noncomputable def E_k239 : FnE := fun call lp args h => match args with
 | [x0, x1, x2] => F_k239 call lp x0 x1 x2 h
 | _ => none
theorem G_k239 (sp : List Nat) : Good (pg sp) N_k239 E_k239 := by
  intro hsp call lp args h r hc hl hh
  unfold E_k239 at hh
  split at hh
  · rw [← F_k239_eq sp] at hh
    exact ic_k239 hsp _ _ _ ((F_k239_eq _ _ _ _ _ _ _).symm.trans (F_mono hc hl hh))
  · cases hh
noncomputable def E_k243 : FnE := fun call lp args h => match args with
 | [] => F_k243 call lp  h
 | _ => none
theorem G_k243 (sp : List Nat) : Good (pg sp) N_k243 E_k243 := by
  intro hsp call lp args h r hc hl hh
  unfold E_k243 at hh
  split at hh
  · rw [← F_k243_eq sp] at hh
    exact ic_k243 hsp ((F_k243_eq _ _ _ _).symm.trans (F_mono hc hl hh))
  · cases hh
noncomputable def E_k244 : FnE := fun call lp args h => match args with
 | [x0, x1] => F_k244 call lp x0 x1 h
 | _ => none
theorem G_k244 (sp : List Nat) : Good (pg sp) N_k244 E_k244 := by
  intro hsp call lp args h r hc hl hh
  unfold E_k244 at hh
  split at hh
  · rw [← F_k244_eq sp] at hh
    exact ic_k244 hsp _ _ ((F_k244_eq _ _ _ _ _ _).symm.trans (F_mono hc hl hh))
  · cases hh
noncomputable def E_k245 : FnE := fun call lp args h => match args with
 | [x0, x1] => F_k245 call lp x0 x1 h
 | _ => none
theorem G_k245 (sp : List Nat) : Good (pg sp) N_k245 E_k245 := by
  intro hsp call lp args h r hc hl hh
  unfold E_k245 at hh
  split at hh
  · rw [← F_k245_eq sp] at hh
    exact ic_k245 hsp _ _ ((F_k245_eq _ _ _ _ _ _).symm.trans (F_mono hc hl hh))
  · cases hh
noncomputable def E_k247 : FnE := fun call lp args h => match args with
 | [x0, x1] => F_k247 call lp x0 x1 h
 | _ => none
theorem G_k247 (sp : List Nat) : Good (pg sp) N_k247 E_k247 := by
  intro hsp call lp args h r hc hl hh
  unfold E_k247 at hh
  split at hh
  · rw [← F_k247_eq sp] at hh
    exact ic_k247 hsp _ _ ((F_k247_eq _ _ _ _ _ _).symm.trans (F_mono hc hl hh))
  · cases hh
noncomputable def E_k248 : FnE := fun call lp args h => match args with
 | [x0, x1, x2] => F_k248 call lp x0 x1 x2 h
 | _ => none
theorem G_k248 (sp : List Nat) : Good (pg sp) N_k248 E_k248 := by
  intro hsp call lp args h r hc hl hh
  unfold E_k248 at hh
  split at hh
  · rw [← F_k248_eq sp] at hh
    exact ic_k248 hsp _ _ _ ((F_k248_eq _ _ _ _ _ _ _).symm.trans (F_mono hc hl hh))
  · cases hh
noncomputable def E_k249 : FnE := fun call lp args h => match args with
 | [x0, x1, x2] => F_k249 call lp x0 x1 x2 h
 | _ => none
theorem G_k249 (sp : List Nat) : Good (pg sp) N_k249 E_k249 := by
  intro hsp call lp args h r hc hl hh
  unfold E_k249 at hh
  split at hh
  · rw [← F_k249_eq sp] at hh
    exact ic_k249 hsp _ _ _ ((F_k249_eq _ _ _ _ _ _ _).symm.trans (F_mono hc hl hh))
  · cases hh
noncomputable def E_k253 : FnE := fun call lp args h => match args with
 | [] => F_k253 call lp  h
 | _ => none
theorem G_k253 (sp : List Nat) : Good (pg sp) N_k253 E_k253 := by
  intro hsp call lp args h r hc hl hh
  unfold E_k253 at hh
  split at hh
  · rw [← F_k253_eq sp] at hh
    exact ic_k253 hsp ((F_k253_eq _ _ _ _).symm.trans (F_mono hc hl hh))
  · cases hh
noncomputable def E_k254 : FnE := fun call lp args h => match args with
 | [x0, x1] => F_k254 call lp x0 x1 h
 | _ => none
theorem G_k254 (sp : List Nat) : Good (pg sp) N_k254 E_k254 := by
  intro hsp call lp args h r hc hl hh
  unfold E_k254 at hh
  split at hh
  · rw [← F_k254_eq sp] at hh
    exact ic_k254 hsp _ _ ((F_k254_eq _ _ _ _ _ _).symm.trans (F_mono hc hl hh))
  · cases hh
noncomputable def E_k255 : FnE := fun _ _ args h => ext "internal/bytealg.abigen_runtime_cmpstring" args h
theorem G_k255 (sp : List Nat) : Good (pg sp) N_k255 E_k255 := fun hsp _ _ args h r _ _ hh => ic_ext (fn := Tryz.f255) hsp (by kernel_rfl) (by kernel_rfl) hh
noncomputable def evT_0 : Tr FnE := .n (some E_k255) .e .e
noncomputable def evT_1 : Tr FnE := .n (some E_k127) evT_0 .e
noncomputable def evT_2 : Tr FnE := .n (some E_k63) evT_1 .e
noncomputable def evT_3 : Tr FnE := .n (some E_k159) .e .e
noncomputable def evT_4 : Tr FnE := .n (some E_k223) .e .e
noncomputable def evT_5 : Tr FnE := .n (some E_k95) evT_3 evT_4
noncomputable def evT_6 : Tr FnE := .n (some E_k31) evT_2 evT_5
noncomputable def evT_7 : Tr FnE := .n (some E_k143) .e .e
noncomputable def evT_8 : Tr FnE := .n (some E_k207) .e .e
noncomputable def evT_9 : Tr FnE := .n (some E_k79) evT_7 evT_8
noncomputable def evT_10 : Tr FnE := .n (some E_k175) .e .e
noncomputable def evT_11 : Tr FnE := .n (some E_k239) .e .e
noncomputable def evT_12 : Tr FnE := .n none evT_10 evT_11
noncomputable def evT_13 : Tr FnE := .n (some E_k47) evT_9 evT_12
noncomputable def evT_14 : Tr FnE := .n none evT_6 evT_13
noncomputable def evT_15 : Tr FnE := .n (some E_k135) .e .e
noncomputable def evT_16 : Tr FnE := .n (some E_k199) .e .e
noncomputable def evT_17 : Tr FnE := .n (some E_k71) evT_15 evT_16
noncomputable def evT_18 : Tr FnE := .n (some E_k103) .e .e
noncomputable def evT_19 : Tr FnE := .n none evT_17 evT_18
noncomputable def evT_20 : Tr FnE := .n (some E_k151) .e .e
noncomputable def evT_21 : Tr FnE := .n (some E_k215) .e .e
noncomputable def evT_22 : Tr FnE := .n none evT_20 evT_21
noncomputable def evT_23 : Tr FnE := .n (some E_k183) .e .e
noncomputable def evT_24 : Tr FnE := .n (some E_k247) .e .e
noncomputable def evT_25 : Tr FnE := .n (some E_k119) evT_23 evT_24
noncomputable def evT_26 : Tr FnE := .n (some E_k55) evT_22 evT_25
noncomputable def evT_27 : Tr FnE := .n (some E_k23) evT_19 evT_26
noncomputable def evT_28 : Tr FnE := .n none evT_14 evT_27
noncomputable def evT_29 : Tr FnE := .n (some E_k131) .e .e
noncomputable def evT_30 : Tr FnE := .n (some E_k195) .e .e
noncomputable def evT_31 : Tr FnE := .n (some E_k67) evT_29 evT_30
noncomputable def evT_32 : Tr FnE := .n (some E_k163) .e .e
noncomputable def evT_33 : Tr FnE := .n (some E_k99) evT_32 .e
noncomputable def evT_34 : Tr FnE := .n (some E_k35) evT_31 evT_33
noncomputable def evT_35 : Tr FnE := .n (some E_k147) .e .e
noncomputable def evT_36 : Tr FnE := .n (some E_k83) evT_35 .e
noncomputable def evT_37 : Tr FnE := .n (some E_k179) .e .e
noncomputable def evT_38 : Tr FnE := .n (some E_k243) .e .e
noncomputable def evT_39 : Tr FnE := .n (some E_k115) evT_37 evT_38
noncomputable def evT_40 : Tr FnE := .n (some E_k51) evT_36 evT_39
noncomputable def evT_41 : Tr FnE := .n (some E_k19) evT_34 evT_40
noncomputable def evT_42 : Tr FnE := .n (some E_k139) .e .e
noncomputable def evT_43 : Tr FnE := .n (some E_k203) .e .e
noncomputable def evT_44 : Tr FnE := .n (some E_k75) evT_42 evT_43
noncomputable def evT_45 : Tr FnE := .n (some E_k171) .e .e
noncomputable def evT_46 : Tr FnE := .n (some E_k235) .e .e
noncomputable def evT_47 : Tr FnE := .n (some E_k107) evT_45 evT_46
noncomputable def evT_48 : Tr FnE := .n none evT_44 evT_47
noncomputable def evT_49 : Tr FnE := .n (some E_k155) .e .e
noncomputable def evT_50 : Tr FnE := .n (some E_k219) .e .e
noncomputable def evT_51 : Tr FnE := .n (some E_k91) evT_49 evT_50
noncomputable def evT_52 : Tr FnE := .n (some E_k123) .e .e
noncomputable def evT_53 : Tr FnE := .n (some E_k59) evT_51 evT_52
noncomputable def evT_54 : Tr FnE := .n (some E_k27) evT_48 evT_53
noncomputable def evT_55 : Tr FnE := .n (some E_k11) evT_41 evT_54
noncomputable def evT_56 : Tr FnE := .n none evT_28 evT_55
noncomputable def evT_57 : Tr FnE := .n (some E_k129) .e .e
noncomputable def evT_58 : Tr FnE := .n (some E_k65) evT_57 .e
noncomputable def evT_59 : Tr FnE := .n (some E_k225) .e .e
noncomputable def evT_60 : Tr FnE := .n (some E_k97) .e evT_59
noncomputable def evT_61 : Tr FnE := .n none evT_58 evT_60
noncomputable def evT_62 : Tr FnE := .n (some E_k145) .e .e
noncomputable def evT_63 : Tr FnE := .n (some E_k81) evT_62 .e
noncomputable def evT_64 : Tr FnE := .n (some E_k177) .e .e
noncomputable def evT_65 : Tr FnE := .n none evT_64 .e
noncomputable def evT_66 : Tr FnE := .n (some E_k49) evT_63 evT_65
noncomputable def evT_67 : Tr FnE := .n (some E_k17) evT_61 evT_66
noncomputable def evT_68 : Tr FnE := .n (some E_k137) .e .e
noncomputable def evT_69 : Tr FnE := .n (some E_k201) .e .e
noncomputable def evT_70 : Tr FnE := .n (some E_k73) evT_68 evT_69
noncomputable def evT_71 : Tr FnE := .n (some E_k169) .e .e
noncomputable def evT_72 : Tr FnE := .n (some E_k105) evT_71 .e
noncomputable def evT_73 : Tr FnE := .n (some E_k41) evT_70 evT_72
noncomputable def evT_74 : Tr FnE := .n (some E_k153) .e .e
noncomputable def evT_75 : Tr FnE := .n (some E_k217) .e .e
noncomputable def evT_76 : Tr FnE := .n (some E_k89) evT_74 evT_75
noncomputable def evT_77 : Tr FnE := .n (some E_k185) .e .e
noncomputable def evT_78 : Tr FnE := .n (some E_k249) .e .e
noncomputable def evT_79 : Tr FnE := .n (some E_k121) evT_77 evT_78
noncomputable def evT_80 : Tr FnE := .n (some E_k57) evT_76 evT_79
noncomputable def evT_81 : Tr FnE := .n (some E_k25) evT_73 evT_80
noncomputable def evT_82 : Tr FnE := .n (some E_k9) evT_67 evT_81
noncomputable def evT_83 : Tr FnE := .n (some E_k133) .e .e
noncomputable def evT_84 : Tr FnE := .n (some E_k69) evT_83 .e
noncomputable def evT_85 : Tr FnE := .n (some E_k165) .e .e
noncomputable def evT_86 : Tr FnE := .n (some E_k101) evT_85 .e
noncomputable def evT_87 : Tr FnE := .n (some E_k37) evT_84 evT_86
noncomputable def evT_88 : Tr FnE := .n (some E_k85) .e .e
noncomputable def evT_89 : Tr FnE := .n (some E_k181) .e .e
noncomputable def evT_90 : Tr FnE := .n (some E_k245) .e .e
noncomputable def evT_91 : Tr FnE := .n (some E_k117) evT_89 evT_90
noncomputable def evT_92 : Tr FnE := .n (some E_k53) evT_88 evT_91
noncomputable def evT_93 : Tr FnE := .n (some E_k21) evT_87 evT_92
noncomputable def evT_94 : Tr FnE := .n (some E_k141) .e .e
noncomputable def evT_95 : Tr FnE := .n (some E_k205) .e .e
noncomputable def evT_96 : Tr FnE := .n (some E_k77) evT_94 evT_95
noncomputable def evT_97 : Tr FnE := .n (some E_k173) .e .e
noncomputable def evT_98 : Tr FnE := .n (some E_k237) .e .e
noncomputable def evT_99 : Tr FnE := .n (some E_k109) evT_97 evT_98
noncomputable def evT_100 : Tr FnE := .n none evT_96 evT_99
noncomputable def evT_101 : Tr FnE := .n (some E_k221) .e .e
noncomputable def evT_102 : Tr FnE := .n (some E_k93) .e evT_101
noncomputable def evT_103 : Tr FnE := .n (some E_k189) .e .e
noncomputable def evT_104 : Tr FnE := .n (some E_k253) .e .e
noncomputable def evT_105 : Tr FnE := .n (some E_k125) evT_103 evT_104
noncomputable def evT_106 : Tr FnE := .n (some E_k61) evT_102 evT_105
noncomputable def evT_107 : Tr FnE := .n (some E_k29) evT_100 evT_106
noncomputable def evT_108 : Tr FnE := .n (some E_k13) evT_93 evT_107
noncomputable def evT_109 : Tr FnE := .n none evT_82 evT_108
noncomputable def evT_110 : Tr FnE := .n none evT_56 evT_109
noncomputable def evT_111 : Tr FnE := .n (some E_k128) .e .e
noncomputable def evT_112 : Tr FnE := .n (some E_k64) evT_111 .e
noncomputable def evT_113 : Tr FnE := .n (some E_k160) .e .e
noncomputable def evT_114 : Tr FnE := .n (some E_k224) .e .e
noncomputable def evT_115 : Tr FnE := .n (some E_k96) evT_113 evT_114
noncomputable def evT_116 : Tr FnE := .n (some E_k32) evT_112 evT_115
noncomputable def evT_117 : Tr FnE := .n (some E_k144) .e .e
noncomputable def evT_118 : Tr FnE := .n none evT_117 .e
noncomputable def evT_119 : Tr FnE := .n (some E_k176) .e .e
noncomputable def evT_120 : Tr FnE := .n (some E_k112) evT_119 .e
noncomputable def evT_121 : Tr FnE := .n (some E_k48) evT_118 evT_120
noncomputable def evT_122 : Tr FnE := .n none evT_116 evT_121
noncomputable def evT_123 : Tr FnE := .n (some E_k136) .e .e
noncomputable def evT_124 : Tr FnE := .n (some E_k200) .e .e
noncomputable def evT_125 : Tr FnE := .n (some E_k72) evT_123 evT_124
noncomputable def evT_126 : Tr FnE := .n (some E_k168) .e .e
noncomputable def evT_127 : Tr FnE := .n none evT_126 .e
noncomputable def evT_128 : Tr FnE := .n none evT_125 evT_127
noncomputable def evT_129 : Tr FnE := .n (some E_k152) .e .e
noncomputable def evT_130 : Tr FnE := .n (some E_k216) .e .e
noncomputable def evT_131 : Tr FnE := .n (some E_k88) evT_129 evT_130
noncomputable def evT_132 : Tr FnE := .n (some E_k184) .e .e
noncomputable def evT_133 : Tr FnE := .n (some E_k248) .e .e
noncomputable def evT_134 : Tr FnE := .n (some E_k120) evT_132 evT_133
noncomputable def evT_135 : Tr FnE := .n (some E_k56) evT_131 evT_134
noncomputable def evT_136 : Tr FnE := .n (some E_k24) evT_128 evT_135
noncomputable def evT_137 : Tr FnE := .n (some E_k8) evT_122 evT_136
noncomputable def evT_138 : Tr FnE := .n (some E_k132) .e .e
noncomputable def evT_139 : Tr FnE := .n (some E_k68) evT_138 .e
noncomputable def evT_140 : Tr FnE := .n (some E_k164) .e .e
noncomputable def evT_141 : Tr FnE := .n none evT_140 .e
noncomputable def evT_142 : Tr FnE := .n (some E_k36) evT_139 evT_141
noncomputable def evT_143 : Tr FnE := .n (some E_k148) .e .e
noncomputable def evT_144 : Tr FnE := .n (some E_k84) evT_143 .e
noncomputable def evT_145 : Tr FnE := .n (some E_k180) .e .e
noncomputable def evT_146 : Tr FnE := .n (some E_k244) .e .e
noncomputable def evT_147 : Tr FnE := .n (some E_k116) evT_145 evT_146
noncomputable def evT_148 : Tr FnE := .n (some E_k52) evT_144 evT_147
noncomputable def evT_149 : Tr FnE := .n (some E_k20) evT_142 evT_148
noncomputable def evT_150 : Tr FnE := .n (some E_k140) .e .e
noncomputable def evT_151 : Tr FnE := .n (some E_k204) .e .e
noncomputable def evT_152 : Tr FnE := .n (some E_k76) evT_150 evT_151
noncomputable def evT_153 : Tr FnE := .n (some E_k172) .e .e
noncomputable def evT_154 : Tr FnE := .n (some E_k236) .e .e
noncomputable def evT_155 : Tr FnE := .n (some E_k108) evT_153 evT_154
noncomputable def evT_156 : Tr FnE := .n none evT_152 evT_155
noncomputable def evT_157 : Tr FnE := .n (some E_k156) .e .e
noncomputable def evT_158 : Tr FnE := .n (some E_k220) .e .e
noncomputable def evT_159 : Tr FnE := .n (some E_k92) evT_157 evT_158
noncomputable def evT_160 : Tr FnE := .n (some E_k124) .e .e
noncomputable def evT_161 : Tr FnE := .n (some E_k60) evT_159 evT_160
noncomputable def evT_162 : Tr FnE := .n (some E_k28) evT_156 evT_161
noncomputable def evT_163 : Tr FnE := .n none evT_149 evT_162
noncomputable def evT_164 : Tr FnE := .n none evT_137 evT_163
noncomputable def evT_165 : Tr FnE := .n (some E_k130) .e .e
noncomputable def evT_166 : Tr FnE := .n (some E_k66) evT_165 .e
noncomputable def evT_167 : Tr FnE := .n (some E_k226) .e .e
noncomputable def evT_168 : Tr FnE := .n (some E_k98) .e evT_167
noncomputable def evT_169 : Tr FnE := .n (some E_k34) evT_166 evT_168
noncomputable def evT_170 : Tr FnE := .n (some E_k82) .e .e
noncomputable def evT_171 : Tr FnE := .n (some E_k178) .e .e
noncomputable def evT_172 : Tr FnE := .n (some E_k114) evT_171 .e
noncomputable def evT_173 : Tr FnE := .n (some E_k50) evT_170 evT_172
noncomputable def evT_174 : Tr FnE := .n (some E_k18) evT_169 evT_173
noncomputable def evT_175 : Tr FnE := .n (some E_k138) .e .e
noncomputable def evT_176 : Tr FnE := .n (some E_k202) .e .e
noncomputable def evT_177 : Tr FnE := .n (some E_k74) evT_175 evT_176
noncomputable def evT_178 : Tr FnE := .n (some E_k170) .e .e
noncomputable def evT_179 : Tr FnE := .n (some E_k234) .e .e
noncomputable def evT_180 : Tr FnE := .n (some E_k106) evT_178 evT_179
noncomputable def evT_181 : Tr FnE := .n (some E_k42) evT_177 evT_180
noncomputable def evT_182 : Tr FnE := .n (some E_k154) .e .e
noncomputable def evT_183 : Tr FnE := .n (some E_k218) .e .e
noncomputable def evT_184 : Tr FnE := .n (some E_k90) evT_182 evT_183
noncomputable def evT_185 : Tr FnE := .n (some E_k186) .e .e
noncomputable def evT_186 : Tr FnE := .n (some E_k122) evT_185 .e
noncomputable def evT_187 : Tr FnE := .n (some E_k58) evT_184 evT_186
noncomputable def evT_188 : Tr FnE := .n (some E_k26) evT_181 evT_187
noncomputable def evT_189 : Tr FnE := .n none evT_174 evT_188
noncomputable def evT_190 : Tr FnE := .n (some E_k134) .e .e
noncomputable def evT_191 : Tr FnE := .n (some E_k70) evT_190 .e
noncomputable def evT_192 : Tr FnE := .n (some E_k166) .e .e
noncomputable def evT_193 : Tr FnE := .n (some E_k102) evT_192 .e
noncomputable def evT_194 : Tr FnE := .n (some E_k38) evT_191 evT_193
noncomputable def evT_195 : Tr FnE := .n (some E_k150) .e .e
noncomputable def evT_196 : Tr FnE := .n none evT_195 .e
noncomputable def evT_197 : Tr FnE := .n (some E_k182) .e .e
noncomputable def evT_198 : Tr FnE := .n (some E_k118) evT_197 .e
noncomputable def evT_199 : Tr FnE := .n (some E_k54) evT_196 evT_198
noncomputable def evT_200 : Tr FnE := .n (some E_k22) evT_194 evT_199
noncomputable def evT_201 : Tr FnE := .n (some E_k142) .e .e
noncomputable def evT_202 : Tr FnE := .n (some E_k206) .e .e
noncomputable def evT_203 : Tr FnE := .n (some E_k78) evT_201 evT_202
noncomputable def evT_204 : Tr FnE := .n (some E_k174) .e .e
noncomputable def evT_205 : Tr FnE := .n (some E_k110) evT_204 .e
noncomputable def evT_206 : Tr FnE := .n (some E_k46) evT_203 evT_205
noncomputable def evT_207 : Tr FnE := .n (some E_k222) .e .e
noncomputable def evT_208 : Tr FnE := .n (some E_k94) .e evT_207
noncomputable def evT_209 : Tr FnE := .n (some E_k254) .e .e
noncomputable def evT_210 : Tr FnE := .n (some E_k126) .e evT_209
noncomputable def evT_211 : Tr FnE := .n (some E_k62) evT_208 evT_210
noncomputable def evT_212 : Tr FnE := .n (some E_k30) evT_206 evT_211
noncomputable def evT_213 : Tr FnE := .n none evT_200 evT_212
noncomputable def evT_214 : Tr FnE := .n none evT_189 evT_213
noncomputable def evT_215 : Tr FnE := .n none evT_164 evT_214
noncomputable def evT_216 : Tr FnE := .n none evT_110 evT_215
noncomputable def evT : Tr FnE := evT_216
theorem evAll (sp : List Nat) : evT.All (Good (pg sp)) := (Tr.all_0 (Tr.all_0 (Tr.all_0 (Tr.all_0 (Tr.all_0 (Tr.all_n (G_k31 sp) (Tr.all_n (G_k63 sp) (Tr.all_n (G_k127 sp) (Tr.all_n (G_k255 sp) Tr.all_e Tr.all_e) Tr.all_e) Tr.all_e) (Tr.all_n (G_k95 sp) (Tr.all_n (G_k159 sp) Tr.all_e Tr.all_e) (Tr.all_n (G_k223 sp) Tr.all_e Tr.all_e))) (Tr.all_n (G_k47 sp) (Tr.all_n (G_k79 sp) (Tr.all_n (G_k143 sp) Tr.all_e Tr.all_e) (Tr.all_n (G_k207 sp) Tr.all_e Tr.all_e)) (Tr.all_0 (Tr.all_n (G_k175 sp) Tr.all_e Tr.all_e) (Tr.all_n (G_k239 sp) Tr.all_e Tr.all_e)))) (Tr.all_n (G_k23 sp) (Tr.all_0 (Tr.all_n (G_k71 sp) (Tr.all_n (G_k135 sp) Tr.all_e Tr.all_e) (Tr.all_n (G_k199 sp) Tr.all_e Tr.all_e)) (Tr.all_n (G_k103 sp) Tr.all_e Tr.all_e)) (Tr.all_n (G_k55 sp) (Tr.all_0 (Tr.all_n (G_k151 sp) Tr.all_e Tr.all_e) (Tr.all_n (G_k215 sp) Tr.all_e Tr.all_e)) (Tr.all_n (G_k119 sp) (Tr.all_n (G_k183 sp) Tr.all_e Tr.all_e) (Tr.all_n (G_k247 sp) Tr.all_e Tr.all_e))))) (Tr.all_n (G_k11 sp) (Tr.all_n (G_k19 sp) (Tr.all_n (G_k35 sp) (Tr.all_n (G_k67 sp) (Tr.all_n (G_k131 sp) Tr.all_e Tr.all_e) (Tr.all_n (G_k195 sp) Tr.all_e Tr.all_e)) (Tr.all_n (G_k99 sp) (Tr.all_n (G_k163 sp) Tr.all_e Tr.all_e) Tr.all_e)) (Tr.all_n (G_k51 sp) (Tr.all_n (G_k83 sp) (Tr.all_n (G_k147 sp) Tr.all_e Tr.all_e) Tr.all_e) (Tr.all_n (G_k115 sp) (Tr.all_n (G_k179 sp) Tr.all_e Tr.all_e) (Tr.all_n (G_k243 sp) Tr.all_e Tr.all_e)))) (Tr.all_n (G_k27 sp) (Tr.all_0 (Tr.all_n (G_k75 sp) (Tr.all_n (G_k139 sp) Tr.all_e Tr.all_e) (Tr.all_n (G_k203 sp) Tr.all_e Tr.all_e)) (Tr.all_n (G_k107 sp) (Tr.all_n (G_k171 sp) Tr.all_e Tr.all_e) (Tr.all_n (G_k235 sp) Tr.all_e Tr.all_e))) (Tr.all_n (G_k59 sp) (Tr.all_n (G_k91 sp) (Tr.all_n (G_k155 sp) Tr.all_e Tr.all_e) (Tr.all_n (G_k219 sp) Tr.all_e Tr.all_e)) (Tr.all_n (G_k123 sp) Tr.all_e Tr.all_e))))) (Tr.all_0 (Tr.all_n (G_k9 sp) (Tr.all_n (G_k17 sp) (Tr.all_0 (Tr.all_n (G_k65 sp) (Tr.all_n (G_k129 sp) Tr.all_e Tr.all_e) Tr.all_e) (Tr.all_n (G_k97 sp) Tr.all_e (Tr.all_n (G_k225 sp) Tr.all_e Tr.all_e))) (Tr.all_n (G_k49 sp) (Tr.all_n (G_k81 sp) (Tr.all_n (G_k145 sp) Tr.all_e Tr.all_e) Tr.all_e) (Tr.all_0 (Tr.all_n (G_k177 sp) Tr.all_e Tr.all_e) Tr.all_e))) (Tr.all_n (G_k25 sp) (Tr.all_n (G_k41 sp) (Tr.all_n (G_k73 sp) (Tr.all_n (G_k137 sp) Tr.all_e Tr.all_e) (Tr.all_n (G_k201 sp) Tr.all_e Tr.all_e)) (Tr.all_n (G_k105 sp) (Tr.all_n (G_k169 sp) Tr.all_e Tr.all_e) Tr.all_e)) (Tr.all_n (G_k57 sp) (Tr.all_n (G_k89 sp) (Tr.all_n (G_k153 sp) Tr.all_e Tr.all_e) (Tr.all_n (G_k217 sp) Tr.all_e Tr.all_e)) (Tr.all_n (G_k121 sp) (Tr.all_n (G_k185 sp) Tr.all_e Tr.all_e) (Tr.all_n (G_k249 sp) Tr.all_e Tr.all_e))))) (Tr.all_n (G_k13 sp) (Tr.all_n (G_k21 sp) (Tr.all_n (G_k37 sp) (Tr.all_n (G_k69 sp) (Tr.all_n (G_k133 sp) Tr.all_e Tr.all_e) Tr.all_e) (Tr.all_n (G_k101 sp) (Tr.all_n (G_k165 sp) Tr.all_e Tr.all_e) Tr.all_e)) (Tr.all_n (G_k53 sp) (Tr.all_n (G_k85 sp) Tr.all_e Tr.all_e) (Tr.all_n (G_k117 sp) (Tr.all_n (G_k181 sp) Tr.all_e Tr.all_e) (Tr.all_n (G_k245 sp) Tr.all_e Tr.all_e)))) (Tr.all_n (G_k29 sp) (Tr.all_0 (Tr.all_n (G_k77 sp) (Tr.all_n (G_k141 sp) Tr.all_e Tr.all_e) (Tr.all_n (G_k205 sp) Tr.all_e Tr.all_e)) (Tr.all_n (G_k109 sp) (Tr.all_n (G_k173 sp) Tr.all_e Tr.all_e) (Tr.all_n (G_k237 sp) Tr.all_e Tr.all_e))) (Tr.all_n (G_k61 sp) (Tr.all_n (G_k93 sp) Tr.all_e (Tr.all_n (G_k221 sp) Tr.all_e Tr.all_e)) (Tr.all_n (G_k125 sp) (Tr.all_n (G_k189 sp) Tr.all_e Tr.all_e) (Tr.all_n (G_k253 sp) Tr.all_e Tr.all_e))))))) (Tr.all_0 (Tr.all_0 (Tr.all_n (G_k8 sp) (Tr.all_0 (Tr.all_n (G_k32 sp) (Tr.all_n (G_k64 sp) (Tr.all_n (G_k128 sp) Tr.all_e Tr.all_e) Tr.all_e) (Tr.all_n (G_k96 sp) (Tr.all_n (G_k160 sp) Tr.all_e Tr.all_e) (Tr.all_n (G_k224 sp) Tr.all_e Tr.all_e))) (Tr.all_n (G_k48 sp) (Tr.all_0 (Tr.all_n (G_k144 sp) Tr.all_e Tr.all_e) Tr.all_e) (Tr.all_n (G_k112 sp) (Tr.all_n (G_k176 sp) Tr.all_e Tr.all_e) Tr.all_e))) (Tr.all_n (G_k24 sp) (Tr.all_0 (Tr.all_n (G_k72 sp) (Tr.all_n (G_k136 sp) Tr.all_e Tr.all_e) (Tr.all_n (G_k200 sp) Tr.all_e Tr.all_e)) (Tr.all_0 (Tr.all_n (G_k168 sp) Tr.all_e Tr.all_e) Tr.all_e)) (Tr.all_n (G_k56 sp) (Tr.all_n (G_k88 sp) (Tr.all_n (G_k152 sp) Tr.all_e Tr.all_e) (Tr.all_n (G_k216 sp) Tr.all_e Tr.all_e)) (Tr.all_n (G_k120 sp) (Tr.all_n (G_k184 sp) Tr.all_e Tr.all_e) (Tr.all_n (G_k248 sp) Tr.all_e Tr.all_e))))) (Tr.all_0 (Tr.all_n (G_k20 sp) (Tr.all_n (G_k36 sp) (Tr.all_n (G_k68 sp) (Tr.all_n (G_k132 sp) Tr.all_e Tr.all_e) Tr.all_e) (Tr.all_0 (Tr.all_n (G_k164 sp) Tr.all_e Tr.all_e) Tr.all_e)) (Tr.all_n (G_k52 sp) (Tr.all_n (G_k84 sp) (Tr.all_n (G_k148 sp) Tr.all_e Tr.all_e) Tr.all_e) (Tr.all_n (G_k116 sp) (Tr.all_n (G_k180 sp) Tr.all_e Tr.all_e) (Tr.all_n (G_k244 sp) Tr.all_e Tr.all_e)))) (Tr.all_n (G_k28 sp) (Tr.all_0 (Tr.all_n (G_k76 sp) (Tr.all_n (G_k140 sp) Tr.all_e Tr.all_e) (Tr.all_n (G_k204 sp) Tr.all_e Tr.all_e)) (Tr.all_n (G_k108 sp) (Tr.all_n (G_k172 sp) Tr.all_e Tr.all_e) (Tr.all_n (G_k236 sp) Tr.all_e Tr.all_e))) (Tr.all_n (G_k60 sp) (Tr.all_n (G_k92 sp) (Tr.all_n (G_k156 sp) Tr.all_e Tr.all_e) (Tr.all_n (G_k220 sp) Tr.all_e Tr.all_e)) (Tr.all_n (G_k124 sp) Tr.all_e Tr.all_e))))) (Tr.all_0 (Tr.all_0 (Tr.all_n (G_k18 sp) (Tr.all_n (G_k34 sp) (Tr.all_n (G_k66 sp) (Tr.all_n (G_k130 sp) Tr.all_e Tr.all_e) Tr.all_e) (Tr.all_n (G_k98 sp) Tr.all_e (Tr.all_n (G_k226 sp) Tr.all_e Tr.all_e))) (Tr.all_n (G_k50 sp) (Tr.all_n (G_k82 sp) Tr.all_e Tr.all_e) (Tr.all_n (G_k114 sp) (Tr.all_n (G_k178 sp) Tr.all_e Tr.all_e) Tr.all_e))) (Tr.all_n (G_k26 sp) (Tr.all_n (G_k42 sp) (Tr.all_n (G_k74 sp) (Tr.all_n (G_k138 sp) Tr.all_e Tr.all_e) (Tr.all_n (G_k202 sp) Tr.all_e Tr.all_e)) (Tr.all_n (G_k106 sp) (Tr.all_n (G_k170 sp) Tr.all_e Tr.all_e) (Tr.all_n (G_k234 sp) Tr.all_e Tr.all_e))) (Tr.all_n (G_k58 sp) (Tr.all_n (G_k90 sp) (Tr.all_n (G_k154 sp) Tr.all_e Tr.all_e) (Tr.all_n (G_k218 sp) Tr.all_e Tr.all_e)) (Tr.all_n (G_k122 sp) (Tr.all_n (G_k186 sp) Tr.all_e Tr.all_e) Tr.all_e)))) (Tr.all_0 (Tr.all_n (G_k22 sp) (Tr.all_n (G_k38 sp) (Tr.all_n (G_k70 sp) (Tr.all_n (G_k134 sp) Tr.all_e Tr.all_e) Tr.all_e) (Tr.all_n (G_k102 sp) (Tr.all_n (G_k166 sp) Tr.all_e Tr.all_e) Tr.all_e)) (Tr.all_n (G_k54 sp) (Tr.all_0 (Tr.all_n (G_k150 sp) Tr.all_e Tr.all_e) Tr.all_e) (Tr.all_n (G_k118 sp) (Tr.all_n (G_k182 sp) Tr.all_e Tr.all_e) Tr.all_e))) (Tr.all_n (G_k30 sp) (Tr.all_n (G_k46 sp) (Tr.all_n (G_k78 sp) (Tr.all_n (G_k142 sp) Tr.all_e Tr.all_e) (Tr.all_n (G_k206 sp) Tr.all_e Tr.all_e)) (Tr.all_n (G_k110 sp) (Tr.all_n (G_k174 sp) Tr.all_e Tr.all_e) Tr.all_e)) (Tr.all_n (G_k62 sp) (Tr.all_n (G_k94 sp) Tr.all_e (Tr.all_n (G_k222 sp) Tr.all_e Tr.all_e)) (Tr.all_n (G_k126 sp) Tr.all_e (Tr.all_n (G_k254 sp) Tr.all_e Tr.all_e))))))))
end Go.L1
