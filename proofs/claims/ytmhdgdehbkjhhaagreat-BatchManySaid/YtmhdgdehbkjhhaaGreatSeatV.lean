/- Texts of a proof: no condition. -/
import Derived.Test.YtmhdgdehbkjhhaaGreatOneE
import Derived.Test.YtmhdgdehbkjhhaaGreatSeatE
import Derived.KernelRfl
set_option autoImplicit true
set_option relaxedAutoImplicit true
set_option linter.all false
set_option linter.unusedVariables false
set_option linter.unusedSimpArgs false
set_option maxRecDepth 100000
set_option linter.unusedVariables false
namespace Go.L1
open Go Go.Proofs
noncomputable def fE0 (F : CallF → LoopF → H → Option (Value × H × List Nat)) : FnE := fun call lp args h => match args with
 | [] => F call lp  h
 | _ => none
theorem good0 {sp : List Nat} {n : Nat} {f : Func} {F : CallF → LoopF → H → Option (Value × H × List Nat)} (he : ∀ (call : CallF) (lp : LoopF) (h : H), cK (spL sp) call lp n f [] h = F call lp  h) (hi : (pg sp).spec n = none → ∀ (h : H) (r : Value × H × List Nat), F (ic (pg sp)) lw  h = some r → ic (pg sp) (.fn n) [] h = some r) : Good (pg sp) n (fE0 F) := by
  intro hsp call lp args h r hc hl hh
  unfold fE0 at hh
  split at hh
  · rw [← he] at hh
    exact hi hsp _ _ ((he _ _ _).symm.trans (F_mono hc hl hh))
  · cases hh
noncomputable def fE1 (F : CallF → LoopF → Value → H → Option (Value × H × List Nat)) : FnE := fun call lp args h => match args with
 | [x0] => F call lp x0 h
 | _ => none
theorem good1 {sp : List Nat} {n : Nat} {f : Func} {F : CallF → LoopF → Value → H → Option (Value × H × List Nat)} (he : ∀ (call : CallF) (lp : LoopF) (x0 : Value) (h : H), cK (spL sp) call lp n f [x0] h = F call lp x0 h) (hi : (pg sp).spec n = none → ∀ (x0 : Value) (h : H) (r : Value × H × List Nat), F (ic (pg sp)) lw x0 h = some r → ic (pg sp) (.fn n) [x0] h = some r) : Good (pg sp) n (fE1 F) := by
  intro hsp call lp args h r hc hl hh
  unfold fE1 at hh
  split at hh
  · rw [← he] at hh
    exact hi hsp _ _ _ ((he _ _ _ _).symm.trans (F_mono hc hl hh))
  · cases hh
noncomputable def fE2 (F : CallF → LoopF → Value → Value → H → Option (Value × H × List Nat)) : FnE := fun call lp args h => match args with
 | [x0, x1] => F call lp x0 x1 h
 | _ => none
theorem good2 {sp : List Nat} {n : Nat} {f : Func} {F : CallF → LoopF → Value → Value → H → Option (Value × H × List Nat)} (he : ∀ (call : CallF) (lp : LoopF) (x0 x1 : Value) (h : H), cK (spL sp) call lp n f [x0, x1] h = F call lp x0 x1 h) (hi : (pg sp).spec n = none → ∀ (x0 x1 : Value) (h : H) (r : Value × H × List Nat), F (ic (pg sp)) lw x0 x1 h = some r → ic (pg sp) (.fn n) [x0, x1] h = some r) : Good (pg sp) n (fE2 F) := by
  intro hsp call lp args h r hc hl hh
  unfold fE2 at hh
  split at hh
  · rw [← he] at hh
    exact hi hsp _ _ _ _ ((he _ _ _ _ _).symm.trans (F_mono hc hl hh))
  · cases hh
noncomputable def fE3 (F : CallF → LoopF → Value → Value → Value → H → Option (Value × H × List Nat)) : FnE := fun call lp args h => match args with
 | [x0, x1, x2] => F call lp x0 x1 x2 h
 | _ => none
theorem good3 {sp : List Nat} {n : Nat} {f : Func} {F : CallF → LoopF → Value → Value → Value → H → Option (Value × H × List Nat)} (he : ∀ (call : CallF) (lp : LoopF) (x0 x1 x2 : Value) (h : H), cK (spL sp) call lp n f [x0, x1, x2] h = F call lp x0 x1 x2 h) (hi : (pg sp).spec n = none → ∀ (x0 x1 x2 : Value) (h : H) (r : Value × H × List Nat), F (ic (pg sp)) lw x0 x1 x2 h = some r → ic (pg sp) (.fn n) [x0, x1, x2] h = some r) : Good (pg sp) n (fE3 F) := by
  intro hsp call lp args h r hc hl hh
  unfold fE3 at hh
  split at hh
  · rw [← he] at hh
    exact hi hsp _ _ _ _ _ ((he _ _ _ _ _ _).symm.trans (F_mono hc hl hh))
  · cases hh
noncomputable def fE4 (F : CallF → LoopF → Value → Value → Value → Value → H → Option (Value × H × List Nat)) : FnE := fun call lp args h => match args with
 | [x0, x1, x2, x3] => F call lp x0 x1 x2 x3 h
 | _ => none
theorem good4 {sp : List Nat} {n : Nat} {f : Func} {F : CallF → LoopF → Value → Value → Value → Value → H → Option (Value × H × List Nat)} (he : ∀ (call : CallF) (lp : LoopF) (x0 x1 x2 x3 : Value) (h : H), cK (spL sp) call lp n f [x0, x1, x2, x3] h = F call lp x0 x1 x2 x3 h) (hi : (pg sp).spec n = none → ∀ (x0 x1 x2 x3 : Value) (h : H) (r : Value × H × List Nat), F (ic (pg sp)) lw x0 x1 x2 x3 h = some r → ic (pg sp) (.fn n) [x0, x1, x2, x3] h = some r) : Good (pg sp) n (fE4 F) := by
  intro hsp call lp args h r hc hl hh
  unfold fE4 at hh
  split at hh
  · rw [← he] at hh
    exact hi hsp _ _ _ _ _ _ ((he _ _ _ _ _ _ _).symm.trans (F_mono hc hl hh))
  · cases hh
noncomputable def fE5 (F : CallF → LoopF → Value → Value → Value → Value → Value → H → Option (Value × H × List Nat)) : FnE := fun call lp args h => match args with
 | [x0, x1, x2, x3, x4] => F call lp x0 x1 x2 x3 x4 h
 | _ => none
theorem good5 {sp : List Nat} {n : Nat} {f : Func} {F : CallF → LoopF → Value → Value → Value → Value → Value → H → Option (Value × H × List Nat)} (he : ∀ (call : CallF) (lp : LoopF) (x0 x1 x2 x3 x4 : Value) (h : H), cK (spL sp) call lp n f [x0, x1, x2, x3, x4] h = F call lp x0 x1 x2 x3 x4 h) (hi : (pg sp).spec n = none → ∀ (x0 x1 x2 x3 x4 : Value) (h : H) (r : Value × H × List Nat), F (ic (pg sp)) lw x0 x1 x2 x3 x4 h = some r → ic (pg sp) (.fn n) [x0, x1, x2, x3, x4] h = some r) : Good (pg sp) n (fE5 F) := by
  intro hsp call lp args h r hc hl hh
  unfold fE5 at hh
  split at hh
  · rw [← he] at hh
    exact hi hsp _ _ _ _ _ _ _ ((he _ _ _ _ _ _ _ _).symm.trans (F_mono hc hl hh))
  · cases hh
noncomputable def fE6 (F : CallF → LoopF → Value → Value → Value → Value → Value → Value → H → Option (Value × H × List Nat)) : FnE := fun call lp args h => match args with
 | [x0, x1, x2, x3, x4, x5] => F call lp x0 x1 x2 x3 x4 x5 h
 | _ => none
theorem good6 {sp : List Nat} {n : Nat} {f : Func} {F : CallF → LoopF → Value → Value → Value → Value → Value → Value → H → Option (Value × H × List Nat)} (he : ∀ (call : CallF) (lp : LoopF) (x0 x1 x2 x3 x4 x5 : Value) (h : H), cK (spL sp) call lp n f [x0, x1, x2, x3, x4, x5] h = F call lp x0 x1 x2 x3 x4 x5 h) (hi : (pg sp).spec n = none → ∀ (x0 x1 x2 x3 x4 x5 : Value) (h : H) (r : Value × H × List Nat), F (ic (pg sp)) lw x0 x1 x2 x3 x4 x5 h = some r → ic (pg sp) (.fn n) [x0, x1, x2, x3, x4, x5] h = some r) : Good (pg sp) n (fE6 F) := by
  intro hsp call lp args h r hc hl hh
  unfold fE6 at hh
  split at hh
  · rw [← he] at hh
    exact hi hsp _ _ _ _ _ _ _ _ ((he _ _ _ _ _ _ _ _ _).symm.trans (F_mono hc hl hh))
  · cases hh
noncomputable def E_k7 : FnE := fE1 F_k7
theorem G_k7 (sp : List Nat) : Good (pg sp) N_k7 E_k7 := good1 (F_k7_eq _) ic_k7
noncomputable def E_k9 : FnE := fE0 F_k9
theorem G_k9 (sp : List Nat) : Good (pg sp) N_k9 E_k9 := good0 (F_k9_eq _) ic_k9
noncomputable def E_k12 : FnE := fE0 F_k12
theorem G_k12 (sp : List Nat) : Good (pg sp) N_k12 E_k12 := good0 (F_k12_eq _) ic_k12
noncomputable def E_k15 : FnE := fE1 F_k15
theorem G_k15 (sp : List Nat) : Good (pg sp) N_k15 E_k15 := good1 (F_k15_eq _) ic_k15
noncomputable def E_k16 : FnE := fE3 F_k16
theorem G_k16 (sp : List Nat) : Good (pg sp) N_k16 E_k16 := good3 (F_k16_eq _) ic_k16
noncomputable def E_k18 : FnE := fE4 F_k18
theorem G_k18 (sp : List Nat) : Good (pg sp) N_k18 E_k18 := good4 (F_k18_eq _) ic_k18
noncomputable def E_k23 : FnE := fE4 F_k23
theorem G_k23 (sp : List Nat) : Good (pg sp) N_k23 E_k23 := good4 (F_k23_eq _) ic_k23
noncomputable def E_k24 : FnE := fE0 F_k24
theorem G_k24 (sp : List Nat) : Good (pg sp) N_k24 E_k24 := good0 (F_k24_eq _) ic_k24
noncomputable def E_k25 : FnE := fE2 F_k25
theorem G_k25 (sp : List Nat) : Good (pg sp) N_k25 E_k25 := good2 (F_k25_eq _) ic_k25
noncomputable def E_k26 : FnE := fE2 F_k26
theorem G_k26 (sp : List Nat) : Good (pg sp) N_k26 E_k26 := good2 (F_k26_eq _) ic_k26
noncomputable def E_k27 : FnE := fE2 F_k27
theorem G_k27 (sp : List Nat) : Good (pg sp) N_k27 E_k27 := good2 (F_k27_eq _) ic_k27
noncomputable def E_k28 : FnE := fE2 F_k28
theorem G_k28 (sp : List Nat) : Good (pg sp) N_k28 E_k28 := good2 (F_k28_eq _) ic_k28
noncomputable def E_k29 : FnE := fE2 F_k29
theorem G_k29 (sp : List Nat) : Good (pg sp) N_k29 E_k29 := good2 (F_k29_eq _) ic_k29
noncomputable def E_k30 : FnE := fE1 F_k30
theorem G_k30 (sp : List Nat) : Good (pg sp) N_k30 E_k30 := good1 (F_k30_eq _) ic_k30
noncomputable def E_k31 : FnE := fE1 F_k31
theorem G_k31 (sp : List Nat) : Good (pg sp) N_k31 E_k31 := good1 (F_k31_eq _) ic_k31
noncomputable def E_k32 : FnE := fE0 F_k32
theorem G_k32 (sp : List Nat) : Good (pg sp) N_k32 E_k32 := good0 (F_k32_eq _) ic_k32
noncomputable def E_k33 : FnE := fE2 F_k33
theorem G_k33 (sp : List Nat) : Good (pg sp) N_k33 E_k33 := good2 (F_k33_eq _) ic_k33
noncomputable def E_k34 : FnE := fE1 F_k34
theorem G_k34 (sp : List Nat) : Good (pg sp) N_k34 E_k34 := good1 (F_k34_eq _) ic_k34
noncomputable def E_k35 : FnE := fE2 F_k35
theorem G_k35 (sp : List Nat) : Good (pg sp) N_k35 E_k35 := good2 (F_k35_eq _) ic_k35
noncomputable def E_k36 : FnE := fE0 F_k36
theorem G_k36 (sp : List Nat) : Good (pg sp) N_k36 E_k36 := good0 (F_k36_eq _) ic_k36
noncomputable def E_k38 : FnE := fE0 F_k38
theorem G_k38 (sp : List Nat) : Good (pg sp) N_k38 E_k38 := good0 (F_k38_eq _) ic_k38
noncomputable def E_k39 : FnE := fE2 F_k39
theorem G_k39 (sp : List Nat) : Good (pg sp) N_k39 E_k39 := good2 (F_k39_eq _) ic_k39
noncomputable def E_k40 : FnE := fE2 F_k40
theorem G_k40 (sp : List Nat) : Good (pg sp) N_k40 E_k40 := good2 (F_k40_eq _) ic_k40
noncomputable def E_k41 : FnE := fE2 F_k41
theorem G_k41 (sp : List Nat) : Good (pg sp) N_k41 E_k41 := good2 (F_k41_eq _) ic_k41
noncomputable def E_k42 : FnE := fE3 F_k42
theorem G_k42 (sp : List Nat) : Good (pg sp) N_k42 E_k42 := good3 (F_k42_eq _) ic_k42
noncomputable def E_k43 : FnE := fE2 F_k43
theorem G_k43 (sp : List Nat) : Good (pg sp) N_k43 E_k43 := good2 (F_k43_eq _) ic_k43
noncomputable def E_k45 : FnE := fE4 F_k45
theorem G_k45 (sp : List Nat) : Good (pg sp) N_k45 E_k45 := good4 (F_k45_eq _) ic_k45
noncomputable def E_k48 : FnE := fE1 F_k48
theorem G_k48 (sp : List Nat) : Good (pg sp) N_k48 E_k48 := good1 (F_k48_eq _) ic_k48
noncomputable def E_k49 : FnE := fE2 F_k49
theorem G_k49 (sp : List Nat) : Good (pg sp) N_k49 E_k49 := good2 (F_k49_eq _) ic_k49
noncomputable def E_k50 : FnE := fE2 F_k50
theorem G_k50 (sp : List Nat) : Good (pg sp) N_k50 E_k50 := good2 (F_k50_eq _) ic_k50
noncomputable def E_k51 : FnE := fE1 F_k51
theorem G_k51 (sp : List Nat) : Good (pg sp) N_k51 E_k51 := good1 (F_k51_eq _) ic_k51
noncomputable def E_k52 : FnE := fE1 F_k52
theorem G_k52 (sp : List Nat) : Good (pg sp) N_k52 E_k52 := good1 (F_k52_eq _) ic_k52
noncomputable def E_k53 : FnE := fE1 F_k53
theorem G_k53 (sp : List Nat) : Good (pg sp) N_k53 E_k53 := good1 (F_k53_eq _) ic_k53
noncomputable def E_k54 : FnE := fE1 F_k54
theorem G_k54 (sp : List Nat) : Good (pg sp) N_k54 E_k54 := good1 (F_k54_eq _) ic_k54
noncomputable def E_k55 : FnE := fE3 F_k55
theorem G_k55 (sp : List Nat) : Good (pg sp) N_k55 E_k55 := good3 (F_k55_eq _) ic_k55
noncomputable def E_k56 : FnE := fE2 F_k56
theorem G_k56 (sp : List Nat) : Good (pg sp) N_k56 E_k56 := good2 (F_k56_eq _) ic_k56
noncomputable def E_k57 : FnE := fE2 F_k57
theorem G_k57 (sp : List Nat) : Good (pg sp) N_k57 E_k57 := good2 (F_k57_eq _) ic_k57
noncomputable def E_k58 : FnE := fE3 F_k58
theorem G_k58 (sp : List Nat) : Good (pg sp) N_k58 E_k58 := good3 (F_k58_eq _) ic_k58
noncomputable def E_k59 : FnE := fE2 F_k59
theorem G_k59 (sp : List Nat) : Good (pg sp) N_k59 E_k59 := good2 (F_k59_eq _) ic_k59
noncomputable def E_k60 : FnE := fE3 F_k60
theorem G_k60 (sp : List Nat) : Good (pg sp) N_k60 E_k60 := good3 (F_k60_eq _) ic_k60
noncomputable def E_k65 : FnE := fE1 F_k65
theorem G_k65 (sp : List Nat) : Good (pg sp) N_k65 E_k65 := good1 (F_k65_eq _) ic_k65
noncomputable def E_k66 : FnE := fE1 F_k66
theorem G_k66 (sp : List Nat) : Good (pg sp) N_k66 E_k66 := good1 (F_k66_eq _) ic_k66
noncomputable def E_k67 : FnE := fE2 F_k67
theorem G_k67 (sp : List Nat) : Good (pg sp) N_k67 E_k67 := good2 (F_k67_eq _) ic_k67
noncomputable def E_k68 : FnE := fE2 F_k68
theorem G_k68 (sp : List Nat) : Good (pg sp) N_k68 E_k68 := good2 (F_k68_eq _) ic_k68
noncomputable def E_k69 : FnE := fE0 F_k69
theorem G_k69 (sp : List Nat) : Good (pg sp) N_k69 E_k69 := good0 (F_k69_eq _) ic_k69
noncomputable def E_k70 : FnE := fE2 F_k70
theorem G_k70 (sp : List Nat) : Good (pg sp) N_k70 E_k70 := good2 (F_k70_eq _) ic_k70
noncomputable def E_k71 : FnE := fE2 F_k71
theorem G_k71 (sp : List Nat) : Good (pg sp) N_k71 E_k71 := good2 (F_k71_eq _) ic_k71
noncomputable def E_k72 : FnE := fE0 F_k72
theorem G_k72 (sp : List Nat) : Good (pg sp) N_k72 E_k72 := good0 (F_k72_eq _) ic_k72
noncomputable def E_k73 : FnE := fE3 F_k73
theorem G_k73 (sp : List Nat) : Good (pg sp) N_k73 E_k73 := good3 (F_k73_eq _) ic_k73
noncomputable def E_k74 : FnE := fE2 F_k74
theorem G_k74 (sp : List Nat) : Good (pg sp) N_k74 E_k74 := good2 (F_k74_eq _) ic_k74
noncomputable def E_k75 : FnE := fE2 F_k75
theorem G_k75 (sp : List Nat) : Good (pg sp) N_k75 E_k75 := good2 (F_k75_eq _) ic_k75
noncomputable def E_k76 : FnE := fE1 F_k76
theorem G_k76 (sp : List Nat) : Good (pg sp) N_k76 E_k76 := good1 (F_k76_eq _) ic_k76
noncomputable def E_k77 : FnE := fE0 F_k77
theorem G_k77 (sp : List Nat) : Good (pg sp) N_k77 E_k77 := good0 (F_k77_eq _) ic_k77
noncomputable def E_k78 : FnE := fE1 F_k78
theorem G_k78 (sp : List Nat) : Good (pg sp) N_k78 E_k78 := good1 (F_k78_eq _) ic_k78
noncomputable def E_k79 : FnE := fE2 F_k79
theorem G_k79 (sp : List Nat) : Good (pg sp) N_k79 E_k79 := good2 (F_k79_eq _) ic_k79
noncomputable def E_k80 : FnE := fE1 F_k80
theorem G_k80 (sp : List Nat) : Good (pg sp) N_k80 E_k80 := good1 (F_k80_eq _) ic_k80
noncomputable def E_k81 : FnE := fE2 F_k81
theorem G_k81 (sp : List Nat) : Good (pg sp) N_k81 E_k81 := good2 (F_k81_eq _) ic_k81
noncomputable def E_k82 : FnE := fE2 F_k82
theorem G_k82 (sp : List Nat) : Good (pg sp) N_k82 E_k82 := good2 (F_k82_eq _) ic_k82
noncomputable def E_k83 : FnE := fE3 F_k83
theorem G_k83 (sp : List Nat) : Good (pg sp) N_k83 E_k83 := good3 (F_k83_eq _) ic_k83
noncomputable def E_k84 : FnE := fE2 F_k84
theorem G_k84 (sp : List Nat) : Good (pg sp) N_k84 E_k84 := good2 (F_k84_eq _) ic_k84
noncomputable def E_k85 : FnE := fE2 F_k85
theorem G_k85 (sp : List Nat) : Good (pg sp) N_k85 E_k85 := good2 (F_k85_eq _) ic_k85
noncomputable def E_k86 : FnE := fE2 F_k86
theorem G_k86 (sp : List Nat) : Good (pg sp) N_k86 E_k86 := good2 (F_k86_eq _) ic_k86
noncomputable def E_k87 : FnE := fE1 F_k87
theorem G_k87 (sp : List Nat) : Good (pg sp) N_k87 E_k87 := good1 (F_k87_eq _) ic_k87
noncomputable def E_k88 : FnE := fE2 F_k88
theorem G_k88 (sp : List Nat) : Good (pg sp) N_k88 E_k88 := good2 (F_k88_eq _) ic_k88
noncomputable def E_k89 : FnE := fE2 F_k89
theorem G_k89 (sp : List Nat) : Good (pg sp) N_k89 E_k89 := good2 (F_k89_eq _) ic_k89
noncomputable def E_k90 : FnE := fE1 F_k90
theorem G_k90 (sp : List Nat) : Good (pg sp) N_k90 E_k90 := good1 (F_k90_eq _) ic_k90
noncomputable def E_k91 : FnE := fE2 F_k91
theorem G_k91 (sp : List Nat) : Good (pg sp) N_k91 E_k91 := good2 (F_k91_eq _) ic_k91
noncomputable def E_k92 : FnE := fE2 F_k92
theorem G_k92 (sp : List Nat) : Good (pg sp) N_k92 E_k92 := good2 (F_k92_eq _) ic_k92
noncomputable def E_k93 : FnE := fE1 F_k93
theorem G_k93 (sp : List Nat) : Good (pg sp) N_k93 E_k93 := good1 (F_k93_eq _) ic_k93
noncomputable def E_k94 : FnE := fE2 F_k94
theorem G_k94 (sp : List Nat) : Good (pg sp) N_k94 E_k94 := good2 (F_k94_eq _) ic_k94
noncomputable def E_k95 : FnE := fE1 F_k95
theorem G_k95 (sp : List Nat) : Good (pg sp) N_k95 E_k95 := good1 (F_k95_eq _) ic_k95
noncomputable def E_k96 : FnE := fE1 F_k96
theorem G_k96 (sp : List Nat) : Good (pg sp) N_k96 E_k96 := good1 (F_k96_eq _) ic_k96
noncomputable def E_k97 : FnE := fE1 F_k97
theorem G_k97 (sp : List Nat) : Good (pg sp) N_k97 E_k97 := good1 (F_k97_eq _) ic_k97
noncomputable def E_k98 : FnE := fE2 F_k98
theorem G_k98 (sp : List Nat) : Good (pg sp) N_k98 E_k98 := good2 (F_k98_eq _) ic_k98
noncomputable def E_k99 : FnE := fE2 F_k99
theorem G_k99 (sp : List Nat) : Good (pg sp) N_k99 E_k99 := good2 (F_k99_eq _) ic_k99
noncomputable def E_k100 : FnE := fE2 F_k100
theorem G_k100 (sp : List Nat) : Good (pg sp) N_k100 E_k100 := good2 (F_k100_eq _) ic_k100
noncomputable def E_k101 : FnE := fE2 F_k101
theorem G_k101 (sp : List Nat) : Good (pg sp) N_k101 E_k101 := good2 (F_k101_eq _) ic_k101
noncomputable def E_k104 : FnE := fE2 F_k104
theorem G_k104 (sp : List Nat) : Good (pg sp) N_k104 E_k104 := good2 (F_k104_eq _) ic_k104
noncomputable def E_k105 : FnE := fE2 F_k105
theorem G_k105 (sp : List Nat) : Good (pg sp) N_k105 E_k105 := good2 (F_k105_eq _) ic_k105
noncomputable def E_k106 : FnE := fE1 F_k106
theorem G_k106 (sp : List Nat) : Good (pg sp) N_k106 E_k106 := good1 (F_k106_eq _) ic_k106
noncomputable def E_k107 : FnE := fE2 F_k107
theorem G_k107 (sp : List Nat) : Good (pg sp) N_k107 E_k107 := good2 (F_k107_eq _) ic_k107
noncomputable def E_k108 : FnE := fE2 F_k108
theorem G_k108 (sp : List Nat) : Good (pg sp) N_k108 E_k108 := good2 (F_k108_eq _) ic_k108
noncomputable def E_k109 : FnE := fE1 F_k109
theorem G_k109 (sp : List Nat) : Good (pg sp) N_k109 E_k109 := good1 (F_k109_eq _) ic_k109
noncomputable def E_k110 : FnE := fE2 F_k110
theorem G_k110 (sp : List Nat) : Good (pg sp) N_k110 E_k110 := good2 (F_k110_eq _) ic_k110
noncomputable def E_k111 : FnE := fE2 F_k111
theorem G_k111 (sp : List Nat) : Good (pg sp) N_k111 E_k111 := good2 (F_k111_eq _) ic_k111
noncomputable def E_k112 : FnE := fE3 F_k112
theorem G_k112 (sp : List Nat) : Good (pg sp) N_k112 E_k112 := good3 (F_k112_eq _) ic_k112
noncomputable def E_k113 : FnE := fE1 F_k113
theorem G_k113 (sp : List Nat) : Good (pg sp) N_k113 E_k113 := good1 (F_k113_eq _) ic_k113
noncomputable def E_k114 : FnE := fE1 F_k114
theorem G_k114 (sp : List Nat) : Good (pg sp) N_k114 E_k114 := good1 (F_k114_eq _) ic_k114
noncomputable def E_k115 : FnE := fE0 F_k115
theorem G_k115 (sp : List Nat) : Good (pg sp) N_k115 E_k115 := good0 (F_k115_eq _) ic_k115
noncomputable def E_k116 : FnE := fE2 F_k116
theorem G_k116 (sp : List Nat) : Good (pg sp) N_k116 E_k116 := good2 (F_k116_eq _) ic_k116
noncomputable def E_k117 : FnE := fE2 F_k117
theorem G_k117 (sp : List Nat) : Good (pg sp) N_k117 E_k117 := good2 (F_k117_eq _) ic_k117
noncomputable def E_k118 : FnE := fE1 F_k118
theorem G_k118 (sp : List Nat) : Good (pg sp) N_k118 E_k118 := good1 (F_k118_eq _) ic_k118
noncomputable def E_k119 : FnE := fE2 F_k119
theorem G_k119 (sp : List Nat) : Good (pg sp) N_k119 E_k119 := good2 (F_k119_eq _) ic_k119
noncomputable def E_k120 : FnE := fE1 F_k120
theorem G_k120 (sp : List Nat) : Good (pg sp) N_k120 E_k120 := good1 (F_k120_eq _) ic_k120
noncomputable def E_k121 : FnE := fE2 F_k121
theorem G_k121 (sp : List Nat) : Good (pg sp) N_k121 E_k121 := good2 (F_k121_eq _) ic_k121
noncomputable def E_k122 : FnE := fE2 F_k122
theorem G_k122 (sp : List Nat) : Good (pg sp) N_k122 E_k122 := good2 (F_k122_eq _) ic_k122
noncomputable def E_k123 : FnE := fE2 F_k123
theorem G_k123 (sp : List Nat) : Good (pg sp) N_k123 E_k123 := good2 (F_k123_eq _) ic_k123
noncomputable def E_k124 : FnE := fE2 F_k124
theorem G_k124 (sp : List Nat) : Good (pg sp) N_k124 E_k124 := good2 (F_k124_eq _) ic_k124
noncomputable def E_k125 : FnE := fE2 F_k125
theorem G_k125 (sp : List Nat) : Good (pg sp) N_k125 E_k125 := good2 (F_k125_eq _) ic_k125
noncomputable def E_k126 : FnE := fE1 F_k126
theorem G_k126 (sp : List Nat) : Good (pg sp) N_k126 E_k126 := good1 (F_k126_eq _) ic_k126
noncomputable def E_k127 : FnE := fE1 F_k127
theorem G_k127 (sp : List Nat) : Good (pg sp) N_k127 E_k127 := good1 (F_k127_eq _) ic_k127
noncomputable def E_k128 : FnE := fE2 F_k128
theorem G_k128 (sp : List Nat) : Good (pg sp) N_k128 E_k128 := good2 (F_k128_eq _) ic_k128
noncomputable def E_k129 : FnE := fE2 F_k129
theorem G_k129 (sp : List Nat) : Good (pg sp) N_k129 E_k129 := good2 (F_k129_eq _) ic_k129
noncomputable def E_k130 : FnE := fE2 F_k130
theorem G_k130 (sp : List Nat) : Good (pg sp) N_k130 E_k130 := good2 (F_k130_eq _) ic_k130
noncomputable def E_k131 : FnE := fE2 F_k131
theorem G_k131 (sp : List Nat) : Good (pg sp) N_k131 E_k131 := good2 (F_k131_eq _) ic_k131
noncomputable def E_k132 : FnE := fE1 F_k132
theorem G_k132 (sp : List Nat) : Good (pg sp) N_k132 E_k132 := good1 (F_k132_eq _) ic_k132
noncomputable def E_k133 : FnE := fE2 F_k133
theorem G_k133 (sp : List Nat) : Good (pg sp) N_k133 E_k133 := good2 (F_k133_eq _) ic_k133
noncomputable def E_k134 : FnE := fE2 F_k134
theorem G_k134 (sp : List Nat) : Good (pg sp) N_k134 E_k134 := good2 (F_k134_eq _) ic_k134
noncomputable def E_k135 : FnE := fE2 F_k135
theorem G_k135 (sp : List Nat) : Good (pg sp) N_k135 E_k135 := good2 (F_k135_eq _) ic_k135
noncomputable def E_k136 : FnE := fE2 F_k136
theorem G_k136 (sp : List Nat) : Good (pg sp) N_k136 E_k136 := good2 (F_k136_eq _) ic_k136
noncomputable def E_k137 : FnE := fE1 F_k137
theorem G_k137 (sp : List Nat) : Good (pg sp) N_k137 E_k137 := good1 (F_k137_eq _) ic_k137
noncomputable def E_k138 : FnE := fE2 F_k138
theorem G_k138 (sp : List Nat) : Good (pg sp) N_k138 E_k138 := good2 (F_k138_eq _) ic_k138
noncomputable def E_k139 : FnE := fE2 F_k139
theorem G_k139 (sp : List Nat) : Good (pg sp) N_k139 E_k139 := good2 (F_k139_eq _) ic_k139
noncomputable def E_k140 : FnE := fE5 F_k140
theorem G_k140 (sp : List Nat) : Good (pg sp) N_k140 E_k140 := good5 (F_k140_eq _) ic_k140
noncomputable def E_k141 : FnE := fE1 F_k141
theorem G_k141 (sp : List Nat) : Good (pg sp) N_k141 E_k141 := good1 (F_k141_eq _) ic_k141
noncomputable def E_k142 : FnE := fE4 F_k142
theorem G_k142 (sp : List Nat) : Good (pg sp) N_k142 E_k142 := good4 (F_k142_eq _) ic_k142
noncomputable def E_k143 : FnE := fE1 F_k143
theorem G_k143 (sp : List Nat) : Good (pg sp) N_k143 E_k143 := good1 (F_k143_eq _) ic_k143
noncomputable def E_k144 : FnE := fE1 F_k144
theorem G_k144 (sp : List Nat) : Good (pg sp) N_k144 E_k144 := good1 (F_k144_eq _) ic_k144
noncomputable def E_k145 : FnE := fE1 F_k145
theorem G_k145 (sp : List Nat) : Good (pg sp) N_k145 E_k145 := good1 (F_k145_eq _) ic_k145
noncomputable def E_k146 : FnE := fE2 F_k146
theorem G_k146 (sp : List Nat) : Good (pg sp) N_k146 E_k146 := good2 (F_k146_eq _) ic_k146
noncomputable def E_k147 : FnE := fE3 F_k147
theorem G_k147 (sp : List Nat) : Good (pg sp) N_k147 E_k147 := good3 (F_k147_eq _) ic_k147
noncomputable def E_k148 : FnE := fE2 F_k148
theorem G_k148 (sp : List Nat) : Good (pg sp) N_k148 E_k148 := good2 (F_k148_eq _) ic_k148
noncomputable def E_k149 : FnE := fE1 F_k149
theorem G_k149 (sp : List Nat) : Good (pg sp) N_k149 E_k149 := good1 (F_k149_eq _) ic_k149
noncomputable def E_k150 : FnE := fE1 F_k150
theorem G_k150 (sp : List Nat) : Good (pg sp) N_k150 E_k150 := good1 (F_k150_eq _) ic_k150
noncomputable def E_k151 : FnE := fE1 F_k151
theorem G_k151 (sp : List Nat) : Good (pg sp) N_k151 E_k151 := good1 (F_k151_eq _) ic_k151
noncomputable def E_k152 : FnE := fE2 F_k152
theorem G_k152 (sp : List Nat) : Good (pg sp) N_k152 E_k152 := good2 (F_k152_eq _) ic_k152
noncomputable def E_k153 : FnE := fE2 F_k153
theorem G_k153 (sp : List Nat) : Good (pg sp) N_k153 E_k153 := good2 (F_k153_eq _) ic_k153
noncomputable def E_k154 : FnE := fE2 F_k154
theorem G_k154 (sp : List Nat) : Good (pg sp) N_k154 E_k154 := good2 (F_k154_eq _) ic_k154
noncomputable def E_k155 : FnE := fE2 F_k155
theorem G_k155 (sp : List Nat) : Good (pg sp) N_k155 E_k155 := good2 (F_k155_eq _) ic_k155
noncomputable def E_k156 : FnE := fE1 F_k156
theorem G_k156 (sp : List Nat) : Good (pg sp) N_k156 E_k156 := good1 (F_k156_eq _) ic_k156
noncomputable def E_k157 : FnE := fE1 F_k157
theorem G_k157 (sp : List Nat) : Good (pg sp) N_k157 E_k157 := good1 (F_k157_eq _) ic_k157
noncomputable def E_k158 : FnE := fE1 F_k158
theorem G_k158 (sp : List Nat) : Good (pg sp) N_k158 E_k158 := good1 (F_k158_eq _) ic_k158
noncomputable def E_k159 : FnE := fE4 F_k159
theorem G_k159 (sp : List Nat) : Good (pg sp) N_k159 E_k159 := good4 (F_k159_eq _) ic_k159
noncomputable def E_k162 : FnE := fE4 F_k162
theorem G_k162 (sp : List Nat) : Good (pg sp) N_k162 E_k162 := good4 (F_k162_eq _) ic_k162
noncomputable def E_k164 : FnE := fE4 F_k164
theorem G_k164 (sp : List Nat) : Good (pg sp) N_k164 E_k164 := good4 (F_k164_eq _) ic_k164
noncomputable def E_k168 : FnE := fE1 F_k168
theorem G_k168 (sp : List Nat) : Good (pg sp) N_k168 E_k168 := good1 (F_k168_eq _) ic_k168
noncomputable def E_k169 : FnE := fE3 F_k169
theorem G_k169 (sp : List Nat) : Good (pg sp) N_k169 E_k169 := good3 (F_k169_eq _) ic_k169
noncomputable def E_k178 : FnE := fE1 F_k178
theorem G_k178 (sp : List Nat) : Good (pg sp) N_k178 E_k178 := good1 (F_k178_eq _) ic_k178
noncomputable def E_k179 : FnE := fE1 F_k179
theorem G_k179 (sp : List Nat) : Good (pg sp) N_k179 E_k179 := good1 (F_k179_eq _) ic_k179
noncomputable def E_k180 : FnE := fE1 F_k180
theorem G_k180 (sp : List Nat) : Good (pg sp) N_k180 E_k180 := good1 (F_k180_eq _) ic_k180
noncomputable def E_k181 : FnE := fE1 F_k181
theorem G_k181 (sp : List Nat) : Good (pg sp) N_k181 E_k181 := good1 (F_k181_eq _) ic_k181
noncomputable def E_k182 : FnE := fE1 F_k182
theorem G_k182 (sp : List Nat) : Good (pg sp) N_k182 E_k182 := good1 (F_k182_eq _) ic_k182
noncomputable def E_k183 : FnE := fE2 F_k183
theorem G_k183 (sp : List Nat) : Good (pg sp) N_k183 E_k183 := good2 (F_k183_eq _) ic_k183
noncomputable def E_k184 : FnE := fE2 F_k184
theorem G_k184 (sp : List Nat) : Good (pg sp) N_k184 E_k184 := good2 (F_k184_eq _) ic_k184
noncomputable def E_k186 : FnE := fE3 F_k186
theorem G_k186 (sp : List Nat) : Good (pg sp) N_k186 E_k186 := good3 (F_k186_eq _) ic_k186
noncomputable def E_k187 : FnE := fE2 F_k187
theorem G_k187 (sp : List Nat) : Good (pg sp) N_k187 E_k187 := good2 (F_k187_eq _) ic_k187
noncomputable def E_k188 : FnE := fE2 F_k188
theorem G_k188 (sp : List Nat) : Good (pg sp) N_k188 E_k188 := good2 (F_k188_eq _) ic_k188
noncomputable def E_k192 : FnE := fE4 F_k192
theorem G_k192 (sp : List Nat) : Good (pg sp) N_k192 E_k192 := good4 (F_k192_eq _) ic_k192
noncomputable def E_k193 : FnE := fE6 F_k193
theorem G_k193 (sp : List Nat) : Good (pg sp) N_k193 E_k193 := good6 (F_k193_eq _) ic_k193
noncomputable def E_k197 : FnE := fE1 F_k197
theorem G_k197 (sp : List Nat) : Good (pg sp) N_k197 E_k197 := good1 (F_k197_eq _) ic_k197
noncomputable def E_k198 : FnE := fE2 F_k198
theorem G_k198 (sp : List Nat) : Good (pg sp) N_k198 E_k198 := good2 (F_k198_eq _) ic_k198
noncomputable def E_k199 : FnE := fE3 F_k199
theorem G_k199 (sp : List Nat) : Good (pg sp) N_k199 E_k199 := good3 (F_k199_eq _) ic_k199
noncomputable def E_k200 : FnE := fE3 F_k200
theorem G_k200 (sp : List Nat) : Good (pg sp) N_k200 E_k200 := good3 (F_k200_eq _) ic_k200
noncomputable def E_k203 : FnE := fE5 F_k203
theorem G_k203 (sp : List Nat) : Good (pg sp) N_k203 E_k203 := good5 (F_k203_eq _) ic_k203
noncomputable def E_k205 : FnE := fun _ _ args h => ext "internal/bytealg.abigen_runtime_cmpstring" args h
theorem G_k205 (sp : List Nat) : Good (pg sp) N_k205 E_k205 := fun hsp _ _ args h r _ _ hh => ic_ext (fn := Tryz.f205) hsp (by kernel_rfl) (by kernel_rfl) hh
noncomputable def evT_0 : Tr FnE := .n (some E_k127) .e .e
noncomputable def evT_1 : Tr FnE := .n none evT_0 .e
noncomputable def evT_2 : Tr FnE := .n (some E_k159) .e .e
noncomputable def evT_3 : Tr FnE := .n (some E_k95) evT_2 .e
noncomputable def evT_4 : Tr FnE := .n (some E_k31) evT_1 evT_3
noncomputable def evT_5 : Tr FnE := .n (some E_k143) .e .e
noncomputable def evT_6 : Tr FnE := .n (some E_k79) evT_5 .e
noncomputable def evT_7 : Tr FnE := .n (some E_k111) .e .e
noncomputable def evT_8 : Tr FnE := .n none evT_6 evT_7
noncomputable def evT_9 : Tr FnE := .n (some E_k15) evT_4 evT_8
noncomputable def evT_10 : Tr FnE := .n (some E_k135) .e .e
noncomputable def evT_11 : Tr FnE := .n (some E_k199) .e .e
noncomputable def evT_12 : Tr FnE := .n (some E_k71) evT_10 evT_11
noncomputable def evT_13 : Tr FnE := .n (some E_k39) evT_12 .e
noncomputable def evT_14 : Tr FnE := .n (some E_k151) .e .e
noncomputable def evT_15 : Tr FnE := .n (some E_k87) evT_14 .e
noncomputable def evT_16 : Tr FnE := .n (some E_k183) .e .e
noncomputable def evT_17 : Tr FnE := .n (some E_k119) evT_16 .e
noncomputable def evT_18 : Tr FnE := .n (some E_k55) evT_15 evT_17
noncomputable def evT_19 : Tr FnE := .n (some E_k23) evT_13 evT_18
noncomputable def evT_20 : Tr FnE := .n (some E_k7) evT_9 evT_19
noncomputable def evT_21 : Tr FnE := .n (some E_k131) .e .e
noncomputable def evT_22 : Tr FnE := .n (some E_k67) evT_21 .e
noncomputable def evT_23 : Tr FnE := .n (some E_k99) .e .e
noncomputable def evT_24 : Tr FnE := .n (some E_k35) evT_22 evT_23
noncomputable def evT_25 : Tr FnE := .n (some E_k147) .e .e
noncomputable def evT_26 : Tr FnE := .n (some E_k83) evT_25 .e
noncomputable def evT_27 : Tr FnE := .n (some E_k179) .e .e
noncomputable def evT_28 : Tr FnE := .n (some E_k115) evT_27 .e
noncomputable def evT_29 : Tr FnE := .n (some E_k51) evT_26 evT_28
noncomputable def evT_30 : Tr FnE := .n none evT_24 evT_29
noncomputable def evT_31 : Tr FnE := .n (some E_k139) .e .e
noncomputable def evT_32 : Tr FnE := .n (some E_k203) .e .e
noncomputable def evT_33 : Tr FnE := .n (some E_k75) evT_31 evT_32
noncomputable def evT_34 : Tr FnE := .n (some E_k107) .e .e
noncomputable def evT_35 : Tr FnE := .n (some E_k43) evT_33 evT_34
noncomputable def evT_36 : Tr FnE := .n (some E_k155) .e .e
noncomputable def evT_37 : Tr FnE := .n (some E_k91) evT_36 .e
noncomputable def evT_38 : Tr FnE := .n (some E_k187) .e .e
noncomputable def evT_39 : Tr FnE := .n (some E_k123) evT_38 .e
noncomputable def evT_40 : Tr FnE := .n (some E_k59) evT_37 evT_39
noncomputable def evT_41 : Tr FnE := .n (some E_k27) evT_35 evT_40
noncomputable def evT_42 : Tr FnE := .n none evT_30 evT_41
noncomputable def evT_43 : Tr FnE := .n none evT_20 evT_42
noncomputable def evT_44 : Tr FnE := .n (some E_k129) .e .e
noncomputable def evT_45 : Tr FnE := .n (some E_k193) .e .e
noncomputable def evT_46 : Tr FnE := .n (some E_k65) evT_44 evT_45
noncomputable def evT_47 : Tr FnE := .n (some E_k97) .e .e
noncomputable def evT_48 : Tr FnE := .n (some E_k33) evT_46 evT_47
noncomputable def evT_49 : Tr FnE := .n (some E_k145) .e .e
noncomputable def evT_50 : Tr FnE := .n (some E_k81) evT_49 .e
noncomputable def evT_51 : Tr FnE := .n (some E_k113) .e .e
noncomputable def evT_52 : Tr FnE := .n (some E_k49) evT_50 evT_51
noncomputable def evT_53 : Tr FnE := .n none evT_48 evT_52
noncomputable def evT_54 : Tr FnE := .n (some E_k137) .e .e
noncomputable def evT_55 : Tr FnE := .n (some E_k73) evT_54 .e
noncomputable def evT_56 : Tr FnE := .n (some E_k169) .e .e
noncomputable def evT_57 : Tr FnE := .n (some E_k105) evT_56 .e
noncomputable def evT_58 : Tr FnE := .n (some E_k41) evT_55 evT_57
noncomputable def evT_59 : Tr FnE := .n (some E_k153) .e .e
noncomputable def evT_60 : Tr FnE := .n (some E_k89) evT_59 .e
noncomputable def evT_61 : Tr FnE := .n (some E_k121) .e .e
noncomputable def evT_62 : Tr FnE := .n (some E_k57) evT_60 evT_61
noncomputable def evT_63 : Tr FnE := .n (some E_k25) evT_58 evT_62
noncomputable def evT_64 : Tr FnE := .n (some E_k9) evT_53 evT_63
noncomputable def evT_65 : Tr FnE := .n (some E_k133) .e .e
noncomputable def evT_66 : Tr FnE := .n (some E_k197) .e .e
noncomputable def evT_67 : Tr FnE := .n (some E_k69) evT_65 evT_66
noncomputable def evT_68 : Tr FnE := .n (some E_k101) .e .e
noncomputable def evT_69 : Tr FnE := .n none evT_67 evT_68
noncomputable def evT_70 : Tr FnE := .n (some E_k149) .e .e
noncomputable def evT_71 : Tr FnE := .n (some E_k85) evT_70 .e
noncomputable def evT_72 : Tr FnE := .n (some E_k181) .e .e
noncomputable def evT_73 : Tr FnE := .n (some E_k117) evT_72 .e
noncomputable def evT_74 : Tr FnE := .n (some E_k53) evT_71 evT_73
noncomputable def evT_75 : Tr FnE := .n none evT_69 evT_74
noncomputable def evT_76 : Tr FnE := .n (some E_k141) .e .e
noncomputable def evT_77 : Tr FnE := .n (some E_k205) .e .e
noncomputable def evT_78 : Tr FnE := .n (some E_k77) evT_76 evT_77
noncomputable def evT_79 : Tr FnE := .n (some E_k109) .e .e
noncomputable def evT_80 : Tr FnE := .n (some E_k45) evT_78 evT_79
noncomputable def evT_81 : Tr FnE := .n (some E_k157) .e .e
noncomputable def evT_82 : Tr FnE := .n (some E_k93) evT_81 .e
noncomputable def evT_83 : Tr FnE := .n (some E_k125) .e .e
noncomputable def evT_84 : Tr FnE := .n none evT_82 evT_83
noncomputable def evT_85 : Tr FnE := .n (some E_k29) evT_80 evT_84
noncomputable def evT_86 : Tr FnE := .n none evT_75 evT_85
noncomputable def evT_87 : Tr FnE := .n none evT_64 evT_86
noncomputable def evT_88 : Tr FnE := .n none evT_43 evT_87
noncomputable def evT_89 : Tr FnE := .n (some E_k128) .e .e
noncomputable def evT_90 : Tr FnE := .n (some E_k192) .e .e
noncomputable def evT_91 : Tr FnE := .n none evT_89 evT_90
noncomputable def evT_92 : Tr FnE := .n (some E_k96) .e .e
noncomputable def evT_93 : Tr FnE := .n (some E_k32) evT_91 evT_92
noncomputable def evT_94 : Tr FnE := .n (some E_k144) .e .e
noncomputable def evT_95 : Tr FnE := .n (some E_k80) evT_94 .e
noncomputable def evT_96 : Tr FnE := .n (some E_k112) .e .e
noncomputable def evT_97 : Tr FnE := .n (some E_k48) evT_95 evT_96
noncomputable def evT_98 : Tr FnE := .n (some E_k16) evT_93 evT_97
noncomputable def evT_99 : Tr FnE := .n (some E_k136) .e .e
noncomputable def evT_100 : Tr FnE := .n (some E_k200) .e .e
noncomputable def evT_101 : Tr FnE := .n (some E_k72) evT_99 evT_100
noncomputable def evT_102 : Tr FnE := .n (some E_k168) .e .e
noncomputable def evT_103 : Tr FnE := .n (some E_k104) evT_102 .e
noncomputable def evT_104 : Tr FnE := .n (some E_k40) evT_101 evT_103
noncomputable def evT_105 : Tr FnE := .n (some E_k152) .e .e
noncomputable def evT_106 : Tr FnE := .n (some E_k88) evT_105 .e
noncomputable def evT_107 : Tr FnE := .n (some E_k184) .e .e
noncomputable def evT_108 : Tr FnE := .n (some E_k120) evT_107 .e
noncomputable def evT_109 : Tr FnE := .n (some E_k56) evT_106 evT_108
noncomputable def evT_110 : Tr FnE := .n (some E_k24) evT_104 evT_109
noncomputable def evT_111 : Tr FnE := .n none evT_98 evT_110
noncomputable def evT_112 : Tr FnE := .n (some E_k132) .e .e
noncomputable def evT_113 : Tr FnE := .n (some E_k68) evT_112 .e
noncomputable def evT_114 : Tr FnE := .n (some E_k164) .e .e
noncomputable def evT_115 : Tr FnE := .n (some E_k100) evT_114 .e
noncomputable def evT_116 : Tr FnE := .n (some E_k36) evT_113 evT_115
noncomputable def evT_117 : Tr FnE := .n (some E_k148) .e .e
noncomputable def evT_118 : Tr FnE := .n (some E_k84) evT_117 .e
noncomputable def evT_119 : Tr FnE := .n (some E_k180) .e .e
noncomputable def evT_120 : Tr FnE := .n (some E_k116) evT_119 .e
noncomputable def evT_121 : Tr FnE := .n (some E_k52) evT_118 evT_120
noncomputable def evT_122 : Tr FnE := .n none evT_116 evT_121
noncomputable def evT_123 : Tr FnE := .n (some E_k140) .e .e
noncomputable def evT_124 : Tr FnE := .n (some E_k76) evT_123 .e
noncomputable def evT_125 : Tr FnE := .n (some E_k108) .e .e
noncomputable def evT_126 : Tr FnE := .n none evT_124 evT_125
noncomputable def evT_127 : Tr FnE := .n (some E_k156) .e .e
noncomputable def evT_128 : Tr FnE := .n (some E_k92) evT_127 .e
noncomputable def evT_129 : Tr FnE := .n (some E_k188) .e .e
noncomputable def evT_130 : Tr FnE := .n (some E_k124) evT_129 .e
noncomputable def evT_131 : Tr FnE := .n (some E_k60) evT_128 evT_130
noncomputable def evT_132 : Tr FnE := .n (some E_k28) evT_126 evT_131
noncomputable def evT_133 : Tr FnE := .n (some E_k12) evT_122 evT_132
noncomputable def evT_134 : Tr FnE := .n none evT_111 evT_133
noncomputable def evT_135 : Tr FnE := .n (some E_k130) .e .e
noncomputable def evT_136 : Tr FnE := .n (some E_k66) evT_135 .e
noncomputable def evT_137 : Tr FnE := .n (some E_k162) .e .e
noncomputable def evT_138 : Tr FnE := .n (some E_k98) evT_137 .e
noncomputable def evT_139 : Tr FnE := .n (some E_k34) evT_136 evT_138
noncomputable def evT_140 : Tr FnE := .n (some E_k146) .e .e
noncomputable def evT_141 : Tr FnE := .n (some E_k82) evT_140 .e
noncomputable def evT_142 : Tr FnE := .n (some E_k178) .e .e
noncomputable def evT_143 : Tr FnE := .n (some E_k114) evT_142 .e
noncomputable def evT_144 : Tr FnE := .n (some E_k50) evT_141 evT_143
noncomputable def evT_145 : Tr FnE := .n (some E_k18) evT_139 evT_144
noncomputable def evT_146 : Tr FnE := .n (some E_k138) .e .e
noncomputable def evT_147 : Tr FnE := .n (some E_k74) evT_146 .e
noncomputable def evT_148 : Tr FnE := .n (some E_k106) .e .e
noncomputable def evT_149 : Tr FnE := .n (some E_k42) evT_147 evT_148
noncomputable def evT_150 : Tr FnE := .n (some E_k154) .e .e
noncomputable def evT_151 : Tr FnE := .n (some E_k90) evT_150 .e
noncomputable def evT_152 : Tr FnE := .n (some E_k186) .e .e
noncomputable def evT_153 : Tr FnE := .n (some E_k122) evT_152 .e
noncomputable def evT_154 : Tr FnE := .n (some E_k58) evT_151 evT_153
noncomputable def evT_155 : Tr FnE := .n (some E_k26) evT_149 evT_154
noncomputable def evT_156 : Tr FnE := .n none evT_145 evT_155
noncomputable def evT_157 : Tr FnE := .n (some E_k134) .e .e
noncomputable def evT_158 : Tr FnE := .n (some E_k198) .e .e
noncomputable def evT_159 : Tr FnE := .n (some E_k70) evT_157 evT_158
noncomputable def evT_160 : Tr FnE := .n (some E_k38) evT_159 .e
noncomputable def evT_161 : Tr FnE := .n (some E_k150) .e .e
noncomputable def evT_162 : Tr FnE := .n (some E_k86) evT_161 .e
noncomputable def evT_163 : Tr FnE := .n (some E_k182) .e .e
noncomputable def evT_164 : Tr FnE := .n (some E_k118) evT_163 .e
noncomputable def evT_165 : Tr FnE := .n (some E_k54) evT_162 evT_164
noncomputable def evT_166 : Tr FnE := .n none evT_160 evT_165
noncomputable def evT_167 : Tr FnE := .n (some E_k142) .e .e
noncomputable def evT_168 : Tr FnE := .n (some E_k78) evT_167 .e
noncomputable def evT_169 : Tr FnE := .n (some E_k110) .e .e
noncomputable def evT_170 : Tr FnE := .n none evT_168 evT_169
noncomputable def evT_171 : Tr FnE := .n (some E_k158) .e .e
noncomputable def evT_172 : Tr FnE := .n (some E_k94) evT_171 .e
noncomputable def evT_173 : Tr FnE := .n (some E_k126) .e .e
noncomputable def evT_174 : Tr FnE := .n none evT_172 evT_173
noncomputable def evT_175 : Tr FnE := .n (some E_k30) evT_170 evT_174
noncomputable def evT_176 : Tr FnE := .n none evT_166 evT_175
noncomputable def evT_177 : Tr FnE := .n none evT_156 evT_176
noncomputable def evT_178 : Tr FnE := .n none evT_134 evT_177
noncomputable def evT_179 : Tr FnE := .n none evT_88 evT_178
noncomputable def evT : Tr FnE := evT_179
theorem evAll (sp : List Nat) : evT.All (Good (pg sp)) := (Tr.all_0 (Tr.all_0 (Tr.all_0 (Tr.all_n (G_k7 sp) (Tr.all_n (G_k15 sp) (Tr.all_n (G_k31 sp) (Tr.all_0 (Tr.all_n (G_k127 sp) Tr.all_e Tr.all_e) Tr.all_e) (Tr.all_n (G_k95 sp) (Tr.all_n (G_k159 sp) Tr.all_e Tr.all_e) Tr.all_e)) (Tr.all_0 (Tr.all_n (G_k79 sp) (Tr.all_n (G_k143 sp) Tr.all_e Tr.all_e) Tr.all_e) (Tr.all_n (G_k111 sp) Tr.all_e Tr.all_e))) (Tr.all_n (G_k23 sp) (Tr.all_n (G_k39 sp) (Tr.all_n (G_k71 sp) (Tr.all_n (G_k135 sp) Tr.all_e Tr.all_e) (Tr.all_n (G_k199 sp) Tr.all_e Tr.all_e)) Tr.all_e) (Tr.all_n (G_k55 sp) (Tr.all_n (G_k87 sp) (Tr.all_n (G_k151 sp) Tr.all_e Tr.all_e) Tr.all_e) (Tr.all_n (G_k119 sp) (Tr.all_n (G_k183 sp) Tr.all_e Tr.all_e) Tr.all_e)))) (Tr.all_0 (Tr.all_0 (Tr.all_n (G_k35 sp) (Tr.all_n (G_k67 sp) (Tr.all_n (G_k131 sp) Tr.all_e Tr.all_e) Tr.all_e) (Tr.all_n (G_k99 sp) Tr.all_e Tr.all_e)) (Tr.all_n (G_k51 sp) (Tr.all_n (G_k83 sp) (Tr.all_n (G_k147 sp) Tr.all_e Tr.all_e) Tr.all_e) (Tr.all_n (G_k115 sp) (Tr.all_n (G_k179 sp) Tr.all_e Tr.all_e) Tr.all_e))) (Tr.all_n (G_k27 sp) (Tr.all_n (G_k43 sp) (Tr.all_n (G_k75 sp) (Tr.all_n (G_k139 sp) Tr.all_e Tr.all_e) (Tr.all_n (G_k203 sp) Tr.all_e Tr.all_e)) (Tr.all_n (G_k107 sp) Tr.all_e Tr.all_e)) (Tr.all_n (G_k59 sp) (Tr.all_n (G_k91 sp) (Tr.all_n (G_k155 sp) Tr.all_e Tr.all_e) Tr.all_e) (Tr.all_n (G_k123 sp) (Tr.all_n (G_k187 sp) Tr.all_e Tr.all_e) Tr.all_e))))) (Tr.all_0 (Tr.all_n (G_k9 sp) (Tr.all_0 (Tr.all_n (G_k33 sp) (Tr.all_n (G_k65 sp) (Tr.all_n (G_k129 sp) Tr.all_e Tr.all_e) (Tr.all_n (G_k193 sp) Tr.all_e Tr.all_e)) (Tr.all_n (G_k97 sp) Tr.all_e Tr.all_e)) (Tr.all_n (G_k49 sp) (Tr.all_n (G_k81 sp) (Tr.all_n (G_k145 sp) Tr.all_e Tr.all_e) Tr.all_e) (Tr.all_n (G_k113 sp) Tr.all_e Tr.all_e))) (Tr.all_n (G_k25 sp) (Tr.all_n (G_k41 sp) (Tr.all_n (G_k73 sp) (Tr.all_n (G_k137 sp) Tr.all_e Tr.all_e) Tr.all_e) (Tr.all_n (G_k105 sp) (Tr.all_n (G_k169 sp) Tr.all_e Tr.all_e) Tr.all_e)) (Tr.all_n (G_k57 sp) (Tr.all_n (G_k89 sp) (Tr.all_n (G_k153 sp) Tr.all_e Tr.all_e) Tr.all_e) (Tr.all_n (G_k121 sp) Tr.all_e Tr.all_e)))) (Tr.all_0 (Tr.all_0 (Tr.all_0 (Tr.all_n (G_k69 sp) (Tr.all_n (G_k133 sp) Tr.all_e Tr.all_e) (Tr.all_n (G_k197 sp) Tr.all_e Tr.all_e)) (Tr.all_n (G_k101 sp) Tr.all_e Tr.all_e)) (Tr.all_n (G_k53 sp) (Tr.all_n (G_k85 sp) (Tr.all_n (G_k149 sp) Tr.all_e Tr.all_e) Tr.all_e) (Tr.all_n (G_k117 sp) (Tr.all_n (G_k181 sp) Tr.all_e Tr.all_e) Tr.all_e))) (Tr.all_n (G_k29 sp) (Tr.all_n (G_k45 sp) (Tr.all_n (G_k77 sp) (Tr.all_n (G_k141 sp) Tr.all_e Tr.all_e) (Tr.all_n (G_k205 sp) Tr.all_e Tr.all_e)) (Tr.all_n (G_k109 sp) Tr.all_e Tr.all_e)) (Tr.all_0 (Tr.all_n (G_k93 sp) (Tr.all_n (G_k157 sp) Tr.all_e Tr.all_e) Tr.all_e) (Tr.all_n (G_k125 sp) Tr.all_e Tr.all_e)))))) (Tr.all_0 (Tr.all_0 (Tr.all_0 (Tr.all_n (G_k16 sp) (Tr.all_n (G_k32 sp) (Tr.all_0 (Tr.all_n (G_k128 sp) Tr.all_e Tr.all_e) (Tr.all_n (G_k192 sp) Tr.all_e Tr.all_e)) (Tr.all_n (G_k96 sp) Tr.all_e Tr.all_e)) (Tr.all_n (G_k48 sp) (Tr.all_n (G_k80 sp) (Tr.all_n (G_k144 sp) Tr.all_e Tr.all_e) Tr.all_e) (Tr.all_n (G_k112 sp) Tr.all_e Tr.all_e))) (Tr.all_n (G_k24 sp) (Tr.all_n (G_k40 sp) (Tr.all_n (G_k72 sp) (Tr.all_n (G_k136 sp) Tr.all_e Tr.all_e) (Tr.all_n (G_k200 sp) Tr.all_e Tr.all_e)) (Tr.all_n (G_k104 sp) (Tr.all_n (G_k168 sp) Tr.all_e Tr.all_e) Tr.all_e)) (Tr.all_n (G_k56 sp) (Tr.all_n (G_k88 sp) (Tr.all_n (G_k152 sp) Tr.all_e Tr.all_e) Tr.all_e) (Tr.all_n (G_k120 sp) (Tr.all_n (G_k184 sp) Tr.all_e Tr.all_e) Tr.all_e)))) (Tr.all_n (G_k12 sp) (Tr.all_0 (Tr.all_n (G_k36 sp) (Tr.all_n (G_k68 sp) (Tr.all_n (G_k132 sp) Tr.all_e Tr.all_e) Tr.all_e) (Tr.all_n (G_k100 sp) (Tr.all_n (G_k164 sp) Tr.all_e Tr.all_e) Tr.all_e)) (Tr.all_n (G_k52 sp) (Tr.all_n (G_k84 sp) (Tr.all_n (G_k148 sp) Tr.all_e Tr.all_e) Tr.all_e) (Tr.all_n (G_k116 sp) (Tr.all_n (G_k180 sp) Tr.all_e Tr.all_e) Tr.all_e))) (Tr.all_n (G_k28 sp) (Tr.all_0 (Tr.all_n (G_k76 sp) (Tr.all_n (G_k140 sp) Tr.all_e Tr.all_e) Tr.all_e) (Tr.all_n (G_k108 sp) Tr.all_e Tr.all_e)) (Tr.all_n (G_k60 sp) (Tr.all_n (G_k92 sp) (Tr.all_n (G_k156 sp) Tr.all_e Tr.all_e) Tr.all_e) (Tr.all_n (G_k124 sp) (Tr.all_n (G_k188 sp) Tr.all_e Tr.all_e) Tr.all_e))))) (Tr.all_0 (Tr.all_0 (Tr.all_n (G_k18 sp) (Tr.all_n (G_k34 sp) (Tr.all_n (G_k66 sp) (Tr.all_n (G_k130 sp) Tr.all_e Tr.all_e) Tr.all_e) (Tr.all_n (G_k98 sp) (Tr.all_n (G_k162 sp) Tr.all_e Tr.all_e) Tr.all_e)) (Tr.all_n (G_k50 sp) (Tr.all_n (G_k82 sp) (Tr.all_n (G_k146 sp) Tr.all_e Tr.all_e) Tr.all_e) (Tr.all_n (G_k114 sp) (Tr.all_n (G_k178 sp) Tr.all_e Tr.all_e) Tr.all_e))) (Tr.all_n (G_k26 sp) (Tr.all_n (G_k42 sp) (Tr.all_n (G_k74 sp) (Tr.all_n (G_k138 sp) Tr.all_e Tr.all_e) Tr.all_e) (Tr.all_n (G_k106 sp) Tr.all_e Tr.all_e)) (Tr.all_n (G_k58 sp) (Tr.all_n (G_k90 sp) (Tr.all_n (G_k154 sp) Tr.all_e Tr.all_e) Tr.all_e) (Tr.all_n (G_k122 sp) (Tr.all_n (G_k186 sp) Tr.all_e Tr.all_e) Tr.all_e)))) (Tr.all_0 (Tr.all_0 (Tr.all_n (G_k38 sp) (Tr.all_n (G_k70 sp) (Tr.all_n (G_k134 sp) Tr.all_e Tr.all_e) (Tr.all_n (G_k198 sp) Tr.all_e Tr.all_e)) Tr.all_e) (Tr.all_n (G_k54 sp) (Tr.all_n (G_k86 sp) (Tr.all_n (G_k150 sp) Tr.all_e Tr.all_e) Tr.all_e) (Tr.all_n (G_k118 sp) (Tr.all_n (G_k182 sp) Tr.all_e Tr.all_e) Tr.all_e))) (Tr.all_n (G_k30 sp) (Tr.all_0 (Tr.all_n (G_k78 sp) (Tr.all_n (G_k142 sp) Tr.all_e Tr.all_e) Tr.all_e) (Tr.all_n (G_k110 sp) Tr.all_e Tr.all_e)) (Tr.all_0 (Tr.all_n (G_k94 sp) (Tr.all_n (G_k158 sp) Tr.all_e Tr.all_e) Tr.all_e) (Tr.all_n (G_k126 sp) Tr.all_e Tr.all_e)))))))
end Go.L1
