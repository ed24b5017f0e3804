/- Texts of a proof: no condition. -/
import Derived.Test.YtmhdgdehbkjhhaaGreatOneD
import Derived.Lib.Overlaps
set_option autoImplicit true
set_option relaxedAutoImplicit true
set_option linter.all false
set_option linter.unusedVariables false
set_option linter.unusedSimpArgs false
namespace Go.L1
open Go

def CLe (c c' : CallF) : Prop := ∀ t args h r,c t args h = some r → c' t args h = some r
def LLe (l l' : LoopF) : Prop := ∀ b b' : List Value → H → Option LOut,(∀ vs h o,b vs h = some o → b' vs h = some o) → ∀ vs h o,l b vs h = some o → l' b' vs h = some o

section
variable {p : Pg}
theorem callV_mono {c c' : CallF} (hc : CLe c c') {h : H} {f : Value} {args : List Value} {r : Value × H × List Nat} (hh : callV c h f args = some r) : callV c' h f args = some r := by
  unfold callV at hh ⊢
  split at hh
  · exact hc _ _ _ _ hh
  · split at hh
    · rename_i h1; rw [if_pos h1]; exact hc _ _ _ _ hh
    · cases hh
  · cases hh
theorem heavyV_mono {c c' : CallF} (hc : CLe c c') {T : Env} {h : H} {o : Op} {r : Value × H × List Nat} (hh : heavyV p c T h o = some r) : heavyV p c' T h o = some r := by
  unfold heavyV at hh ⊢
  split at hh
  · exact hh
  · exact hh
  · split at hh
    · exact hh
    · exact callV_mono hc hh
    · cases hh
  · cases hh
theorem opV_mono {c c' : CallF} (hc : CLe c c') {T : Env} {h : H} {o : Op} {r : Value × H × List Nat} (hh : opV p c T h o = some r) : opV p c' T h o = some r := by
  unfold opV at hh ⊢
  split at hh
  · exact hh
  · exact hh
  · exact heavyV_mono hc hh
theorem ops1_mono {c c' : CallF} (hc : CLe c c') {all : List Oper} : ∀ {l : List Oper} {T : Env} {h : H} {lg : List Nat} {r : Env × H × List Nat},ops1 p c all l T h lg = some r → ops1 p c' all l T h lg = some r
  | [],_,_,_,_,hh => hh
  | o :: l,T,h,lg,r,hh => by
    unfold ops1 at hh ⊢
    cases hw : wantedV all T o.guard with
    | none => rw [hw] at hh; cases hh
    | some b =>
      rw [hw] at hh
      cases b
      · exact ops1_mono hc hh
      · simp only at hh ⊢
        cases hv : opV p c T h o.op with
        | none => rw [hv] at hh; cases hh
        | some v => rw [hv] at hh; rw [opV_mono hc hv]; exact ops1_mono hc hh
theorem ops2_mono {c c' : CallF} (hc : CLe c c') {all : List Oper} : ∀ {l : List Oper} {T : Env} {h : H} {ms : List Mk} {r : Env × H × List Mk},ops2 p c all l T h ms = some r → ops2 p c' all l T h ms = some r
  | [],_,_,_,_,hh => hh
  | o :: l,T,h,ms,r,hh => by
    unfold ops2 at hh ⊢
    cases hw : wantedV all T o.guard with
    | none => rw [hw] at hh; cases hh
    | some b =>
      rw [hw] at hh
      cases b
      · exact ops2_mono hc hh
      · simp only at hh ⊢
        cases hv : opV p c T h o.op with
        | none => rw [hv] at hh; cases hh
        | some v => rw [hv] at hh; rw [opV_mono hc hv]; exact ops2_mono hc hh
theorem region_mono {c c' : CallF} (hc : CLe c c') {ops : Array Oper} {draw : Bool} {T : Env} {h : H} {o : Out} (hh : region p c ops draw T h = some o) : region p c' ops draw T h = some o := by
  unfold region at hh ⊢
  cases draw
  · simp only [cond_false] at hh ⊢
    cases hv : ops1 p c ops.toList ops.toList T h [] with
    | none => rw [hv] at hh; cases hh
    | some r => rw [hv] at hh; rw [ops1_mono hc hv]; exact hh
  · simp only [cond_true] at hh ⊢
    cases hv : ops2 p c ops.toList ops.toList T h [] with
    | none => rw [hv] at hh; cases hh
    | some r => rw [hv] at hh; rw [ops2_mono hc hv]; exact hh

theorem loopN_mono : ∀ {n m : Nat},n ≤ m → LLe (fun b => loopN b n) (fun b => loopN b m)
  | 0,_,_,_,_,_,_,_,_,hh => by cases hh
  | n + 1,0,h,_,_,_,_,_,_,_ => by omega
  | n + 1,m + 1,hnm,b,b',hb,vs,h,o,hh => by
    simp only [loopN] at hh ⊢
    cases hv : b vs h with
    | none => rw [hv] at hh; cases hh
    | some o1 =>
      rw [hv] at hh
      rw [hb _ _ _ hv]
      simp only at hh ⊢
      cases hx : o1.ex with
      | normal =>
        rw [hx] at hh
        simp only at hh ⊢
        cases hl : loopN b n o1.vs o1.h with
        | none => rw [hl] at hh; cases hh
        | some o2 => rw [hl] at hh; have h3 : loopN b' m o1.vs o1.h = some o2 := loopN_mono (n := n) (m := m) (by omega) b b' hb _ _ _ hl; rw [h3]; exact hh
      | exit id => rw [hx] at hh; exact hh
      | ret => rw [hx] at hh; exact hh

theorem code_mono {c c' : CallF} (hc : CLe c c') {lp lp' : LoopF} (hl : LLe lp lp') {fn : Nat} : ∀ (x : Code) {k : Nat} {T : Env} {h : H} {o : Out},code p c lp fn x k T h = some o → code p c' lp' fn x k T h = some o := by
  intro x
  induction x with
  | region id ops draw => intro k T h o hh; exact region_mono hc hh
  | seq a b iha ihb =>
    intro k T h o hh
    simp only [code] at hh ⊢
    cases h1 : code p c lp fn a (2 * k) T h with
    | none => rw [h1] at hh; cases hh
    | some o1 =>
      rw [h1] at hh
      rw [iha h1]
      simp only at hh ⊢
      cases hx : o1.ex with
      | normal =>
        rw [hx] at hh
        simp only at hh ⊢
        cases h2 : code p c lp fn b (2 * k + 1) o1.T o1.h with
        | none => rw [h2] at hh; cases hh
        | some o2 => rw [h2] at hh; rw [ihb h2]; exact hh
      | exit id => rw [hx] at hh; exact hh
      | ret => rw [hx] at hh; exact hh
  | cond t a b iha ihb =>
    intro k T h o hh
    simp only [code] at hh ⊢
    split at hh
    · rename_i t ht
      obtain ⟨o1,h1,rfl⟩ := Option.map_eq_some_iff.1 hh
      refine Option.map_eq_some_iff.2 ⟨o1,?_,rfl⟩
      cases t
      · exact ihb h1
      · exact iha h1
    · cases hh
  | block id b ih =>
    intro k T h o hh
    simp only [code] at hh ⊢
    cases h1 : code p c lp fn b (2 * k) T h with
    | none => rw [h1] at hh; cases hh
    | some o1 => rw [h1] at hh; rw [ih h1]; exact hh
  | loop b ih =>
    intro k T h o hh
    simp only [code] at hh ⊢
    split at hh
    · cases hh
    · rename_i ol hol
      rw [hl _ _ (fun vs h o hb => ?_) _ _ _ hol]
      · exact hh
      · split at hb
        · cases hb
        · rename_i o2 h2
          rw [ih h2]; exact hb
  | rangeFunc g ps asg body iha ihb =>
    intro k T h o hh
    simp only [code] at hh ⊢
    split at hh
    · split at hh
      · cases hh
      · rename_i v h1 lg hv
        rw [hc _ _ _ _ hv]
        exact hh
    · cases hh
  | skip => intro k T h o hh; exact hh
  | exit id => intro k T h o hh; exact hh
  | ret => intro k T h o hh; exact hh
  | _ => intro k T h o hh; cases hh

theorem funcV_mono {c c' : CallF} (hc : CLe c c') {lp lp' : LoopF} (hl : LLe lp lp') {f : Nat} {args : List Value} {h : H} {r : Value × H × List Nat} (hh : funcV p c lp f args h = some r) : funcV p c' lp' f args h = some r := by
  unfold funcV at hh ⊢
  split at hh
  · exact hh
  · split at hh
    · cases hh
    · split at hh
      · exact hh
      · split at hh
        · rename_i x _ hlen
          rw [if_pos hlen]
          cases h1 : code p c lp f x 3 (Env.args 0 args) h with
          | none => rw [h1] at hh; cases hh
          | some o => rw [h1] at hh; rw [code_mono hc hl _ h1]; exact hh
        · cases hh
theorem roundV_mono {c c' : CallF} (hc : CLe c c') {lp lp' : LoopF} (hl : LLe lp lp') {l : Nat} {args : List Value} {h : H} {r : Value × H × List Nat} (hh : roundV p c lp l args h = some r) : roundV p c' lp' l args h = some r := by
  unfold roundV at hh ⊢
  split at hh
  · split at hh
    · rename_i f T ps asg body hget hlen
      rw [if_pos hlen]
      cases h1 : code p c lp f asg 4 (T.sets ps args) h with
      | none => rw [h1] at hh; cases hh
      | some o =>
        rw [h1] at hh
        rw [code_mono hc hl _ h1]
        simp only at hh ⊢
        split at hh
        · rename_i hex
          rw [if_pos hex]
          split at hh
          · rename_i f2 T2 ps2 asg2 body2 hg2
            cases h2 : code p c lp f body 5 o.T (o.h.set l (.loop .busy none f2 T2 ps2 asg2 body2)) with
            | none => rw [h2] at hh; cases hh
            | some o2 => rw [h2] at hh; rw [code_mono hc hl _ h2]; exact hh
          · cases hh
        · cases hh
    · cases hh
  · cases hh

theorem icall_step : ∀ n,CLe (icall p n) (icall p (n + 1))
  | 0,t,_,_,_,hh => by cases t <;> cases hh
  | n + 1,.fn f,args,h,r,hh => funcV_mono (icall_step n) (loopN_mono (Nat.le_succ n)) hh
  | n + 1,.yield l,args,h,r,hh => roundV_mono (icall_step n) (loopN_mono (Nat.le_succ n)) hh
theorem icall_mono : ∀ {n m : Nat},n ≤ m → CLe (icall p n) (icall p m) := by
  intro n m h
  induction m with
  | zero => cases Nat.le_zero.1 h; exact fun _ _ _ _ h => h
  | succ m ih =>
    rcases Nat.lt_or_eq_of_le h with h1 | rfl
    · exact fun t a h r hh => icall_step m t a h r (ih (by omega) t a h r hh)
    · exact fun _ _ _ _ h => h

open Classical in
noncomputable def ic (p : Pg) : CallF := fun t args h => if hx : ∃ r n,icall p n t args h = some r then some (Classical.choose hx) else none
theorem ic_iff {t : Tgt} {args : List Value} {h : H} {r : Value × H × List Nat} : ic p t args h = some r ↔ ∃ n,icall p n t args h = some r := by
  unfold ic
  constructor
  · intro hh
    split at hh
    · rename_i hx
      cases hh
      exact Classical.choose_spec hx
    · cases hh
  · rintro ⟨n,hn⟩
    have hx : ∃ r n,icall p n t args h = some r := ⟨r,n,hn⟩
    rw [dif_pos hx]
    obtain ⟨m,hm⟩ := Classical.choose_spec hx
    have h1 := icall_mono (Nat.le_max_left n m) _ _ _ _ hn
    have h2 := icall_mono (Nat.le_max_right n m) _ _ _ _ hm
    rw [h1] at h2
    exact h2.symm
open Classical in
noncomputable def lw : LoopF := fun b vs h => if hx : ∃ r n,loopN b n vs h = some r then some (Classical.choose hx) else none
theorem lw_iff {b : List Value → H → Option LOut} {vs : List Value} {h : H} {r : LOut} : lw b vs h = some r ↔ ∃ n,loopN b n vs h = some r := by
  unfold lw
  constructor
  · intro hh
    split at hh
    · rename_i hx
      cases hh
      exact Classical.choose_spec hx
    · cases hh
  · rintro ⟨n,hn⟩
    have hx : ∃ r n,loopN b n vs h = some r := ⟨r,n,hn⟩
    rw [dif_pos hx]
    obtain ⟨m,hm⟩ := Classical.choose_spec hx
    have h1 := loopN_mono (Nat.le_max_left n m) b b (fun _ _ _ h => h) _ _ _ hn
    have h2 := loopN_mono (Nat.le_max_right n m) b b (fun _ _ _ h => h) _ _ _ hm
    simp only at h1 h2
    rw [h1] at h2
    exact h2.symm

theorem lw_next {b : List Value → H → Option LOut} {vs : List Value} {h : H} {o o2 : LOut} (h1 : b vs h = some o) (hx : o.ex = .normal) (h2 : lw b o.vs o.h = some o2) : lw b vs h = some { o2 with lg := o2.lg ++ o.lg } := by
  obtain ⟨n,hn⟩ := lw_iff.1 h2
  refine lw_iff.2 ⟨n + 1,?_⟩
  simp only [loopN,h1,hx,hn]
theorem lw_last {b : List Value → H → Option LOut} {vs : List Value} {h : H} {o : LOut} (h1 : b vs h = some o) (hx : o.ex ≠ .normal) : lw b vs h = some o := by
  refine lw_iff.2 ⟨1,?_⟩
  cases he : o.ex with
  | normal => exact absurd he hx
  | exit id => simp only [loopN,h1,he]
  | ret => simp only [loopN,h1,he]

abbrev LN (n : Nat) : LoopF := fun b => loopN b n
theorem callV_lim {h : H} {f : Value} {args : List Value} {r : Value × H × List Nat} (hh : callV (ic p) h f args = some r) : ∃ n,callV (icall p n) h f args = some r := by
  unfold callV at hh ⊢
  split at hh
  · exact ic_iff.1 hh
  · split at hh
    · rename_i h1
      obtain ⟨n,hn⟩ := ic_iff.1 hh
      exact ⟨n,by rw [if_pos h1]; exact hn⟩
    · cases hh
  · cases hh
theorem opV_lim {T : Env} {h : H} {o : Op} {r : Value × H × List Nat} (hh : opV p (ic p) T h o = some r) : ∃ n,opV p (icall p n) T h o = some r := by
  unfold opV at hh ⊢
  split at hh
  · exact ⟨0,hh⟩
  · exact ⟨0,hh⟩
  · unfold heavyV at hh ⊢
    split at hh
    · exact ⟨0,hh⟩
    · exact ⟨0,hh⟩
    · split at hh
      · exact ⟨0,hh⟩
      · exact callV_lim hh
      · cases hh
    · cases hh
theorem ops1_lim {all : List Oper} : ∀ {l : List Oper} {T : Env} {h : H} {lg : List Nat} {r : Env × H × List Nat},ops1 p (ic p) all l T h lg = some r → ∃ n,ops1 p (icall p n) all l T h lg = some r
  | [],_,_,_,_,hh => ⟨0,hh⟩
  | o :: l,T,h,lg,r,hh => by
    unfold ops1 at hh ⊢
    cases hw : wantedV all T o.guard with
    | none => rw [hw] at hh; cases hh
    | some b =>
      rw [hw] at hh
      cases b
      · exact ops1_lim hh
      · simp only at hh ⊢
        cases hv : opV p (ic p) T h o.op with
        | none => rw [hv] at hh; cases hh
        | some v =>
          rw [hv] at hh
          obtain ⟨n,hn⟩ := opV_lim hv
          obtain ⟨m,hm⟩ := ops1_lim hh
          refine ⟨max n m,?_⟩
          rw [opV_mono (icall_mono (Nat.le_max_left n m)) hn]
          exact ops1_mono (icall_mono (Nat.le_max_right n m)) hm
theorem ops2_lim {all : List Oper} : ∀ {l : List Oper} {T : Env} {h : H} {ms : List Mk} {r : Env × H × List Mk},ops2 p (ic p) all l T h ms = some r → ∃ n,ops2 p (icall p n) all l T h ms = some r
  | [],_,_,_,_,hh => ⟨0,hh⟩
  | o :: l,T,h,ms,r,hh => by
    unfold ops2 at hh ⊢
    cases hw : wantedV all T o.guard with
    | none => rw [hw] at hh; cases hh
    | some b =>
      rw [hw] at hh
      cases b
      · exact ops2_lim hh
      · simp only at hh ⊢
        cases hv : opV p (ic p) T h o.op with
        | none => rw [hv] at hh; cases hh
        | some v =>
          rw [hv] at hh
          obtain ⟨n,hn⟩ := opV_lim hv
          obtain ⟨m,hm⟩ := ops2_lim hh
          refine ⟨max n m,?_⟩
          rw [opV_mono (icall_mono (Nat.le_max_left n m)) hn]
          exact ops2_mono (icall_mono (Nat.le_max_right n m)) hm
theorem region_lim {ops : Array Oper} {draw : Bool} {T : Env} {h : H} {o : Out} (hh : region p (ic p) ops draw T h = some o) : ∃ n,region p (icall p n) ops draw T h = some o := by
  unfold region at hh ⊢
  cases draw
  · simp only [cond_false] at hh ⊢
    cases hv : ops1 p (ic p) ops.toList ops.toList T h [] with
    | none => rw [hv] at hh; cases hh
    | some r => rw [hv] at hh; obtain ⟨n,hn⟩ := ops1_lim hv; exact ⟨n,by rw [hn]; exact hh⟩
  · simp only [cond_true] at hh ⊢
    cases hv : ops2 p (ic p) ops.toList ops.toList T h [] with
    | none => rw [hv] at hh; cases hh
    | some r => rw [hv] at hh; obtain ⟨n,hn⟩ := ops2_lim hv; exact ⟨n,by rw [hn]; exact hh⟩

theorem cm {n m : Nat} (h : n ≤ m) {fn : Nat} {x : Code} {k : Nat} {T : Env} {hp : H} {o : Out} (hh : code p (icall p n) (LN n) fn x k T hp = some o) : code p (icall p m) (LN m) fn x k T hp = some o :=
  code_mono (icall_mono h) (loopN_mono h) x hh

theorem code_lim {fn : Nat} : ∀ (x : Code) {k : Nat} {T : Env} {h : H} {o : Out},code p (ic p) lw fn x k T h = some o → ∃ n,code p (icall p n) (LN n) fn x k T h = some o := by
  intro x
  induction x with
  | region id ops draw =>
    intro k T h o hh
    obtain ⟨n,hn⟩ := region_lim hh
    exact ⟨n,hn⟩
  | seq a b iha ihb =>
    intro k T h o hh
    simp only [code] at hh
    cases h1 : code p (ic p) lw fn a (2 * k) T h with
    | none => rw [h1] at hh; cases hh
    | some o1 =>
      rw [h1] at hh
      obtain ⟨n,hn⟩ := iha h1
      simp only at hh
      cases hx : o1.ex with
      | normal =>
        rw [hx] at hh
        simp only at hh
        cases h2 : code p (ic p) lw fn b (2 * k + 1) o1.T o1.h with
        | none => rw [h2] at hh; cases hh
        | some o2 =>
          rw [h2] at hh
          obtain ⟨m,hm⟩ := ihb h2
          refine ⟨max n m,?_⟩
          simp only [code]
          rw [cm (Nat.le_max_left n m) hn]
          simp only [hx]
          rw [cm (Nat.le_max_right n m) hm]
          exact hh
      | exit id => rw [hx] at hh; exact ⟨n,by simp only [code]; rw [hn]; simp only [hx]; exact hh⟩
      | ret => rw [hx] at hh; exact ⟨n,by simp only [code]; rw [hn]; simp only [hx]; exact hh⟩
  | cond t a b iha ihb =>
    intro k T h o hh
    simp only [code] at hh ⊢
    split at hh
    · rename_i t ht
      obtain ⟨o1,h1,rfl⟩ := Option.map_eq_some_iff.1 hh
      cases t
      · obtain ⟨n,hn⟩ := ihb h1
        exact ⟨n,Option.map_eq_some_iff.2 ⟨o1,hn,rfl⟩⟩
      · obtain ⟨n,hn⟩ := iha h1
        exact ⟨n,Option.map_eq_some_iff.2 ⟨o1,hn,rfl⟩⟩
    · cases hh
  | block id b ih =>
    intro k T h o hh
    simp only [code] at hh
    cases h1 : code p (ic p) lw fn b (2 * k) T h with
    | none => rw [h1] at hh; cases hh
    | some o1 =>
      rw [h1] at hh
      obtain ⟨n,hn⟩ := ih h1
      exact ⟨n,by simp only [code]; rw [hn]; exact hh⟩
  | loop b ih =>
    intro k T h o hh
    simp only [code] at hh
    split at hh
    · cases hh
    · rename_i ol hol
      let body : CallF → LoopF → List Value → H → Option LOut := fun c lp vs h => match code p c lp fn b (2 * k) (Env.ofList (p.live fn k) vs) h with
        | none => none
        | some o => some ⟨o.ex,o.T.vals (p.live fn k),o.h,o.lg⟩
      have hbm : ∀ {n m : Nat},n ≤ m → ∀ vs h o,body (icall p n) (LN n) vs h = some o → body (icall p m) (LN m) vs h = some o := by
        intro n m hnm vs h o hb
        simp only [body] at hb ⊢
        split at hb
        · cases hb
        · rename_i o2 h2; rw [cm hnm h2]; exact hb
      obtain ⟨N,hN⟩ := lw_iff.1 hol
      have key : ∀ (N : Nat) {vs : List Value} {h : H} {o : LOut},loopN (body (ic p) lw) N vs h = some o → ∃ n,loopN (body (icall p n) (LN n)) n vs h = some o := by
        intro N
        induction N with
        | zero => intro vs h o hh; cases hh
        | succ N ihN =>
          intro vs h o hh
          simp only [loopN] at hh
          cases hb : body (ic p) lw vs h with
          | none => rw [hb] at hh; cases hh
          | some o1 =>
            rw [hb] at hh
            have : ∃ n,body (icall p n) (LN n) vs h = some o1 := by
              simp only [body] at hb ⊢
              split at hb
              · cases hb
              · rename_i o2 h2
                obtain ⟨n,hn⟩ := ih h2
                exact ⟨n,by rw [hn]; exact hb⟩
            obtain ⟨n,hn⟩ := this
            simp only at hh
            cases hx : o1.ex with
            | normal =>
              rw [hx] at hh
              simp only at hh
              cases hl : loopN (body (ic p) lw) N o1.vs o1.h with
              | none => rw [hl] at hh; cases hh
              | some o2 =>
                rw [hl] at hh
                obtain ⟨m,hm⟩ := ihN hl
                refine ⟨max n m + 1,?_⟩
                simp only [loopN]
                rw [hbm (by omega) _ _ _ hn]
                simp only [hx]
                have h3 : loopN (body (icall p (max n m + 1)) (LN (max n m + 1))) (max n m) o1.vs o1.h = some o2 := loopN_mono (Nat.le_max_right n m) _ _ (hbm (by omega)) _ _ _ hm
                rw [h3]
                exact hh
            | exit id =>
              rw [hx] at hh
              refine ⟨n + 1,?_⟩
              simp only [loopN]
              rw [hbm (by omega) _ _ _ hn]
              simp only [hx]
              exact hh
            | ret =>
              rw [hx] at hh
              refine ⟨n + 1,?_⟩
              simp only [loopN]
              rw [hbm (by omega) _ _ _ hn]
              simp only [hx]
              exact hh
      obtain ⟨n,hn⟩ := key N hN
      refine ⟨n,?_⟩
      simp only [code]
      have hn' : LN n (fun vs h => match code p (icall p n) (LN n) fn b (2 * k) (Env.ofList (p.live fn k) vs) h with
        | none => none
        | some o => some ⟨o.ex,o.T.vals (p.live fn k),o.h,o.lg⟩) (T.vals (p.live fn k)) h = some ol := hn
      split
      · rename_i heq
        have e := heq.symm.trans hn'
        cases e
      · rename_i o2 heq
        have e := heq.symm.trans hn'
        cases e
        exact hh
  | rangeFunc g ps asg body iha ihb =>
    intro k T h o hh
    simp only [code] at hh ⊢
    split at hh
    · split at hh
      · cases hh
      · rename_i v h1 lg hv
        obtain ⟨n,hn⟩ := ic_iff.1 hv
        exact ⟨n,by rw [hn]; exact hh⟩
    · cases hh
  | skip => intro k T h o hh; exact ⟨0,hh⟩
  | exit id => intro k T h o hh; exact ⟨0,hh⟩
  | ret => intro k T h o hh; exact ⟨0,hh⟩
  | _ => intro k T h o hh; cases hh

theorem ic_fn {f : Nat} {args : List Value} {h : H} {r : Value × H × List Nat} (hh : funcV p (ic p) lw f args h = some r) : ic p (.fn f) args h = some r := by
  refine ic_iff.2 ?_
  have : ∃ n,funcV p (icall p n) (LN n) f args h = some r := by
    unfold funcV at hh ⊢
    split at hh
    · exact ⟨0,hh⟩
    · split at hh
      · cases hh
      · split at hh
        · exact ⟨0,hh⟩
        · split at hh
          · rename_i x _ hlen
            cases h1 : code p (ic p) lw f x 3 (Env.args 0 args) h with
            | none => rw [h1] at hh; cases hh
            | some o =>
              rw [h1] at hh
              obtain ⟨n,hn⟩ := code_lim x h1
              exact ⟨n,by rw [if_pos hlen,hn]; exact hh⟩
          · cases hh
  obtain ⟨n,hn⟩ := this
  exact ⟨n + 1,hn⟩
end
end Go.L1


namespace Go.L1
open Go

section
variable {ρ : Type}
def ob {α : Type} (x : Option α) (f : α → Option ρ) : Option ρ :=
  match x with
  | none => none
  | some a => f a
theorem ob_some {α : Type} (a : α) (f : α → Option ρ) : ob (some a) f = f a := rfl
theorem ob_none {α : Type} (f : α → Option ρ) : ob none f = none := rfl
def jn {α β : Type} (K : α) (F : α → β) : β := F K
def fork (v : Value) (a b : Option ρ) : Option ρ :=
  match v with
  | .bool true => a
  | .bool false => b
  | _ => none
abbrev onEx {β : Type} (ex : Ex) (n : β) (e : Nat → β) (r : β) : β :=
  match ex with
  | .normal => n
  | .exit id => e id
  | .ret => r

abbrev KT (ρ : Type) := Ex → Env → H → List Nat → Option ρ
abbrev JT (ρ : Type) := List Value → H → List Nat → Option ρ

def al (x : Option (Value × IObj)) (h : H) (f : Value → H → Option ρ) : Option ρ :=
  match x with
  | none => none
  | some q => f q.1 (h.push q.2)
def hv (x : Option (Value × H × List Nat)) (f : Value → H → List Nat → Option ρ) : Option ρ :=
  match x with
  | none => none
  | some r => f r.1 r.2.1 r.2.2
def pureK (p : Pg) (T : Env) (C : Cont) (o : Op) (f : Value → Option ρ) : Option ρ :=
  match o with
  | .move x => f (eval T x)
  | .assign x => f (eval T x)
  | o => ob (pureV p T C o) f
theorem pureK_eq (p : Pg) (T : Env) (C : Cont) (o : Op) (f : Value → Option ρ) : pureK p T C o f = ob (pureV p T C o) f := by
  cases o <;> rfl

def gV (w : Option Bool) (x : Option (Value × H × List Nat)) (h : H) : Option (Value × H × List Nat) :=
  match w with
  | none => none
  | some true => x
  | some false => some (ud,h,[])

def gP (w : Option Bool) (x : Option Value) (f : Value → Option ρ) : Option ρ :=
  match w with
  | none => none
  | some true => ob x f
  | some false => f ud

def opsK (p : Pg) (call : CallF) (all : List Oper) : List Oper → Env → H → List Nat → (Env → H → List Nat → Option ρ) → Option ρ
  | [],T,h,lg,K => K T h lg
  | o :: rest,T,h,lg,K =>
    match o.guard with
    | none =>
      match kindOf o.op with
      | .pure => pureK p T h.get o.op fun v => opsK p call all rest (putT T o.dst v) h lg K
      | .alloc => al (allocV p T h.n o.op) h fun v h => opsK p call all rest (putT T o.dst v) h lg K
      | .heavy => hv (heavyV p call T h o.op) fun v h l => opsK p call all rest (putT T o.dst v) h (l ++ lg) K
    | some g =>
      match kindOf o.op with
      | .pure => gP (wantedV all T (some g)) (pureV p T h.get o.op) fun v => opsK p call all rest (putT T o.dst v) h lg K
      | _ => hv (gV (wantedV all T (some g)) (opV p call T h o.op) h) fun v h l => opsK p call all rest (putT T o.dst v) h (l ++ lg) K

def markOf (w : Option Bool) (T : Env) (h h1 : H) (o : Op) (l1 : List Nat) : Mk :=
  match w with
  | some true => ⟨kindOf o,readsOf T o,l1,h.n,h1.n⟩
  | _ => ⟨.pure,[],[],h.n,h.n⟩
def opsD (p : Pg) (call : CallF) (all : List Oper) : List Oper → Env → H → List Mk → (Env → H → List Mk → Option ρ) → Option ρ
  | [],T,h,ms,K => K T h ms
  | o :: rest,T,h,ms,K =>
    match o.guard with
    | none =>
      match kindOf o.op with
      | .pure => pureK p T h.get o.op fun v => opsD p call all rest (putT T o.dst v) h (ms ++ [⟨.pure,readsOf T o.op,[],h.n,h.n⟩]) K
      | .alloc => al (allocV p T h.n o.op) h fun v h1 => opsD p call all rest (putT T o.dst v) h1 (ms ++ [⟨.alloc,readsOf T o.op,[],h.n,h.n + 1⟩]) K
      | .heavy => hv (heavyV p call T h o.op) fun v h1 l => opsD p call all rest (putT T o.dst v) h1 (ms ++ [⟨.heavy,readsOf T o.op,l,h.n,h1.n⟩]) K
    | some g =>
      match kindOf o.op with
      | .pure => gP (wantedV all T (some g)) (pureV p T h.get o.op) fun v => opsD p call all rest (putT T o.dst v) h (ms ++ [markOf (wantedV all T (some g)) T h h o.op []]) K
      | _ => hv (gV (wantedV all T (some g)) (opV p call T h o.op) h) fun v h1 l => opsD p call all rest (putT T o.dst v) h1 (ms ++ [markOf (wantedV all T (some g)) T h h1 o.op l]) K

def dr (bs : List Nat) (ms : List Mk) (f : List Nat → Option ρ) : Option ρ := bif (logOf ms).isEmpty || clashFree bs ms then f (logOf ms) else none

def rangeV (call : CallF) (fn : Nat) (T : Env) (h : H) (f : Value) (ps : Array Tmp) (asg body : Code) : Option (Ex × H × List Nat) :=
  match f with
  | .func (.func g) first cap =>
    match call (.fn g) (first.toList ++ [.func (.yield h.n) #[] #[]] ++ cap.toList) (h.push (.loop .ready none fn T ps.toList asg body)) with
    | none => none
    | some (_,h1,lg) =>
      match h1.get h.n with
      | some (.loop st pend _ _ _ _ _) =>
        if st = .busy then none else
        match jumpEx pend with
        | none => none
        | some ex => some (ex,h1.set h.n .dead,h.n :: lg)
      | _ => none
  | _ => none

def codeK (p : Pg) (call : CallF) (lp : LoopF) (fn : Nat) : {ρ : Type} → Code → Nat → Env → H → List Nat → KT ρ → Option ρ
  | _,.skip,_,T,h,lg,K => K .normal T h lg
  | _,.region _ ops draw,_,T,h,lg,K =>
    match draw with
    | false => opsK p call ops.toList ops.toList T h lg fun T h lg => K .normal T h lg
    | true => opsD p call ops.toList ops.toList T h [] fun T h ms =>
      dr (befores [] ops.toList) ms fun l => K .normal T h (l ++ lg)
  | _,.seq a b,k,T,h,lg,K =>
    codeK p call lp fn a (2 * k) T h lg fun ex T h lg => onEx ex (codeK p call lp fn b (2 * k + 1) T h lg K) (fun id => K (.exit id) T h lg) (K .ret T h lg)
  | _,.cond c a b,k,T,h,lg,K =>
    jn (fun vs h lg => K .normal (Env.ofList (p.live fn k) vs) h lg) fun j => fork (eval T c)
      (codeK p call lp fn a (2 * k) T h lg fun ex T h lg => onEx ex (j (T.vals (p.live fn k)) h lg) (fun id => K (.exit id) T h lg) (K .ret T h lg))
      (codeK p call lp fn b (2 * k + 1) T h lg fun ex T h lg => onEx ex (j (T.vals (p.live fn k)) h lg) (fun id => K (.exit id) T h lg) (K .ret T h lg))
  | _,.block id b,k,T,h,lg,K =>
    jn (fun vs h lg => K .normal (Env.ofList (p.live fn k) vs) h lg) fun j =>
      codeK p call lp fn b (2 * k) T h lg fun ex T h lg => onEx ex (j (T.vals (p.live fn k)) h lg) (fun id' => bif Nat.beq id' id then j (T.vals (p.live fn k)) h lg else K (.exit id') T h lg) (K .ret T h lg)
  | _,.loop b,k,T,h,lg,K =>
    ob (lp (fun vs h => codeK p call lp fn b (2 * k) (Env.ofList (p.live fn k) vs) h [] fun ex T h lg => some ⟨ex,T.vals (p.live fn k),h,lg⟩) (T.vals (p.live fn k)) h) fun o =>
      K o.ex (Env.ofList (p.live fn k) o.vs) o.h (o.lg ++ lg)
  | _,.exit id,_,T,h,lg,K => K (.exit id) T h lg
  | _,.ret,_,T,h,lg,K => K .ret T h lg
  | _,.rangeFunc f ps asg body,_,T,h,lg,K => ob (rangeV call fn T h (eval T f) ps asg body) fun r => K r.1 T r.2.1 (r.2.2 ++ lg)
  | _,_,_,_,_,_,_ => none

theorem gV_eq {p : Pg} {call : CallF} {T : Env} {h : H} {o : Oper} {w : Option Bool} {f : Value → H → List Nat → Option ρ} :
    hv (gV w (opV p call T h o.op) h) f = match w with
      | none => none
      | some false => f ud h []
      | some true => match opV p call T h o.op with
        | none => none
        | some r => f r.1 r.2.1 r.2.2 := by
  cases w with
  | none => rfl
  | some b => cases b <;> first | rfl | (simp only [gV,hv]; cases opV p call T h o.op <;> rfl)

theorem gP_eq {p : Pg} {call : CallF} {T : Env} {h : H} {o : Oper} {w : Option Bool} {f : Value → Option ρ} (hk : kindOf o.op = .pure) :
    gP w (pureV p T h.get o.op) f = match w with
      | none => none
      | some false => f ud
      | some true => match opV p call T h o.op with
        | none => none
        | some r => f r.1 := by
  cases w with
  | none => rfl
  | some b =>
    cases b
    · rfl
    · simp only [gP,opV,hk]
      cases pureV p T h.get o.op <;> rfl

theorem opsK_eq {p : Pg} {call : CallF} {all : List Oper} : ∀ (l : List Oper) (T : Env) (h : H) (lg : List Nat) (K : Env → H → List Nat → Option ρ),
    opsK p call all l T h lg K = match ops1 p call all l T h lg with
      | none => none
      | some (T,h,lg) => K T h lg
  | [],_,_,_,_ => rfl
  | o :: l,T,h,lg,K => by
    unfold opsK ops1
    cases hg : o.guard with
    | none =>
      simp only [wantedV]
      unfold opV
      cases hk : kindOf o.op with
      | pure =>
        simp only
        rw [pureK_eq]
        cases pureV p T h.get o.op with
        | none => rfl
        | some v => simp only [ob,Option.map_some,List.nil_append]; exact opsK_eq l _ _ _ _
      | alloc =>
        simp only
        cases allocV p T h.n o.op with
        | none => rfl
        | some v => simp only [al,Option.map_some,List.nil_append]; exact opsK_eq l _ _ _ _
      | heavy =>
        simp only
        cases heavyV p call T h o.op with
        | none => rfl
        | some v => simp only [hv]; exact opsK_eq l _ _ _ _
    | some g =>
      simp only
      have hv1 : hv (gV (wantedV all T (some g)) (opV p call T h o.op) h) (fun v h l1 => opsK p call all l (putT T o.dst v) h (l1 ++ lg) K) = match (match wantedV all T (some g) with
          | none => none
          | some false => ops1 p call all l (putT T o.dst ud) h lg
          | some true => match opV p call T h o.op with
            | none => none
            | some (v,h1,l1) => ops1 p call all l (putT T o.dst v) h1 (l1 ++ lg) : Option (Env × H × List Nat)) with
          | none => none
          | some (T,h,lg) => K T h lg := by
        rw [gV_eq]
        cases wantedV all T (some g) with
        | none => rfl
        | some b =>
          cases b
          · simp only [List.nil_append]; exact opsK_eq l _ _ _ _
          · simp only
            cases opV p call T h o.op with
            | none => rfl
            | some v => exact opsK_eq l _ _ _ _
      cases hk : kindOf o.op with
      | pure =>
        simp only
        rw [gP_eq (call := call) hk]
        cases wantedV all T (some g) with
        | none => rfl
        | some b =>
          cases b
          · simp only; exact opsK_eq l _ _ _ _
          · simp only
            unfold opV
            rw [hk]
            simp only
            cases pureV p T h.get o.op with
            | none => rfl
            | some v => simp only [Option.map_some,List.nil_append]; exact opsK_eq l _ _ _ _
      | alloc => exact hv1
      | heavy => exact hv1

theorem opsD_eq {p : Pg} {call : CallF} {all : List Oper} : ∀ (l : List Oper) (T : Env) (h : H) (ms : List Mk) (K : Env → H → List Mk → Option ρ),
    opsD p call all l T h ms K = match ops2 p call all l T h ms with
      | none => none
      | some (T,h,ms) => K T h ms
  | [],_,_,_,_ => rfl
  | o :: l,T,h,ms,K => by
    unfold opsD ops2
    cases hg : o.guard with
    | none =>
      simp only [wantedV]
      unfold opV
      cases hk : kindOf o.op with
      | pure =>
        simp only
        rw [pureK_eq]
        cases pureV p T h.get o.op with
        | none => rfl
        | some v => simp only [ob,Option.map_some]; exact opsD_eq l _ _ _ _
      | alloc =>
        simp only
        cases allocV p T h.n o.op with
        | none => rfl
        | some v => simp only [al,Option.map_some]; exact opsD_eq l _ _ _ _
      | heavy =>
        simp only
        cases heavyV p call T h o.op with
        | none => rfl
        | some v => simp only [hv]; exact opsD_eq l _ _ _ _
    | some g =>
      simp only
      have hv1 : hv (gV (wantedV all T (some g)) (opV p call T h o.op) h) (fun v h1 l1 => opsD p call all l (putT T o.dst v) h1 (ms ++ [markOf (wantedV all T (some g)) T h h1 o.op l1]) K) = match (match wantedV all T (some g) with
          | none => none
          | some false => ops2 p call all l (putT T o.dst ud) h (ms ++ [⟨.pure,[],[],h.n,h.n⟩])
          | some true => match opV p call T h o.op with
            | none => none
            | some (v,h1,l1) => ops2 p call all l (putT T o.dst v) h1 (ms ++ [⟨kindOf o.op,readsOf T o.op,l1,h.n,h1.n⟩]) : Option (Env × H × List Mk)) with
          | none => none
          | some (T,h,ms) => K T h ms := by
        rw [gV_eq]
        cases wantedV all T (some g) with
        | none => rfl
        | some b =>
          cases b
          · simp only [markOf]; exact opsD_eq l _ _ _ _
          · simp only
            cases opV p call T h o.op with
            | none => rfl
            | some v => simp only [markOf]; exact opsD_eq l _ _ _ _
      cases hk : kindOf o.op with
      | pure =>
        simp only
        rw [gP_eq (call := call) hk]
        cases wantedV all T (some g) with
        | none => rfl
        | some b =>
          cases b
          · simp only [markOf]; exact opsD_eq l _ _ _ _
          · simp only
            unfold opV
            rw [hk]
            simp only
            cases pureV p T h.get o.op with
            | none => rfl
            | some v => simp only [Option.map_some,markOf,hk]; exact opsD_eq l _ _ _ _
      | alloc => simp only [hk] at hv1; exact hv1
      | heavy => simp only [hk] at hv1; exact hv1

theorem codeK_eq {p : Pg} {call : CallF} {lp : LoopF} {fn : Nat} : ∀ (c : Code) {ρ : Type} (k : Nat) (T : Env) (h : H) (lg : List Nat) (K : KT ρ),
    codeK p call lp fn c k T h lg K = match code p call lp fn c k T h with
      | none => none
      | some o => K o.ex o.T o.h (o.lg ++ lg) := by
  intro c
  induction c with
  | skip => intro ρ k T h lg K; simp [codeK,code]
  | region id ops draw =>
    intro ρ k T h lg K
    cases draw
    · simp only [codeK,code,region,cond_false]
      rw [opsK_eq]
      have e : ∀ (l : List Oper) (T : Env) (h : H) (lg : List Nat),ops1 p call ops.toList l T h lg = match ops1 p call ops.toList l T h [] with
          | none => none
          | some (T,h,l1) => some (T,h,l1 ++ lg) := by
        intro l
        induction l with
        | nil => intro T h lg; simp [ops1]
        | cons o l ih =>
          intro T h lg
          unfold ops1
          cases wantedV ops.toList T o.guard with
          | none => rfl
          | some b =>
            cases b
            · exact ih _ _ _
            · simp only
              cases opV p call T h o.op with
              | none => rfl
              | some r =>
                simp only [List.append_nil]
                rw [ih _ _ (r.2.2 ++ lg),ih _ _ r.2.2]
                cases ops1 p call ops.toList l (putT T o.dst r.1) r.2.1 [] with
                | none => rfl
                | some q => simp
      rw [e]
      cases ops1 p call ops.toList ops.toList T h [] with
      | none => rfl
      | some r => rfl
    · simp only [codeK,code,region,cond_true]
      rw [opsD_eq]
      cases ops2 p call ops.toList ops.toList T h [] with
      | none => rfl
      | some r =>
        simp only [dr]
        cases hb : (logOf r.2.2).isEmpty || clashFree (befores [] ops.toList) r.2.2 <;> simp
  | seq a b iha ihb =>
    intro ρ k T h lg K
    simp only [codeK,code]
    rw [iha]
    cases code p call lp fn a (2 * k) T h with
    | none => rfl
    | some o =>
      simp only
      cases hx : o.ex with
      | normal =>
        simp only [onEx]
        rw [ihb]
        cases code p call lp fn b (2 * k + 1) o.T o.h with
        | none => rfl
        | some o2 => simp
      | exit id => simp only [onEx,hx]
      | ret => simp only [onEx,hx]
  | cond c a b iha ihb =>
    intro ρ k T h lg K
    have key : ∀ (x : Option Out),(match x with
        | none => none
        | some o => onEx o.ex (K .normal (Env.ofList (p.live fn k) (o.T.vals (p.live fn k))) o.h (o.lg ++ lg)) (fun id => K (.exit id) o.T o.h (o.lg ++ lg)) (K .ret o.T o.h (o.lg ++ lg))) =
        (match x.map (maskN (p.live fn k)) with
        | none => none
        | some o => K o.ex o.T o.h (o.lg ++ lg)) := by
      intro x
      cases x with
      | none => rfl
      | some o =>
        simp only [Option.map_some,maskN]
        cases hx : o.ex with
        | normal => simp [onEx,mask,mkOut,hx]
        | exit id => simp [onEx,hx]
        | ret => simp [onEx,hx]
    simp only [codeK,code,jn]
    cases eval T c with
    | bool t =>
      cases t
      · simp only [fork,cond_false]
        rw [ihb]; exact key _
      · simp only [fork,cond_true]
        rw [iha]; exact key _
    | _ => rfl
  | block id b ih =>
    intro ρ k T h lg K
    simp only [codeK,code,jn]
    rw [ih]
    cases code p call lp fn b (2 * k) T h with
    | none => rfl
    | some o =>
      simp only
      cases hx : o.ex with
      | normal => simp [onEx,mask,mkOut,hx]
      | ret => simp [onEx,hx]
      | exit id' =>
        simp only [onEx]
        by_cases e : id' = id
        · subst e; simp [mask,mkOut]
        · have : Nat.beq id' id = false := by rw [Bool.eq_false_iff]; intro hb; exact e (Nat.eq_of_beq_eq_true hb)
          simp [this,e,hx]
  | loop b ih =>
    intro ρ k T h lg K
    simp only [codeK,code]
    have e : (fun (vs : List Value) (h : H) => codeK p call lp fn b (2 * k) (Env.ofList (p.live fn k) vs) h [] fun ex T h lg => some (⟨ex,T.vals (p.live fn k),h,lg⟩ : LOut)) =
        (fun vs h => match code p call lp fn b (2 * k) (Env.ofList (p.live fn k) vs) h with
          | none => none
          | some o => some ⟨o.ex,o.T.vals (p.live fn k),o.h,o.lg⟩) := by
      funext vs h
      rw [ih]
      cases code p call lp fn b (2 * k) (Env.ofList (p.live fn k) vs) h with
      | none => rfl
      | some o => simp
    rw [e]
    unfold ob
    split
    · rename_i heq
      split
      · rfl
      · rename_i heq2
        split at heq2
        · cases heq2
        · rename_i heq3
          have := heq.symm.trans heq3
          cases this
    · rename_i o heq
      split
      · rename_i heq2
        split at heq2
        · rename_i heq3
          have := heq.symm.trans heq3
          cases this
        · cases heq2
      · rename_i o2 heq2
        split at heq2
        · cases heq2
        · rename_i o3 heq3
          have := heq.symm.trans heq3
          cases this
          cases heq2
          rfl
  | exit id => intro ρ k T h lg K; simp [codeK,code]
  | ret => intro ρ k T h lg K; simp [codeK,code]
  | rangeFunc f ps asg body iha ihb =>
    intro ρ k T h lg K
    simp only [codeK,code,rangeV]
    cases eval T f with
    | func g first cap =>
      cases g with
      | func g =>
        simp only
        cases call (.fn g) (first.toList ++ [.func (.yield h.n) #[] #[]] ++ cap.toList) (h.push (.loop .ready none fn T ps.toList asg body)) with
        | none => rfl
        | some r =>
          obtain ⟨v,h1,lg1⟩ := r
          simp only
          cases hg : h1.get h.n with
          | none => rfl
          | some ob1 =>
            cases ob1 with
            | loop st pend _ _ _ _ _ =>
              simp only
              by_cases hs : st = .busy
              · simp [hs,ob]
              · simp only [hs,if_false]
                cases jumpEx pend with
                | none => rfl
                | some ex => simp [ob]
            | _ => rfl
      | _ => rfl
    | _ => rfl
  | _ => intro ρ k T h lg K; simp [codeK,code]
end

section
variable {p : Pg}
def finK (p : Pg) (h : H) (rs : List ResultVar) : KT (Value × H × List Nat) := fun ex T h1 lg =>
  onEx ex (ob (resultsV p T h1 rs) fun vs => some (settle h (tupled vs) h1 lg)) (fun _ => none) (ob (resultsV p T h1 rs) fun vs => some (settle h (tupled vs) h1 lg))

theorem ic_of_codeK {f : Nat} {fn : Func} {c : Code} (hsp : p.spec f = none) (hfn : p.fn f = some fn) (hb : fn.body = some c) {args : List Value} (hlen : args.length ≤ fn.ntmps) {h : H} {r : Value × H × List Nat}
    (hh : codeK p (ic p) lw f c 3 (Env.args 0 args) h [] (finK p h fn.results.toList) = some r) : ic p (.fn f) args h = some r := by
  refine ic_fn ?_
  unfold funcV
  rw [hsp]
  simp only [hfn,hb,if_pos hlen]
  rw [codeK_eq] at hh
  cases ho : code p (ic p) lw f c 3 (Env.args 0 args) h with
  | none => rw [ho] at hh; cases hh
  | some o =>
    rw [ho] at hh
    simp only [finK,List.append_nil] at hh ⊢
    cases hx : o.ex with
    | exit id => rw [hx] at hh; cases hh
    | normal =>
      rw [hx] at hh
      simp only [onEx] at hh
      cases hv : resultsV p o.T o.h fn.results.toList with
      | none => rw [hv] at hh; cases hh
      | some vs => rw [hv] at hh; exact hh
    | ret =>
      rw [hx] at hh
      simp only [onEx] at hh
      cases hv : resultsV p o.T o.h fn.results.toList with
      | none => rw [hv] at hh; cases hh
      | some vs => rw [hv] at hh; exact hh
end
end Go.L1


namespace Go.L1
open Go
def nt : List Value → Nat → Value
  | vs,0 => vs.headD poison
  | vs,n + 1 => nt vs.tail n
section
variable (p : Pg)
def oBuild (t : Nat) (ps : List (Nat × Value)) : Option Value := (p.ty t).bind fun i => (fillAt (placeOf p.ty i) i.zero ps).bind fun cs => if isAggD i.desc then some (.agg cs.toArray) else none
def oBin (t : Nat) (op : BinOp) (x y : Value) : Option Value := (p.ty t).bind fun i => binV p.ty i op x y
def oFunc (f : Nat) (a b : Array Value) : Option Value := if a.toList.all isCell && b.toList.all isCell then some (.func (.func f) a b) else none
def oFA (s : Nat) (x : Value) (f : Nat) : Option Value := (p.ty s).bind fun i => (fieldOf i f).bind fun fd => (p.ty fd.type).bind fun fi => if fi.size = 0 then none else rFld fd.offset x
def oFld (t : Nat) (x : Value) (f : Nat) : Option Value := (p.ty t).bind fun i => (fieldOf i f).bind fun fd => (p.ty fd.type).bind fun fi => rPart fi fd.offset x
def oIA (t : Nat) (x ix : Value) : Option Value := (p.ty t).bind fun i =>
    match i.desc with
    | .array n e => (p.ty e).bind fun ei => rIdxA n ei.size x ix
    | .slice e => (p.ty e).bind fun ei => rIdxS ei.size x ix
    | _ => none
def oIx (t : Nat) (x ix : Value) : Option Value := (p.ty t).bind fun i =>
    match i.desc with
    | .array n e => (p.ty e).bind fun ei => (idxN ix).bind fun j => if j < n then rPart ei (j * ei.size) x else none
    | .string => match x with
      | .string s => rIdxStr s ix
      | _ => none
    | _ => none
def oLd (C : Cont) (t : Nat) (a : Value) : Option Value := (p.ty t).bind fun i => rLoad C i a
def oCv (C : Cont) (s d : Nat) (x : Value) : Option Value := (p.ty s).bind fun si => (p.ty d).bind fun di => rConv C p.ty si di x
def oSl (C : Cont) (t : Nat) (x : Value) (lo hi mx : Option Value) : Option Value := (p.ty t).bind fun i =>
    match i.desc,x with
    | .string,.string s => rSliceStr s lo hi mx
    | .slice e,.slice a n c => (p.ty e).bind fun ei => rSlice C e ei.size a n c lo hi mx
    | _,_ => none
def oLk (C : Cont) (t : Nat) (x k : Value) (ok : Bool) : Option Value := (p.ty t).bind fun i =>
    match i.desc with
    | .map kt e => (p.ty kt).bind fun ki => match ki.desc with
      | .string => (p.ty e).bind fun ei => (zeroV ei).bind fun z => rLook C z x k ok
      | _ => none
    | _ => none
def aAlloc (n e : Nat) : Option (Value × IObj) := (p.ty e).bind fun i => some (.pointer (some ⟨n,0,none⟩),.cells i.zero e false)
def aBox (n e : Nat) (x : Value) : Option (Value × IObj) := (p.ty e).bind fun i =>
    (cellsOf x).bind fun cs => if cs.length = i.size then some (.pointer (some ⟨n,0,none⟩),.cells cs e false) else none
def aBuildS (n t len : Nat) (ps : List (Nat × Value)) : Option (Value × IObj) := (p.ty t).bind fun i =>
    match i.desc with
    | .slice e => (p.ty e).bind fun ei =>
      if len * (ei.size + 1) ≤ 65536 then
        (fillAt (fun j => some (j * ei.size,ei.size)) (rep ei.zero len) ps).bind fun cs =>
          some (.slice (some ⟨n,0,none⟩) len len,.cells cs e false)
      else none
    | _ => none
def aMap (n : Nat) : Option (Value × IObj) := some (.map (some n),.map [])
def aMakeS (n t : Nat) (l c : Value) : Option (Value × IObj) := (p.ty t).bind fun i =>
    match i.desc with
    | .slice e => (p.ty e).bind fun ei =>
      match l,c with
      | .int .i64 l,.int .i64 c =>
        if 0 ≤ l ∧ l ≤ c ∧ c * (ei.bytes + ei.size + 1) ≤ 1099511627776 then
          some (.slice (some ⟨n,0,none⟩) l.toNat c.toNat,.cells (rep ei.zero c.toNat) e false)
        else none
      | _,_ => none
    | _ => none
def hStore (h : H) (t : Nat) (a x : Value) : Option (Value × H × List Nat) := (p.ty t).bind fun i => rStore h i.size a x
def hMapU (h : H) (t : Nat) (m k x : Value) : Option (Value × H × List Nat) := (p.ty t).bind fun i => match i.desc with
    | .map kt _ => (p.ty kt).bind fun ki => match ki.desc with
      | .string => rMapUpd h m k x
      | _ => none
    | _ => none
end
def rdP (v : Value) : List Nat := match v with | .pointer (some a) => [a.block] | _ => []
def rdS (v : Value) : List Nat := match v with | .slice (some a) _ _ => [a.block] | _ => []
def rdM (v : Value) : List Nat := match v with | .map (some r) => [r] | _ => []
def rdL (l : List Value) : List Nat := l.flatMap rdM
def rsT (v : Value) (r : Option (List Value)) : Option (List Value) := if isPoison v then none else r.map (v :: ·)
def rsC (p : Pg) (C : Cont) (a : Value) (t : Nat) (r : Option (List Value)) : Option (List Value) := ((p.ty t).bind fun i => rLoad C i a).bind fun v => r.map (v :: ·)
def fin (h0 : H) (r : Option (List Value)) (h : H) (lg : List Nat) : Option (Value × H × List Nat) := ob r fun vs => some (settle h0 (tupled vs) h lg)
def mP (h : H) : Mk := ⟨.pure,[],[],h.n,h.n⟩
def mR (h : H) (r : List Nat) : Mk := ⟨.pure,r,[],h.n,h.n⟩
def mA (h : H) (r : List Nat) : Mk := ⟨.alloc,r,[],h.n,h.n + 1⟩
def mH (h : H) (r l : List Nat) (h1 : H) : Mk := ⟨.heavy,r,l,h.n,h1.n⟩
def mG (w : Option Bool) (k : Kd) (r : List Nat) (h h1 : H) (l : List Nat) : Mk :=
  match w with
  | some true => ⟨k,r,l,h.n,h1.n⟩
  | _ => ⟨.pure,[],[],h.n,h.n⟩
def cAt : List Nat → Code → Code
  | 0 :: l,.seq a _ => cAt l a
  | _ :: l,.seq _ b => cAt l b
  | 0 :: l,.cond _ a _ => cAt l a
  | _ :: l,.cond _ _ b => cAt l b
  | _ :: l,.block _ b => cAt l b
  | _ :: l,.loop b => cAt l b
  | _,c => c
def rfA : Code → Code
  | .rangeFunc _ _ a _ => a
  | _ => .skip
def rfB : Code → Code
  | .rangeFunc _ _ _ b => b
  | _ => .skip
def gd (v : Value) (want : Bool) : Option Bool :=
  match v with
  | .bool b => some (b == want)
  | .chan _ | .nilIface => none
  | _ => some false
end Go.L1


namespace Go.L1
open Go
section
variable {p : Pg} {P : Program}
theorem ic_yd {l : Nat} {args : List Value} {h : H} {r : Value × H × List Nat} (hh : roundV p (ic p) lw l args h = some r) : ic p (.yield l) args h = some r := by
  refine ic_iff.2 ?_
  have : ∃ n,roundV p (icall p n) (LN n) l args h = some r := by
    unfold roundV at hh ⊢
    split at hh
    · rename_i f T ps asg body hget
      split at hh
      · rename_i hlen
        cases h1 : code p (ic p) lw f asg 4 (T.sets ps args) h with
        | none => rw [h1] at hh; cases hh
        | some o =>
          rw [h1] at hh
          obtain ⟨n,hn⟩ := code_lim asg h1
          simp only at hh
          split at hh
          · rename_i hex
            split at hh
            · rename_i f2 T2 ps2 asg2 body2 hg2
              cases h2 : code p (ic p) lw f body 5 o.T (o.h.set l (.loop .busy none f2 T2 ps2 asg2 body2)) with
              | none => rw [h2] at hh; cases hh
              | some o2 =>
                rw [h2] at hh
                obtain ⟨m,hm⟩ := code_lim body h2
                refine ⟨max n m,?_⟩
                rw [if_pos hlen,cm (Nat.le_max_left n m) hn]
                simp only [if_pos hex,hg2]
                rw [cm (Nat.le_max_right n m) hm]
                exact hh
            · cases hh
          · cases hh
      · cases hh
    · cases hh
  obtain ⟨n,hn⟩ := this
  exact ⟨n + 1,hn⟩

theorem calls_of_ic (hF : Fits p P) (hsp : SpecSim p P) (hsl : SpecLog p) {f : Nat} {fn : Func} {c : Code} (hf : P.funcs[f]? = some fn) (hname : (fn.name == "runtime.NumGoroutine") = false) (hb : fn.body = some c)
    {args : List Value} {h h1 : H} {b : Bool} {lg : List Nat} (hi : ic p (.fn f) args h = some (.bool b,h1,lg))
    {φ : Emb} {w : World} {args' : Array Value} (hR : Rel p φ h.get w) (hd : Dom φ h.n) (ha : VPL φ args args'.toList) (hro : ∀ r,¬ Owned φ h.get r) :
    Calls P f args' w fun e w' => e = .returned (.bool b) ∧ w'.os = w.os ∧ w'.tape = w.tape ∧ w'.output = w.output ∧ w.heap.size ≤ w'.heap.size ∧ ∀ r,r < w.heap.size → w'.heap[r]? = w.heap[r]? := by
  obtain ⟨n,hn⟩ := ic_iff.1 hi
  have hc : CallsIn Fence.wide 0 P f args' w fun e w' => ∃ v',e = .returned v' ∧ Post p φ h w (.bool b) h1 v' w' := by
    rcases (icall_sim hF hsp hsl n).fn _ _ _ _ _ _ hn φ w args' hR hd ha with ⟨v',w',hrun,_⟩ | ⟨_,hc⟩
    · rw [run_enter hf hname hb] at hrun
      cases hrun
    · exact hc
  refine callsIn_wide.1 (hc.mono fun e w' => ?_)
  rintro ⟨v',rfl,φ',g,f',R',hv⟩
  exact ⟨by rw [hv.boolI],f'.os,f'.tape,f'.output,f'.size,fun r hr => f'.keep r hr (hro r)⟩
end
end Go.L1


namespace Go.L1
open Go
def tyO (size bytes : Nat) (zero : List Value) : TyI := ⟨.invalid,size,bytes,zero,false⟩
def tyD (d : TypeDesc) : TyI := ⟨d,1,0,[],false⟩
def fillO (cells : List Value) : List (Nat × Nat × Value) → Option (List Value)
  | [] => some cells
  | (off,size,v) :: rest =>
    match cellsOf v with
    | none => none
    | some cs => if cs.length = size ∧ off + size ≤ cells.length then fillO (putAt cells off cs) rest else none
def rBuild (zero : List Value) (ps : List (Nat × Nat × Value)) : Option Value := (fillO zero ps).bind fun cs => some (.agg cs.toArray)
def rPart1 (off : Nat) : Value → Option Value
  | .agg cs => cs.toList[off]?
  | _ => none
def rPartA (size off : Nat) : Value → Option Value
  | .agg cs => if off + size ≤ cs.toList.length then some (.agg ((cs.toList.drop off).take size).toArray) else none
  | _ => none
def rIxA1 (n es : Nat) (x ix : Value) : Option Value := (idxN ix).bind fun j => if j < n then rPart1 (j * es) x else none
def rIxAA (n es : Nat) (x ix : Value) : Option Value := (idxN ix).bind fun j => if j < n then rPartA es (j * es) x else none
def rIxStr (x ix : Value) : Option Value := match x with
  | .string s => rIdxStr s ix
  | _ => none
def rLd1 (C : Cont) (v : Value) : Option Value :=
  match v with
  | .pointer (some ⟨b,o,none⟩) => match cellsAt C b o 1 with
    | some [x] => some x
    | _ => none
  | _ => none
def rLdA (C : Cont) (size : Nat) (v : Value) : Option Value :=
  match v with
  | .pointer (some ⟨b,o,none⟩) => (cellsAt C b o size).map fun cs => .agg cs.toArray
  | _ => none
def rCvI (k : IntKind) (x : Value) : Option Value := match x with
  | .int _ n => some (.int k (k.wrap n))
  | _ => none
def rSlStr (x : Value) (lo hi mx : Option Value) : Option Value := match x with
  | .string s => rSliceStr s lo hi mx
  | _ => none
def rSl (C : Cont) (e es : Nat) (x : Value) (lo hi mx : Option Value) : Option Value := match x with
  | .slice a n c => rSlice C e es a n c lo hi mx
  | _ => none
def rLenS (x : Value) : Option Value := match x with
  | .string s => some (.int .i64 s.size)
  | _ => none
def rLenL (x : Value) : Option Value := match x with
  | .slice _ n _ => some (.int .i64 n)
  | _ => none
def rCapL (x : Value) : Option Value := match x with
  | .slice _ _ c => if c = uc then none else some (.int .i64 c)
  | _ => none
def aNew (n e : Nat) (zero : List Value) : Option (Value × IObj) := some (.pointer (some ⟨n,0,none⟩),.cells zero e false)
def aBx (n e size : Nat) (x : Value) : Option (Value × IObj) := (cellsOf x).bind fun cs => if cs.length = size then some (.pointer (some ⟨n,0,none⟩),.cells cs e false) else none
def aBS (n e es : Nat) (zero : List Value) (len : Nat) (ps : List (Nat × Value)) : Option (Value × IObj) :=
  if len * (es + 1) ≤ 65536 then
    (fillAt (fun j => some (j * es,es)) (rep zero len) ps).bind fun cs => some (.slice (some ⟨n,0,none⟩) len len,.cells cs e false)
  else none
def aMk (n e es bytes : Nat) (zero : List Value) (l c : Value) : Option (Value × IObj) :=
  match l,c with
  | .int .i64 l,.int .i64 c =>
    if 0 ≤ l ∧ l ≤ c ∧ c * (bytes + es + 1) ≤ 1099511627776 then
      some (.slice (some ⟨n,0,none⟩) l.toNat c.toNat,.cells (rep zero c.toNat) e false)
    else none
  | _,_ => none
def rApp (h : H) (e es bytes : Nat) (zero : List Value) (s x : Value) : Option (Value × H × List Nat) :=
  (match x with
   | .slice xa xn _ => (sliceCells h.get es xa xn).map fun l => (xn,l)
   | _ => none).bind fun (m,new) =>
    match s with
    | .slice a n c => rAppend h e (tyO es bytes zero) a n c m new
    | _ => none
def rAppZ (h : H) (e es bytes : Nat) (zero : List Value) (s x : Value) : Option (Value × H × List Nat) :=
  (match x with
   | .int .i64 k => if 0 ≤ k ∧ k ≤ 1048576 then some (k.toNat,rep zero k.toNat) else none
   | _ => none).bind fun (m,new) =>
    match s with
    | .slice a n c => rAppend h e (tyO es bytes zero) a n c m new
    | _ => none
def rsK (x : Option Value) (r : Option (List Value)) : Option (List Value) := x.bind fun v => r.map (v :: ·)
inductive Tr (α : Type) where
  | e
  | n (v : Option α) (l r : Tr α)
def Tr.get {α : Type} : Tr α → Nat → Nat → Option α
  | .e,_,_ => none
  | .n v l r,fuel + 1,i => bif Nat.beq i 0 then v else bif Nat.beq (i % 2) 1 then l.get fuel (i / 2) else r.get fuel (i / 2 - 1)
  | .n _ _ _,0,_ => none
def lk : List (Nat × List Nat) → Nat → List Nat
  | [],_ => []
  | (a,l) :: r,k => bif Nat.beq a k then l else lk r k
def insS (e es bytes : Nat) (zero : List Value) (args : List Value) (h : H) : Option (Value × H × List Nat) :=
  match args with
  | [.slice a n c,.int .i64 i,.slice (some ⟨bv,ov,none⟩) 1 cv] =>
    if i = (n : Int) then
      if (a = none ∧ n = 0 ∧ c = 0) ∨ c = uc then (rApp h e es bytes zero (.slice a n c) (.slice (some ⟨bv,ov,none⟩) 1 cv)).map fun r => settle h r.1 r.2.1 r.2.2 else none
    else if 0 ≤ i ∧ i < (n : Int) then
      match a with
      | some ⟨b,o,none⟩ =>
        match h.get b,h.get bv with
        | some (.cells vs ty false),some (.cells ws _ false) =>
          if ty = e ∧ c = uc ∧ b ≠ bv ∧ o + n * es ≤ vs.length ∧ ov + es ≤ ws.length ∧ n + 1 ≤ 1048576 then
            some (.slice (some ⟨h.n,0,none⟩) (n + 1) uc,(h.kill b).push (.cells ((vs.drop o).take (i.toNat * es) ++ (ws.drop ov).take es ++ ((vs.drop o).take (n * es)).drop (i.toNat * es)) e false),[b])
          else none
        | _,_ => none
      | _ => none
    else none
  | _ => none
def tS (args : List Value) (h : H) : Option (Value × H × List Nat) :=
  match args with
  | [] => some (.bool true,h,[])
  | _ => none
end Go.L1


namespace Go.L1
open Go
variable {p : Pg}
abbrev FnE := CallF → LoopF → List Value → H → Option (Value × H × List Nat)
def Good (p : Pg) (f : Nat) (e : FnE) : Prop := p.spec f = none → ∀ (call : CallF) (lp : LoopF) (args : List Value) (h : H) (r : Value × H × List Nat),CLe call (ic p) → LLe lp lw → e call lp args h = some r → ic p (.fn f) args h = some r
def Tr.All {α : Type} : (Nat → α → Prop) → Tr α → Prop
  | _,.e => True
  | P,.n v l r => (∀ a,v = some a → P 0 a) ∧ l.All (fun i => P (2 * i + 1)) ∧ r.All (fun i => P (2 * i + 2))
theorem Tr.All.get {α : Type} : ∀ {t : Tr α} {P : Nat → α → Prop} (_ : t.All P) {fuel i : Nat} {a : α},t.get fuel i = some a → P i a
  | .e,_,_,_,_,_,h => by cases h
  | .n v l r,P,⟨h1,h2,h3⟩,0,i,a,h => by cases h
  | .n v l r,P,⟨h1,h2,h3⟩,fuel + 1,i,a,h => by
    unfold Tr.get at h
    cases e0 : Nat.beq i 0 with
    | true =>
      rw [e0] at h
      have : i = 0 := Nat.eq_of_beq_eq_true e0
      subst this
      exact h1 a h
    | false =>
      rw [e0] at h
      simp only [cond_false] at h
      have hi : i ≠ 0 := fun e => by subst e; cases e0
      cases e1 : Nat.beq (i % 2) 1 with
      | true =>
        rw [e1] at h
        have e2 := Nat.eq_of_beq_eq_true e1
        have := Tr.All.get h2 h
        have e : 2 * (i / 2) + 1 = i := by omega
        rw [e] at this
        exact this
      | false =>
        rw [e1] at h
        have e2 : i % 2 ≠ 1 := fun e => by rw [e] at e1; cases e1
        have := Tr.All.get h3 h
        have e : 2 * (i / 2 - 1) + 2 = i := by omega
        rw [e] at this
        exact this
theorem Tr.all_n {α : Type} {P : Nat → α → Prop} {a : α} {l r : Tr α} (h : P 0 a) (hl : l.All fun i => P (2 * i + 1)) (hr : r.All fun i => P (2 * i + 2)) : (Tr.n (some a) l r).All P := ⟨fun _ e => by cases e; exact h,hl,hr⟩
theorem Tr.all_0 {α : Type} {P : Nat → α → Prop} {l r : Tr α} (hl : l.All fun i => P (2 * i + 1)) (hr : r.All fun i => P (2 * i + 2)) : (Tr.n none l r).All P := ⟨fun _ e => (by cases e),hl,hr⟩
theorem Tr.all_e {α : Type} {P : Nat → α → Prop} : (Tr.e : Tr α).All P := trivial
theorem F_mono {call call' : CallF} {lp lp' : LoopF} (hc : CLe call call') (hl : LLe lp lp') {f : Nat} {c : Code} {T : Env} {h : H} {rs : List ResultVar} {r : Value × H × List Nat}
    (hh : codeK p call lp f c 3 T h [] (finK p h rs) = some r) : codeK p call' lp' f c 3 T h [] (finK p h rs) = some r := by
  rw [codeK_eq] at hh ⊢
  cases h1 : code p call lp f c 3 T h with
  | none => rw [h1] at hh; cases hh
  | some o => rw [h1] at hh; rw [code_mono hc hl _ h1]; exact hh
theorem ic_spec {f : Nat} {s : List Value → H → Option (Value × H × List Nat)} (hs : p.spec f = some s) {args : List Value} {h : H} {r : Value × H × List Nat} (hh : s args h = some r) : ic p (.fn f) args h = some r :=
  ic_iff.2 ⟨1,by show funcV p _ _ f args h = some r; unfold funcV; rw [hs]; exact hh⟩
theorem ic_ext {f : Nat} {fn : Func} (hs : p.spec f = none) (hf : p.fn f = some fn) (hb : fn.body = none) {args : List Value} {h : H} {r : Value × H × List Nat} (hh : ext fn.name args h = some r) : ic p (.fn f) args h = some r :=
  ic_iff.2 ⟨1,by show funcV p _ _ f args h = some r; unfold funcV; rw [hs]; simp only [hf,hb]; exact hh⟩
theorem loopN_lw (n : Nat) : LLe (fun b => loopN b n) lw := fun b b' hb vs h o hh => by
  refine lw_iff.2 ⟨n,loopN_mono (Nat.le_refl n) b b' hb _ _ _ hh⟩
def ev (p : Pg) (t : Tr FnE) : Nat → CallF
  | 0,_,_,_ => none
  | n + 1,.fn f,args,h => match p.spec f with
    | some s => s args h
    | none => match t.get 40 f with
      | some e => e (ev p t n) (fun b => loopN b n) args h
      | none => none
  | n + 1,.yield l,args,h => roundV p (ev p t n) (fun b => loopN b n) l args h
theorem ev_ic {t : Tr FnE} (ht : t.All (Good p)) : ∀ n,CLe (ev p t n) (ic p)
  | 0,g,_,_,_,hh => by cases g <;> cases hh
  | n + 1,.fn f,args,h,r,hh => by
    unfold ev at hh
    split at hh
    · rename_i s hs; exact ic_spec hs hh
    · rename_i hs
      split at hh
      · rename_i e he
        exact ht.get he hs _ _ _ _ _ (ev_ic ht n) (loopN_lw n) hh
      · cases hh
  | n + 1,.yield l,args,h,r,hh => ic_yd (roundV_mono (ev_ic ht n) (loopN_lw n) hh)
end Go.L1


namespace Go.L1
open Go
theorem wrapI {n : Int} (h0 : -9223372036854775808 ≤ n) (h1 : n ≤ 9223372036854775807) : IntKind.i64.wrap n = n := by
  rw [IntKind.wrap_i64]; omega
theorem idxN_nat (k : IntKind) (n : Nat) : idxN (.int k (n : Int)) = some n := by simp [idxN]
section
variable {ty : Nat → Option TyI}
theorem bI_eql (a b : Int) : binV ty (tyD (.int .i64)) .eql (.int .i64 a) (.int .i64 b) = some (.bool (a == b)) := rfl
theorem bI_neq (a b : Int) : binV ty (tyD (.int .i64)) .neq (.int .i64 a) (.int .i64 b) = some (.bool (a != b)) := rfl
theorem bI_lss (a b : Int) : binV ty (tyD (.int .i64)) .lss (.int .i64 a) (.int .i64 b) = some (.bool (decide (a < b))) := rfl
theorem bI_leq (a b : Int) : binV ty (tyD (.int .i64)) .leq (.int .i64 a) (.int .i64 b) = some (.bool (decide (a ≤ b))) := rfl
theorem bI_gtr (a b : Int) : binV ty (tyD (.int .i64)) .gtr (.int .i64 a) (.int .i64 b) = some (.bool (decide (a > b))) := rfl
theorem bI_geq (a b : Int) : binV ty (tyD (.int .i64)) .geq (.int .i64 a) (.int .i64 b) = some (.bool (decide (a ≥ b))) := rfl
theorem bI_add (a b : Int) : binV ty (tyD (.int .i64)) .add (.int .i64 a) (.int .i64 b) = some (.int .i64 (IntKind.i64.wrap (a + b))) := rfl
theorem bI_sub (a b : Int) : binV ty (tyD (.int .i64)) .sub (.int .i64 a) (.int .i64 b) = some (.int .i64 (IntKind.i64.wrap (a - b))) := rfl
end
section
variable {C : Cont} {e es b o n c : Nat}
theorem rSl_lo (lo : Nat) (hc : c ≠ uc) (h : lo ≤ n) (hnc : n ≤ c) : rSl C e es (.slice (some ⟨b,o,none⟩) n c) (some (.int .i64 (lo : Int))) none none = some (.slice (some ⟨b,o + lo * es,none⟩) (n - lo) (c - lo)) := by
  simp [rSl,rSlice,optIdx,idxN_nat,roomOf,hc,h,hnc]
theorem rSl_hi (hi : Nat) (hc : c ≠ uc) (h : hi ≤ c) : rSl C e es (.slice (some ⟨b,o,none⟩) n c) none (some (.int .i64 (hi : Int))) none = some (.slice (some ⟨b,o,none⟩) hi c) := by
  simp [rSl,rSlice,optIdx,idxN_nat,roomOf,hc,h]
theorem rSl_lo_uc (lo : Nat) {vs : List Value} {ro : Bool} (hC : C b = some (.cells vs e ro)) (hes : es ≠ 0) (h : lo ≤ n) : rSl C e es (.slice (some ⟨b,o,none⟩) n uc) (some (.int .i64 (lo : Int))) none none = some (.slice (some ⟨b,o + lo * es,none⟩) (n - lo) uc) := by
  simp [rSl,rSlice,optIdx,idxN_nat,roomOf,hC,hes,h]
  omega
end
theorem nt_0 (v : Value) (l : List Value) : nt (v :: l) 0 = v := rfl
theorem nt_s (v : Value) (l : List Value) (n : Nat) : nt (v :: l) (n + 1) = nt l n := rfl

section
variable {p q : Pg} {φ : Emb}
theorem BlockRel.swap (hty : p.ty = q.ty) (hfn : p.fn = q.fn) {bi : BI} {w : World} {ob : IObj} (h : BlockRel p φ bi w ob) : BlockRel q φ bi w ob := by
  cases h with
  | cells hi hes hisz hw hss hsz hv hcell hfr hj => exact .cells (by rw [← hty]; exact hi) hes hisz hw hss hsz hv hcell hfr hj
  | map hw hl hk => exact .map hw hl hk
  | loop hw hf hps hpl hasg hbody hN hT => exact .loop hw (by rw [← hfn]; exact hf) hps hpl hasg hbody hN hT
  | dead => exact .dead
theorem Rel.swap (hty : p.ty = q.ty) (hfn : p.fn = q.fn) {C : Cont} {w : World} (h : Rel p φ C w) : Rel q φ C w :=
  ⟨fun b bi hb => (h.blk b bi hb).imp fun _ h => ⟨h.1,h.2.swap hty hfn⟩,h.inj⟩
theorem Fits.swap {P : Program} (hty : p.ty = q.ty) (hfn : p.fn = q.fn) (h : Fits p P) : Fits q P :=
  ⟨fun t i hi => h.ty t i (by rw [hty]; exact hi),fun f fn hf => h.fn f fn (by rw [hfn]; exact hf),fun f fn hf => h.ext f fn (by rw [hfn]; exact hf),h.mixed⟩
end

theorem Rel.get {p : Pg} {φ : Emb} {C C' : Cont} {w : World} (h : Rel p φ C w) (e : ∀ b,C b = C' b) : Rel p φ C' w := by
  have : C = C' := funext e
  rw [← this]; exact h

theorem post_conv {p p0 : Pg} {φ φ2 : Emb} {h h2 hr h1 : H} {w w' : World} {v v2 v' : Value} (g : Gr φ h.get h.n w φ2 h2.get h2.n) (hn : hr.n = h1.n) (hg : ∀ c oc,h1.get c = some oc → liveO oc = true → hr.get c = some oc)
    (hR : ∀ φ3,Gr φ2 h2.get h2.n w φ3 hr.get hr.n → Rel p0 φ3 hr.get w' → Rel p φ3 h1.get w') (hv : ∀ φ3,Gr φ2 h2.get h2.n w φ3 hr.get hr.n → VP φ3 v2 v' → VP φ3 v v') (hP : Post p0 φ2 h2 w v2 hr v' w') : Post p φ h w v h1 v' w' := by
  obtain ⟨φ3,g3,f3,R3,hv3⟩ := hP
  refine ⟨φ3,Gr.trans g (Nat.le_refl _) ⟨g3.old,fun b bi hb => by rw [← hn]; exact g3.dom b bi hb,by rw [← hn]; exact g3.le,fun r hr' ho => g3.own r hr' ?_,fun r hr' ho => g3.use r hr' ?_⟩,?_,hR φ3 g3 R3,hv φ3 g3 hv3⟩
  · obtain ⟨c,ci,oc,hc,hoc,hrw,e⟩ := ho
    exact ⟨c,ci,oc,hc,hg c oc hoc (rw_live hrw),hrw,e⟩
  · obtain ⟨c,ci,oc,hc,hoc,hl,e⟩ := ho
    exact ⟨c,ci,oc,hc,hg c oc hoc hl,hl,e⟩
  · exact ⟨f3.os,f3.tape,f3.output,f3.size,fun r hr' ho => f3.keep r hr' fun ho2 => ho (g.own r hr' ho2)⟩
theorem junk_VL {φ : Emb} : ∀ {k : Nat} {l : List Value},l.length = k → (∀ x ∈ l,isCell x = true) → VL φ (List.replicate k .nilIface) l
  | 0,[],_,_ => VL.nil φ
  | k + 1,x :: l,hl,hc => VL.cons (.nilIface (hc x (by simp))) (junk_VL (by simpa using hl) fun y hy => hc y (by simp [hy]))
  | 0,_ :: _,hl,_ => by simp at hl
  | k + 1,[],hl,_ => by simp at hl

def ovS (args : List Value) (h : H) : Option (Value × H × List Nat) :=
  match args with
  | [.slice (some ⟨a,_,none⟩) n _,.slice (some ⟨b,_,none⟩) m _] =>
    if n ≠ 0 ∧ m ≠ 0 ∧ a ≠ b then
      match h.get a,h.get b with
      | some (.cells _ _ false),some (.cells vs _ _) => if vs.length = 0 then none else some (.bool false,h,[])
      | _,_ => none
    else none
  | _ => none

theorem ov_sim {p : Pg} {P : Program} (hF : Fits p P) {f tS tR e : Nat} {ei : TyI} {fn : Func} (hf : P.funcs[f]? = some fn) (hname : (fn.name == "runtime.NumGoroutine") = false) (hb : fn.body.isNone = true) (hn : Extern.findNext fn = none)
    (he : Extern.find fn = some (Extern.SlicesOverlaps.overlaps #[tS,tS] #[tR])) (hu : P.underlying tS = some (.slice e)) (hei : p.ty e = some ei) :
    ∀ args h v h1 lg,ovS args h = some (v,h1,lg) → ∀ φ w (args' : Array Value),Rel p φ h.get w → Dom φ h.n → VPL φ args args'.toList →
      ∃ v' w',(callFunc f args').run P w = .ok (.value v') w' ∧ Post p φ h w v h1 v' w' ∧ NoYield args := by
  intro args h v h1 lg hh φ w args' hR hd ha
  unfold ovS at hh
  split at hh
  case h_2 => cases hh
  rename_i a oa n ca b ob m cb
  split at hh
  case isFalse => cases hh
  rename_i hc
  obtain ⟨hn0,hm0,hab⟩ := hc
  split at hh
  case h_2 => cases hh
  rename_i vsa tya vsb tyb rob hCa hCb
  split at hh
  · cases hh
  rename_i hvl
  cases hh
  obtain ⟨l⟩ := args'
  match l,ha with
  | [y1,y2],ha =>
    obtain ⟨bia,a',ca',hba,rfl,hna,haa,_⟩ := (ha.2 0 _ _ rfl rfl).sliceI
    obtain ⟨bib,b',cb',hbb,rfl,hnb,hab',_⟩ := (ha.2 1 _ _ rfl rfl).sliceI
    have haa' : a' = ⟨bia.r,bia.o + oa,none⟩ := haa.resolve_left (by omega)
    have hbb' : b' = ⟨bib.r,bib.o + ob,none⟩ := hab'.resolve_left (by omega)
    subst haa' hbb'
    obtain ⟨o1,ho1,hr1⟩ := hR.blk a bia hba
    obtain ⟨o2,ho2,hr2⟩ := hR.blk b bib hbb
    rw [hCa] at ho1; cases ho1
    rw [hCb] at ho2; cases ho2
    have hne := hR.inj a b bia bib _ _ hba hbb hCa hCb hab rfl rfl
    cases hr1 with
    | @cells _ _ _ csa tya' fra ia hia hesa hisza hwa hsa hsza hva hcella hfra hja =>
      cases hr2 with
      | @cells _ _ _ csb tyb' frb ib hib hesb hiszb hwb hsb hszb hvb hcellb hfrb hjb =>
        have hf0 := hfra rfl
        subst hf0
        refine ⟨.bool false,w,?_,⟨φ,Gr.refl w hd,Fr.refl _ _ _,hR,(VR.bool _).vp⟩,fun l hl => by simp at hl⟩
        rw [run_callFunc_extern hf hname hb hn he]
        have := Lib.run_overlaps_apart (P := P) w tS tR e hu ei.size (fun w' => run_size (hF.ty _ _ hei) w') ⟨bia.r,bia.o + oa,none⟩ ⟨bib.r,bib.o + ob,none⟩ n ca' m cb' hne tya' tyb' csa.size csb.size
          (by simp [World.shape?,hwa]) (by simp [World.shape?,hwb]) (by omega) (by simp [World.frozen?,hwa]) (by simp [World.frozen?,hwa])
        rw [this]
        rfl
  | [],ha => have := ha.1; simp at this
  | [_],ha => have := ha.1; simp at this
  | _ :: _ :: _ :: _,ha => have := ha.1; simp at this
end Go.L1


namespace Go.L1
open Go
def fldsB (P : Program) : TypeDesc → Bool
  | .struct fs => fs.toList.all fun f => (P.info? f.type).isSome
  | .array _ e => (P.info? e).isSome
  | _ => true
theorem tyFits_mk {P : Program} {t : Nat} {i : TyI} (x : TypeInfo) (z : Value) (h1 : P.info? t = some x) (h2 : Nat.beq x.size i.size = true) (h3 : Nat.beq x.bytes i.bytes = true) (h4 : x.zero = some z) (h5 : cellsOf z = some i.zero) (h6 : pureC 6 z = true)
    (h7 : isAggV z = isAggD i.desc) (h8 : Nat.beq i.zero.length i.size = true) (h9 : P.underlying t = some i.desc) (h10 : fldsB P i.desc = true) (h11 : (!i.eqok || (!(P.eqGuardType P.depth t) && !(P.stoodInHeld t))) = true) : TyFits P t i := by
  refine ⟨⟨x,h1,Nat.eq_of_beq_eq_true h2,Nat.eq_of_beq_eq_true h3,⟨z,h4,h5,h6,h7⟩,Nat.eq_of_beq_eq_true h8⟩,h9,fun fs hd f hf => ?_,fun n e hd => ?_,fun he => ?_⟩
  · rw [hd] at h10
    exact Option.isSome_iff_exists.1 (List.all_eq_true.1 h10 f hf)
  · rw [hd] at h10
    exact Option.isSome_iff_exists.1 h10
  · rw [he] at h11
    simpa using h11
structure FnFit (P : Program) (f : Nat) (fn : Func) : Prop where
  at_ : P.funcs[f]? = some fn
  ok : funcOk fn = true
  ext : fn.body = none → fn.name = "internal/bytealg.abigen_runtime_cmpstring" → Extern.findNext fn = none ∧ Extern.find fn = some Extern.BytealgCompare.compare
theorem fnFit_body {P : Program} {f : Nat} {fn : Func} (h1 : P.funcs[f]? = some fn) (h2 : funcOk fn = true) (h3 : fn.body.isSome = true) : FnFit P f fn := ⟨h1,h2,fun h => by rw [h] at h3; cases h3⟩
theorem fnFit_other {P : Program} {f : Nat} {fn : Func} (h1 : P.funcs[f]? = some fn) (h2 : funcOk fn = true) (h3 : (fn.name == "internal/bytealg.abigen_runtime_cmpstring") = false) : FnFit P f fn :=
  ⟨h1,h2,fun _ h => by rw [h] at h3; simp at h3⟩
theorem fits_mk {p : Pg} {P : Program} {tt : Tr TyI} {ft : Tr Func} (h1 : ∀ t,p.ty t = tt.get 40 t) (h2 : ∀ f,p.fn f = ft.get 40 f) (ht : tt.All (TyFits P)) (hf : ft.All (FnFit P)) (hm : P.follows .mixedOrders = true) : Fits p P :=
  ⟨fun t i h => by rw [h1] at h; exact ht.get h,fun f fn h => by rw [h2] at h; exact ⟨(hf.get h).at_,(hf.get h).ok⟩,fun f fn h => by rw [h2] at h; exact (hf.get h).ext,hm⟩
end Go.L1


set_option linter.unusedVariables false
namespace Go.L1
open Go
theorem putAt_nil (vs : List Value) (off : Nat) : putAt vs off [] = vs := by simp [putAt]
theorem cellsAt_eq {C : Cont} {b off n : Nat} {vs : List Value} {ty : Nat} {ro : Bool} (hC : C b = some (.cells vs ty ro)) (h : off + n ≤ vs.length) : cellsAt C b off n = some ((vs.drop off).take n) := by simp [cellsAt,hC,h]
theorem writeAt_eq {h : H} {b off : Nat} {vs new : List Value} {ty : Nat} (hC : h.get b = some (.cells vs ty false)) (hl : off + new.length ≤ vs.length) : writeAt h b off new = some (h.set b (.cells (putAt vs off new) ty false)) := by simp [writeAt,hC,hl]
theorem rCopy_eq {h : H} {es b o n c b2 o2 m c2 k : Nat} {vs ws : List Value} {ty ty2 : Nat} {ro : Bool} (hk : min m n = k) (hk0 : k ≠ 0) (hb : h.get b = some (.cells vs ty false)) (hb2 : h.get b2 = some (.cells ws ty2 ro))
    (h1 : o + k * es ≤ vs.length) (h2 : o2 + k * es ≤ ws.length) :
    rCopy h es (.slice (some ⟨b,o,none⟩) n c) (.slice (some ⟨b2,o2,none⟩) m c2) = some (.int .i64 (k : Nat),h.set b (.cells (putAt vs o ((ws.drop o2).take (k * es))) ty false),[b]) := by
  have hl : ((ws.drop o2).take (k * es)).length = k * es := by simp; omega
  simp only [rCopy,hk,hk0,if_false,sliceCells,cellsAt_eq hb2 h2,Option.bind_some]
  rw [writeAt_eq hb (by omega)]
  rfl

theorem hv_some {ρ : Type} (v : Value) (h : H) (l : List Nat) (f : Value → H → List Nat → Option ρ) : hv (some (v,h,l)) f = f v h l := rfl
theorem dr_ok {ρ : Type} {bs : List Nat} {ms : List Mk} {f : List Nat → Option ρ} (h : ((logOf ms).isEmpty || clashFree bs ms) = true) : dr bs ms f = f (logOf ms) := by unfold dr; rw [h]; rfl
theorem fin_one {v : Value} (hp : isPoison v = false) (h0 h : H) (lg : List Nat) : fin h0 (rsT v (some [])) h lg = some (settle h0 v h lg) := by simp [fin,rsT,hp,ob,tupled]
theorem sliceCells_eq {C : Cont} {es b o n : Nat} {vs : List Value} {ty : Nat} {ro : Bool} (hC : C b = some (.cells vs ty ro)) (h : o + n * es ≤ vs.length) : sliceCells C es (some ⟨b,o,none⟩) n = some ((vs.drop o).take (n * es)) := by
  unfold sliceCells
  by_cases h0 : n = 0
  · simp [h0]
  · simp only [h0,if_false]
    exact cellsAt_eq hC h
theorem putAt_app {xs ys new : List Value} {off : Nat} (h : off = xs.length) : putAt (xs ++ ys) off new = xs ++ new ++ ys.drop new.length := by
  subst h
  simp [putAt,List.drop_append]

theorem ins_log {args : List Value} {h : H} {v : Value} {h1 : H} {lg : List Nat} {e es bytes : Nat} {zero : List Value} (hh : insS e es bytes zero args h = some (v,h1,lg)) : Stp h h1 lg := by
  unfold insS at hh
  split at hh
  case h_2 => cases hh
  split at hh
  · split at hh
    case isFalse => cases hh
    obtain ⟨⟨v2,h2,l2⟩,hr,e⟩ := Option.map_eq_some_iff.1 hh
    simp only at e
    refine settle_stp (h0 := h) (v := v2) (h1 := h2) (lg := l2) ?_ e
    unfold rApp at hr
    obtain ⟨⟨m,new⟩,hm,hq⟩ := Option.bind_eq_some_iff.1 hr
    exact rAppend_stp hq
  · split at hh
    case isFalse => cases hh
    split at hh
    case h_2 => cases hh
    split at hh
    case h_2 => cases hh
    split at hh
    case isFalse => cases hh
    cases hh
    rename_i b o vs ty ws _ hb hbv hcond
    refine ⟨by simp [H.push,H.kill,H.set],fun x hx hl => ?_⟩
    rw [H.get_push,if_neg (by show ¬ x = h.n; omega),H.kill,H.get_set,if_neg (by simpa using hl)]

theorem tS_log {args : List Value} {h : H} {v : Value} {h1 : H} {lg : List Nat} (hh : tS args h = some (v,h1,lg)) : Stp h h1 lg := by
  unfold tS at hh
  split at hh
  · cases hh; exact Stp.refl _ _
  · cases hh
theorem map_some3 {x : Option (Value × H × List Nat)} {v : Value} {h : H} (e : x.map (fun r => (r.1,r.2.1)) = some (v,h)) : ∃ lg,x = some (v,h,lg) := by
  obtain ⟨⟨a,b,c⟩,rfl,e⟩ := Option.map_eq_some_iff.1 e
  cases e
  exact ⟨c,rfl⟩

theorem ovS_log {args : List Value} {h : H} {v : Value} {h1 : H} {lg : List Nat} (hh : ovS args h = some (v,h1,lg)) : Stp h h1 lg := by
  unfold ovS at hh
  split at hh
  · split at hh
    · split at hh
      · split at hh
        · cases hh
        · cases hh; exact Stp.refl _ _
      · cases hh
    · cases hh
  · cases hh
end Go.L1


namespace Go.L1
open Go
def renV (f : Nat → Nat) : Nat → Value → Value
  | _,.pointer (some ⟨b,o,s⟩) => .pointer (some ⟨f b,o,s⟩)
  | _,.slice (some ⟨b,o,s⟩) n c => .slice (some ⟨f b,o,s⟩) n c
  | _,.map (some r) => .map (some (f r))
  | d + 1,.agg cs => .agg (cs.toList.map (renV f d)).toArray
  | d + 1,.tuple cs => .tuple (cs.toList.map (renV f d)).toArray
  | _,v => v
def okV : Nat → Value → Bool
  | d + 1,.agg cs => cs.toList.all (okV d)
  | d + 1,.tuple cs => cs.toList.all (okV d)
  | _,.agg _ | _,.tuple _ => false
  | _,.func (.func _) a b => a.toList.isEmpty && b.toList.isEmpty
  | _,.func .. => false
  | _,.iface .. | _,.chan _ => false
  | _,_ => true
theorem renV_VR {φ ψ : Emb} {f : Nat → Nat} (hf : ∀ b bi,φ b = some bi → ψ (f b) = some bi) {v v' : Value} (h : VR φ v v') : ∀ {d : Nat},okV d v = true → VR ψ (renV f d v) v' := by
  induction h with
  | bool b => intro d _; cases d <;> exact .bool b
  | int k n => intro d _; cases d <;> exact .int k n
  | string s => intro d _; cases d <;> exact .string s
  | nilptr => intro d _; cases d <;> exact .nilptr
  | ptr h => intro d _; cases d <;> exact .ptr (hf _ _ h)
  | nilslice => intro d _; cases d <;> exact .nilslice
  | slice h hn ha hc => intro d _; cases d <;> exact .slice (hf _ _ h) hn ha hc
  | nilmap => intro d _; cases d <;> exact .nilmap
  | map h => intro d _; cases d <;> exact .map (hf _ _ h)
  | nilFunc => intro d _; cases d <;> exact .nilFunc
  | nilIface h => intro d _; cases d <;> exact .nilIface h
  | yield h => intro d hd; cases d <;> simp [okV] at hd
  | @func g a a' c c' ha hc _ _ i1 i2 =>
    intro d hd
    have he : a.toList = [] ∧ c.toList = [] := by cases d <;> simpa [okV] using hd
    have e : ∀ d,renV f d (.func (.func g) a c) = .func (.func g) a c := fun d => by cases d <;> rfl
    rw [e]
    exact .func g ha hc (fun i x y hx hy => by rw [he.1] at hx; simp at hx) (fun i x y hx hy => by rw [he.2] at hx; simp at hx)
  | @agg a a' ha _ i1 =>
    intro d hd
    cases d with
    | zero => simp [okV] at hd
    | succ d =>
      simp only [okV,List.all_eq_true] at hd
      refine .agg (by simpa using ha) fun i x y hx hy => ?_
      simp only [renV,List.getElem?_map,Option.map_eq_some_iff] at hx
      obtain ⟨z,hz,rfl⟩ := hx
      exact i1 i z y hz hy (hd z (List.mem_of_getElem? hz))
  | @tuple a a' ha _ i1 =>
    intro d hd
    cases d with
    | zero => simp [okV] at hd
    | succ d =>
      simp only [okV,List.all_eq_true] at hd
      refine .tuple (by simpa using ha) fun i x y hx hy => ?_
      simp only [renV,List.getElem?_map,Option.map_eq_some_iff] at hx
      obtain ⟨z,hz,rfl⟩ := hx
      exact i1 i z y hz hy (hd z (List.mem_of_getElem? hz))
theorem renV_cell {f : Nat → Nat} {d : Nat} {v : Value} (h : isCell v = true) : isCell (renV f d v) = true := by
  unfold renV
  split <;> simp_all [isCell]
def renO (f : Nat → Nat) : IObj → IObj
  | .cells vs t r => .cells (vs.map (renV f 8)) t r
  | .map es => .map (es.map fun e => (e.1,renV f 8 e.2))
  | _ => .dead
def okO : IObj → Bool
  | .cells vs _ _ => vs.all (okV 8)
  | .map es => es.all fun e => okV 8 e.2
  | .loop .. => false
  | .dead => true
def pushAll (h : H) (os : List IObj) : H := os.foldl H.push h
theorem pushAll_n (os : List IObj) : ∀ h : H,(pushAll h os).n = h.n + os.length := by
  induction os with
  | nil => intro h; rfl
  | cons o os ih => intro h; show (pushAll (h.push o) os).n = _; rw [ih,List.length_cons]; show h.n + 1 + _ = _; omega
theorem pushAll_get (os : List IObj) : ∀ (h : H) (b : Nat),(pushAll h os).get b = if b < h.n then h.get b else match os[b - h.n]? with | some o => some o | none => h.get b := by
  induction os with
  | nil => intro h b; simp [pushAll]
  | cons o os ih =>
    intro h b
    show (pushAll (h.push o) os).get b = _
    rw [ih]
    have hn : (h.push o).n = h.n + 1 := rfl
    rw [hn,H.get_push]
    by_cases h1 : b < h.n
    · rw [if_pos h1,if_pos (by omega),if_neg (by omega)]
    · rw [if_neg h1]
      by_cases h2 : b = h.n
      · rw [if_pos (by omega),if_pos h2]; subst h2; simp
      · rw [if_neg (by omega),if_neg h2]
        have : b - h.n = (b - (h.n + 1)) + 1 := by omega
        rw [this,List.getElem?_cons_succ]
def knownS (os : List IObj) (v : Value) (args : List Value) (h : H) : Option (Value × H × List Nat) :=
  match args with
  | [] => some (renV (h.n + ·) 8 v,pushAll h (os.map (renO (h.n + ·))),[])
  | _ => none
theorem known_log {os : List IObj} {v0 : Value} {args : List Value} {h : H} {v : Value} {h1 : H} {lg : List Nat} (hh : knownS os v0 args h = some (v,h1,lg)) : Stp h h1 lg := by
  unfold knownS at hh
  split at hh
  · cases hh
    exact ⟨by rw [pushAll_n]; omega,fun b hb _ => by rw [pushAll_get,if_pos hb]⟩
  · cases hh
theorem renO_rel {p : Pg} {φ ψ : Emb} {f : Nat → Nat} (hf : ∀ b bi,φ b = some bi → ψ (f b) = some bi) {bi : BI} {w : World} {ob : IObj} (h : BlockRel p φ bi w ob) (ho : okO ob = true) : BlockRel p ψ bi w (renO f ob) := by
  cases h with
  | @cells vs ty ro cs ty' fr i hi hes hisz hw hs hsz hv hcell hfr hj =>
    simp only [okO,List.all_eq_true] at ho
    refine .cells hi hes (by simpa using hisz) hw hs (by simpa using hsz) ⟨by simpa using hv.1,fun i x y hx hy => ?_⟩ (fun x hx => ?_) hfr hj
    · rw [List.getElem?_map,Option.map_eq_some_iff] at hx
      obtain ⟨z,hz,rfl⟩ := hx
      rw [List.length_map] at hy
      exact renV_VR hf (hv.2 i z y hz hy) (ho z (List.mem_of_getElem? hz))
    · obtain ⟨z,hz,rfl⟩ := List.mem_map.1 hx
      exact renV_cell (hcell z hz)
  | @map es es' clock hw hl hk =>
    simp only [okO,List.all_eq_true] at ho
    refine .map hw (by simpa using hl) fun i k v e h1 h2 => ?_
    rw [List.getElem?_map,Option.map_eq_some_iff] at h1
    obtain ⟨⟨k0,v0⟩,hz,he⟩ := h1
    cases he
    have := hk i k0 v0 e hz h2
    exact ⟨this.1,renV_VR hf this.2.1 (ho _ (List.mem_of_getElem? hz)),renV_cell this.2.2⟩
  | loop => cases ho
  | dead => exact .dead
theorem rwO_ren {f : Nat → Nat} {ob : IObj} (h : rwO (renO f ob) = true) : rwO ob = true := by cases ob <;> simp_all [renO,rwO]
theorem liveO_ren {f : Nat → Nat} {ob : IObj} (h : liveO (renO f ob) = true) : liveO ob = true := by cases ob <;> simp_all [renO,liveO]
theorem known_sim {p p0 : Pg} {P : Program} (hty : p0.ty = p.ty) (hfn : p0.fn = p.fn) (hF : Fits p0 P) (hsp : SpecSim p0 P) (hsl : SpecLog p0) {g : Nat} {fn : Func} {c : Code} (hf : P.funcs[g]? = some fn) (hname : (fn.name == "runtime.NumGoroutine") = false) (hb : fn.body = some c)
    {vE : Value} {hE : H} {lg : List Nat} (hi : ic p0 (.fn g) [] H.empty = some (vE,hE,lg)) {os : List IObj} (hol : os.length = hE.n) (hos : ∀ (i : Nat) (o : IObj),os[i]? = some o → o = .dead ∨ hE.get i = some o) (hok : ∀ o ∈ os,okO o = true) (hov : okV 8 vE = true) (hpv : isPoison vE = false) :
    ∀ args h v h1 lg,knownS os vE args h = some (v,h1,lg) → ∀ φ w (args' : Array Value),Rel p φ h.get w → Dom φ h.n → VPL φ args args'.toList →
      (∃ v' w',(callFunc g args').run P w = .ok (.value v') w' ∧ Post p φ h w v h1 v' w' ∧ NoYield args) ∨
      ((callFunc g args').run P w = .ok (.enter g args') w ∧ CallsIn Fence.wide 0 P g args' w fun e w' => ∃ v',e = .returned v' ∧ Post p φ h w v h1 v' w') := by
  intro args h v h1 lg' hh φ w args' hR hd ha
  unfold knownS at hh
  split at hh
  case h_2 => cases hh
  cases hh
  obtain ⟨l⟩ := args'
  match l,ha with
  | _ :: _,ha => have := ha.1; simp at this
  | [],_ =>
  obtain ⟨n,hn⟩ := ic_iff.1 hi
  have h0R : Rel p0 (fun _ => none) H.empty.get w := ⟨fun b bi h => (by cases h),fun b c bi ci ob oc h => (by cases h)⟩
  refine .inr ⟨run_enter hf hname hb #[] w,?_⟩
  rcases (icall_sim hF hsp hsl n).fn _ _ _ _ _ _ hn (fun _ => none) w #[] h0R (fun b bi h => (by cases h)) ⟨rfl,fun i x y h => (by simp at h)⟩ with ⟨v',w',hrun,_⟩ | ⟨_,hc⟩
  · rw [run_enter hf hname hb] at hrun; cases hrun
  refine hc.mono fun e w' ⟨v',he,φ',g',f',R',hv⟩ => ⟨v',he,?_⟩
  let ψ : Emb := fun b => if b < h.n then φ b else φ' (b - h.n)
  have hlo : ∀ b,b < h.n → ψ b = φ b := fun b hb => if_pos hb
  have hhi : ∀ b,¬ b < h.n → ψ b = φ' (b - h.n) := fun b hb => if_neg hb
  have hshift : ∀ b bi,φ' b = some bi → ψ (h.n + b) = some bi := fun b bi hb => by
    rw [hhi _ (by omega),Nat.add_sub_cancel_left]; exact hb
  have hnew : ∀ r,r < w.heap.size → ¬ Uses φ' hE.get r := fun r hr hu => by
    obtain ⟨_,_,_,h,_⟩ := g'.use r hr hu; cases h
  have hkeep : ∀ r,r < w.heap.size → w'.heap[r]? = w.heap[r]? := fun r hr => f'.keep r hr fun ⟨_,_,_,h,_⟩ => by cases h
  have hsub : Sub φ ψ := fun b bi hb => by rw [hlo b (hd b bi hb)]; exact hb
  have hgl : ∀ b,b < h.n → (pushAll h (os.map (renO (h.n + ·)))).get b = h.get b := fun b hb => by rw [pushAll_get,if_pos hb]
  have hgh : ∀ b bi,φ' b = some bi → ∃ o,os[b]? = some o ∧ (pushAll h (os.map (renO (h.n + ·)))).get (h.n + b) = some (renO (h.n + ·) o) := fun b bi hb => by
    have := g'.dom b bi hb
    obtain ⟨o,ho⟩ : ∃ o,os[b]? = some o := ⟨_,List.getElem?_eq_getElem (by omega)⟩
    refine ⟨o,ho,?_⟩
    rw [pushAll_get,if_neg (by omega),Nat.add_sub_cancel_left,List.getElem?_map,ho]; rfl
  -- a new block that is in use is really new
  have huse : ∀ b bi o,φ' b = some bi → os[b]? = some o → liveO o = true → ¬ bi.r < w.heap.size := fun b bi o hb ho hl hr => by
    refine hnew bi.r hr ⟨b,bi,o,hb,?_,hl,rfl⟩
    rcases hos b o ho with rfl | h
    · cases hl
    · exact h
  have hsplit : ∀ b bi,ψ b = some bi → ¬ b < h.n → ∃ b',b = h.n + b' ∧ φ' b' = some bi := fun b bi hb hn => ⟨b - h.n,by omega,by rw [hhi b hn] at hb; exact hb⟩
  refine ⟨ψ,⟨hlo,fun b bi hb => ?_,?_,fun r hr ho => ?_,fun r hr ho => ?_⟩,⟨f'.os,f'.tape,f'.output,f'.size,fun r hr _ => hkeep r hr⟩,⟨fun b bi hb => ?_,fun b c bi ci ob oc hb hc hob hoc hne hrw hl => ?_⟩,?_⟩
  · rw [pushAll_n,List.length_map,hol]
    by_cases hbn : b < h.n
    · omega
    · obtain ⟨b',rfl,hb'⟩ := hsplit b bi hb hbn
      have := g'.dom b' bi hb'
      omega
  · rw [pushAll_n]; omega
  · obtain ⟨b,bi,ob,hb,hob,hrw,rfl⟩ := ho
    by_cases hbn : b < h.n
    · rw [hlo b hbn] at hb
      rw [hgl b hbn] at hob
      exact ⟨b,bi,ob,hb,hob,hrw,rfl⟩
    · obtain ⟨b',rfl,hb'⟩ := hsplit b bi hb hbn
      obtain ⟨o,ho,hoe⟩ := hgh b' bi hb'
      rw [hoe] at hob
      cases hob
      have h1 := rwO_ren hrw
      exact absurd hr (huse b' bi o hb' ho (by cases o <;> simp_all [rwO,liveO]))
  · obtain ⟨b,bi,ob,hb,hob,hl,rfl⟩ := ho
    by_cases hbn : b < h.n
    · rw [hlo b hbn] at hb
      rw [hgl b hbn] at hob
      exact ⟨b,bi,ob,hb,hob,hl,rfl⟩
    · obtain ⟨b',rfl,hb'⟩ := hsplit b bi hb hbn
      obtain ⟨o,ho,hoe⟩ := hgh b' bi hb'
      rw [hoe] at hob
      cases hob
      exact absurd hr (huse b' bi o hb' ho (liveO_ren hl))
  · by_cases hbn : b < h.n
    · rw [hlo b hbn] at hb
      obtain ⟨ob,h1,h2⟩ := hR.blk b bi hb
      refine ⟨ob,by rw [hgl b hbn]; exact h1,?_⟩
      by_cases hl : liveO ob = true
      · exact (h2.mono hsub).same (hkeep _ (h2.lt hl))
      · cases ob <;> simp [liveO] at hl
        exact .dead
    · obtain ⟨b',rfl,hb'⟩ := hsplit b bi hb hbn
      obtain ⟨o,ho,hoe⟩ := hgh b' bi hb'
      refine ⟨_,hoe,?_⟩
      rcases hos b' o ho with rfl | h
      · exact .dead
      · obtain ⟨o1,h1,h2⟩ := R'.blk b' bi hb'
        rw [h] at h1
        cases h1
        exact (renO_rel hshift h2 (hok o (List.mem_of_getElem? ho))).swap hty hfn
  · by_cases hbn : b < h.n
    · rw [hlo b hbn] at hb
      rw [hgl b hbn] at hob
      by_cases hcn : c < h.n
      · rw [hlo c hcn] at hc
        rw [hgl c hcn] at hoc
        exact hR.inj b c bi ci ob oc hb hc hob hoc hne hrw hl
      · obtain ⟨c',rfl,hc'⟩ := hsplit c ci hc hcn
        obtain ⟨o,ho,hoe⟩ := hgh c' ci hc'
        rw [hoe] at hoc
        cases hoc
        have h1 := huse c' ci o hc' ho (liveO_ren hl)
        obtain ⟨ob',h2,h3⟩ := hR.blk b bi hb
        rw [hob] at h2
        cases h2
        have h4 := h3.lt (by cases ob <;> simp_all [rwO,liveO])
        exact fun e => h1 (by rw [← e]; exact h4)
    · obtain ⟨b',rfl,hb'⟩ := hsplit b bi hb hbn
      obtain ⟨o,ho,hoe⟩ := hgh b' bi hb'
      rw [hoe] at hob
      cases hob
      have hrw1 := rwO_ren hrw
      have h1 := huse b' bi o hb' ho (by cases o <;> simp_all [rwO,liveO])
      by_cases hcn : c < h.n
      · rw [hlo c hcn] at hc
        rw [hgl c hcn] at hoc
        obtain ⟨oc',h2,h3⟩ := hR.blk c ci hc
        rw [hoc] at h2
        cases h2
        have h4 := h3.lt hl
        exact fun e => h1 (by rw [e]; exact h4)
      · obtain ⟨c',rfl,hc'⟩ := hsplit c ci hc hcn
        obtain ⟨o2,ho2,hoe2⟩ := hgh c' ci hc'
        rw [hoe2] at hoc
        cases hoc
        have hl1 := liveO_ren hl
        refine R'.inj b' c' bi ci o o2 hb' hc' ?_ ?_ (fun e => hne (by rw [e])) hrw1 hl1
        · rcases hos b' o ho with rfl | h
          · cases hrw1
          · exact h
        · rcases hos c' o2 ho2 with rfl | h
          · cases hl1
          · exact h
  · rcases hv with h | h
    · rw [hpv] at h; cases h
    · exact .inr (renV_VR hshift h hov)
end Go.L1
