/- Texts of a proof: no condition. -/
import Derived.Test.YtbmpmjljbiepiaaGreatOneQ
set_option autoImplicit true
set_option relaxedAutoImplicit true
set_option linter.all false
set_option linter.unusedVariables false
set_option linter.unusedSimpArgs false
/-! L1, eighteenth part: runs without a limit. -/
namespace Go.L1
open Go

def CLe (c c' : CallF) : Prop := ∀ t args h r, c t args h = some r → c' t args h = some r
def LLe (l l' : LoopF) : Prop := ∀ b b' : List Value → H → Option LOut, (∀ vs h o, b vs h = some o → b' vs h = some o) → ∀ vs h o, l b vs h = some o → l' b' vs h = some o

section
variable {p : Pg}
theorem callV_mono {c c' : CallF} (hc : CLe c c') {h : H} {f : Value} {args : List Value} {r : Value × H × List Nat} (hh : callV c h f args = some r) : callV c' h f args = some r := by
  unfold callV at hh ⊢
  split at hh
  · exact hc _ _ _ _ hh
  · split at hh
    · rename_i h1; rw [if_pos h1]; exact hc _ _ _ _ hh
    · cases hh
  · cases hh
theorem heavyV_mono {c c' : CallF} (hc : CLe c c') {T : Env} {h : H} {o : Op} {r : Value × H × List Nat} (hh : heavyV p c T h o = some r) : heavyV p c' T h o = some r := by
  unfold heavyV at hh ⊢
  split at hh
  · exact hh
  · exact hh
  · split at hh
    · exact hh
    · exact callV_mono hc hh
    · cases hh
  · cases hh
theorem opV_mono {c c' : CallF} (hc : CLe c c') {T : Env} {h : H} {o : Op} {r : Value × H × List Nat} (hh : opV p c T h o = some r) : opV p c' T h o = some r := by
  unfold opV at hh ⊢
  split at hh
  · exact hh
  · exact hh
  · exact heavyV_mono hc hh
theorem ops1_mono {c c' : CallF} (hc : CLe c c') {all : List Oper} : ∀ {l : List Oper} {T : Env} {h : H} {lg : List Nat} {r : Env × H × List Nat}, ops1 p c all l T h lg = some r → ops1 p c' all l T h lg = some r
  | [], _, _, _, _, hh => hh
  | o :: l, T, h, lg, r, hh => by
    unfold ops1 at hh ⊢
    cases hw : wantedV all T o.guard with
    | none => rw [hw] at hh; cases hh
    | some b =>
      rw [hw] at hh
      cases b
      · exact ops1_mono hc hh
      · simp only at hh ⊢
        cases hv : opV p c T h o.op with
        | none => rw [hv] at hh; cases hh
        | some v => rw [hv] at hh; rw [opV_mono hc hv]; exact ops1_mono hc hh
theorem ops2_mono {c c' : CallF} (hc : CLe c c') {all : List Oper} : ∀ {l : List Oper} {T : Env} {h : H} {ms : List Mk} {r : Env × H × List Mk}, ops2 p c all l T h ms = some r → ops2 p c' all l T h ms = some r
  | [], _, _, _, _, hh => hh
  | o :: l, T, h, ms, r, hh => by
    unfold ops2 at hh ⊢
    cases hw : wantedV all T o.guard with
    | none => rw [hw] at hh; cases hh
    | some b =>
      rw [hw] at hh
      cases b
      · exact ops2_mono hc hh
      · simp only at hh ⊢
        cases hv : opV p c T h o.op with
        | none => rw [hv] at hh; cases hh
        | some v => rw [hv] at hh; rw [opV_mono hc hv]; exact ops2_mono hc hh
theorem region_mono {c c' : CallF} (hc : CLe c c') {ops : Array Oper} {draw : Bool} {T : Env} {h : H} {o : Out} (hh : region p c ops draw T h = some o) : region p c' ops draw T h = some o := by
  unfold region at hh ⊢
  cases draw
  · simp only [cond_false] at hh ⊢
    cases hv : ops1 p c ops.toList ops.toList T h [] with
    | none => rw [hv] at hh; cases hh
    | some r => rw [hv] at hh; rw [ops1_mono hc hv]; exact hh
  · simp only [cond_true] at hh ⊢
    cases hv : ops2 p c ops.toList ops.toList T h [] with
    | none => rw [hv] at hh; cases hh
    | some r => rw [hv] at hh; rw [ops2_mono hc hv]; exact hh

theorem loopN_mono : ∀ {n m : Nat}, n ≤ m → LLe (fun b => loopN b n) (fun b => loopN b m)
  | 0, _, _, _, _, _, _, _, _, hh => by cases hh
  | n + 1, 0, h, _, _, _, _, _, _, _ => by omega
  | n + 1, m + 1, hnm, b, b', hb, vs, h, o, hh => by
    simp only [loopN] at hh ⊢
    cases hv : b vs h with
    | none => rw [hv] at hh; cases hh
    | some o1 =>
      rw [hv] at hh
      rw [hb _ _ _ hv]
      simp only at hh ⊢
      cases hx : o1.ex with
      | normal =>
        rw [hx] at hh
        simp only at hh ⊢
        cases hl : loopN b n o1.vs o1.h with
        | none => rw [hl] at hh; cases hh
        | some o2 => rw [hl] at hh; have h3 : loopN b' m o1.vs o1.h = some o2 := loopN_mono (n := n) (m := m) (by omega) b b' hb _ _ _ hl; rw [h3]; exact hh
      | exit id => rw [hx] at hh; exact hh
      | ret => rw [hx] at hh; exact hh

theorem code_mono {c c' : CallF} (hc : CLe c c') {lp lp' : LoopF} (hl : LLe lp lp') {fn : Nat} : ∀ (x : Code) {k : Nat} {T : Env} {h : H} {o : Out}, code p c lp fn x k T h = some o → code p c' lp' fn x k T h = some o := by
  intro x
  induction x with
  | region id ops draw => intro k T h o hh; exact region_mono hc hh
  | seq a b iha ihb =>
    intro k T h o hh
    simp only [code] at hh ⊢
    cases h1 : code p c lp fn a (2 * k) T h with
    | none => rw [h1] at hh; cases hh
    | some o1 =>
      rw [h1] at hh
      rw [iha h1]
      simp only at hh ⊢
      cases hx : o1.ex with
      | normal =>
        rw [hx] at hh
        simp only at hh ⊢
        cases h2 : code p c lp fn b (2 * k + 1) o1.T o1.h with
        | none => rw [h2] at hh; cases hh
        | some o2 => rw [h2] at hh; rw [ihb h2]; exact hh
      | exit id => rw [hx] at hh; exact hh
      | ret => rw [hx] at hh; exact hh
  | cond t a b iha ihb =>
    intro k T h o hh
    simp only [code] at hh ⊢
    split at hh
    · rename_i t ht
      obtain ⟨o1, h1, rfl⟩ := Option.map_eq_some_iff.1 hh
      refine Option.map_eq_some_iff.2 ⟨o1, ?_, rfl⟩
      cases t
      · exact ihb h1
      · exact iha h1
    · cases hh
  | block id b ih =>
    intro k T h o hh
    simp only [code] at hh ⊢
    cases h1 : code p c lp fn b (2 * k) T h with
    | none => rw [h1] at hh; cases hh
    | some o1 => rw [h1] at hh; rw [ih h1]; exact hh
  | loop b ih =>
    intro k T h o hh
    simp only [code] at hh ⊢
    split at hh
    · cases hh
    · rename_i ol hol
      rw [hl _ _ (fun vs h o hb => ?_) _ _ _ hol]
      · exact hh
      · split at hb
        · cases hb
        · rename_i o2 h2
          rw [ih h2]; exact hb
  | rangeFunc g ps asg body iha ihb =>
    intro k T h o hh
    simp only [code] at hh ⊢
    split at hh
    · split at hh
      · cases hh
      · rename_i v h1 lg hv
        rw [hc _ _ _ _ hv]
        exact hh
    · cases hh
  | skip => intro k T h o hh; exact hh
  | exit id => intro k T h o hh; exact hh
  | ret => intro k T h o hh; exact hh
  | _ => intro k T h o hh; cases hh

theorem funcV_mono {c c' : CallF} (hc : CLe c c') {lp lp' : LoopF} (hl : LLe lp lp') {f : Nat} {args : List Value} {h : H} {r : Value × H × List Nat} (hh : funcV p c lp f args h = some r) : funcV p c' lp' f args h = some r := by
  unfold funcV at hh ⊢
  split at hh
  · exact hh
  · split at hh
    · cases hh
    · split at hh
      · exact hh
      · split at hh
        · rename_i x _ hlen
          rw [if_pos hlen]
          cases h1 : code p c lp f x 3 (Env.args 0 args) h with
          | none => rw [h1] at hh; cases hh
          | some o => rw [h1] at hh; rw [code_mono hc hl _ h1]; exact hh
        · cases hh
theorem roundV_mono {c c' : CallF} (hc : CLe c c') {lp lp' : LoopF} (hl : LLe lp lp') {l : Nat} {args : List Value} {h : H} {r : Value × H × List Nat} (hh : roundV p c lp l args h = some r) : roundV p c' lp' l args h = some r := by
  unfold roundV at hh ⊢
  split at hh
  · split at hh
    · rename_i f T ps asg body hget hlen
      rw [if_pos hlen]
      cases h1 : code p c lp f asg 4 (T.sets ps args) h with
      | none => rw [h1] at hh; cases hh
      | some o =>
        rw [h1] at hh
        rw [code_mono hc hl _ h1]
        simp only at hh ⊢
        split at hh
        · rename_i hex
          rw [if_pos hex]
          split at hh
          · rename_i f2 T2 ps2 asg2 body2 hg2
            cases h2 : code p c lp f body 5 o.T (o.h.set l (.loop .busy none f2 T2 ps2 asg2 body2)) with
            | none => rw [h2] at hh; cases hh
            | some o2 => rw [h2] at hh; rw [code_mono hc hl _ h2]; exact hh
          · cases hh
        · cases hh
    · cases hh
  · cases hh

theorem icall_step : ∀ n, CLe (icall p n) (icall p (n + 1))
  | 0, t, _, _, _, hh => by cases t <;> cases hh
  | n + 1, .fn f, args, h, r, hh => funcV_mono (icall_step n) (loopN_mono (Nat.le_succ n)) hh
  | n + 1, .yield l, args, h, r, hh => roundV_mono (icall_step n) (loopN_mono (Nat.le_succ n)) hh
theorem icall_mono : ∀ {n m : Nat}, n ≤ m → CLe (icall p n) (icall p m) := by
  intro n m h
  induction m with
  | zero => cases Nat.le_zero.1 h; exact fun _ _ _ _ h => h
  | succ m ih =>
    rcases Nat.lt_or_eq_of_le h with h1 | rfl
    · exact fun t a h r hh => icall_step m t a h r (ih (by omega) t a h r hh)
    · exact fun _ _ _ _ h => h

/-! ### The limits -/
open Classical in
noncomputable def ic (p : Pg) : CallF := fun t args h => if hx : ∃ r n, icall p n t args h = some r then some (Classical.choose hx) else none
theorem ic_iff {t : Tgt} {args : List Value} {h : H} {r : Value × H × List Nat} : ic p t args h = some r ↔ ∃ n, icall p n t args h = some r := by
  unfold ic
  constructor
  · intro hh
    split at hh
    · rename_i hx
      cases hh
      exact Classical.choose_spec hx
    · cases hh
  · rintro ⟨n, hn⟩
    have hx : ∃ r n, icall p n t args h = some r := ⟨r, n, hn⟩
    rw [dif_pos hx]
    obtain ⟨m, hm⟩ := Classical.choose_spec hx
    have h1 := icall_mono (Nat.le_max_left n m) _ _ _ _ hn
    have h2 := icall_mono (Nat.le_max_right n m) _ _ _ _ hm
    rw [h1] at h2
    exact h2.symm
open Classical in
noncomputable def lw : LoopF := fun b vs h => if hx : ∃ r n, loopN b n vs h = some r then some (Classical.choose hx) else none
theorem lw_iff {b : List Value → H → Option LOut} {vs : List Value} {h : H} {r : LOut} : lw b vs h = some r ↔ ∃ n, loopN b n vs h = some r := by
  unfold lw
  constructor
  · intro hh
    split at hh
    · rename_i hx
      cases hh
      exact Classical.choose_spec hx
    · cases hh
  · rintro ⟨n, hn⟩
    have hx : ∃ r n, loopN b n vs h = some r := ⟨r, n, hn⟩
    rw [dif_pos hx]
    obtain ⟨m, hm⟩ := Classical.choose_spec hx
    have h1 := loopN_mono (Nat.le_max_left n m) b b (fun _ _ _ h => h) _ _ _ hn
    have h2 := loopN_mono (Nat.le_max_right n m) b b (fun _ _ _ h => h) _ _ _ hm
    simp only at h1 h2
    rw [h1] at h2
    exact h2.symm

/-- A loop's round. -/
theorem lw_next {b : List Value → H → Option LOut} {vs : List Value} {h : H} {o o2 : LOut} (h1 : b vs h = some o) (hx : o.ex = .normal) (h2 : lw b o.vs o.h = some o2) : lw b vs h = some { o2 with lg := o2.lg ++ o.lg } := by
  obtain ⟨n, hn⟩ := lw_iff.1 h2
  refine lw_iff.2 ⟨n + 1, ?_⟩
  simp only [loopN, h1, hx, hn]
theorem lw_last {b : List Value → H → Option LOut} {vs : List Value} {h : H} {o : LOut} (h1 : b vs h = some o) (hx : o.ex ≠ .normal) : lw b vs h = some o := by
  refine lw_iff.2 ⟨1, ?_⟩
  cases he : o.ex with
  | normal => exact absurd he hx
  | exit id => simp only [loopN, h1, he]
  | ret => simp only [loopN, h1, he]

abbrev LN (n : Nat) : LoopF := fun b => loopN b n
theorem callV_lim {h : H} {f : Value} {args : List Value} {r : Value × H × List Nat} (hh : callV (ic p) h f args = some r) : ∃ n, callV (icall p n) h f args = some r := by
  unfold callV at hh ⊢
  split at hh
  · exact ic_iff.1 hh
  · split at hh
    · rename_i h1
      obtain ⟨n, hn⟩ := ic_iff.1 hh
      exact ⟨n, by rw [if_pos h1]; exact hn⟩
    · cases hh
  · cases hh
theorem opV_lim {T : Env} {h : H} {o : Op} {r : Value × H × List Nat} (hh : opV p (ic p) T h o = some r) : ∃ n, opV p (icall p n) T h o = some r := by
  unfold opV at hh ⊢
  split at hh
  · exact ⟨0, hh⟩
  · exact ⟨0, hh⟩
  · unfold heavyV at hh ⊢
    split at hh
    · exact ⟨0, hh⟩
    · exact ⟨0, hh⟩
    · split at hh
      · exact ⟨0, hh⟩
      · exact callV_lim hh
      · cases hh
    · cases hh
theorem ops1_lim {all : List Oper} : ∀ {l : List Oper} {T : Env} {h : H} {lg : List Nat} {r : Env × H × List Nat}, ops1 p (ic p) all l T h lg = some r → ∃ n, ops1 p (icall p n) all l T h lg = some r
  | [], _, _, _, _, hh => ⟨0, hh⟩
  | o :: l, T, h, lg, r, hh => by
    unfold ops1 at hh ⊢
    cases hw : wantedV all T o.guard with
    | none => rw [hw] at hh; cases hh
    | some b =>
      rw [hw] at hh
      cases b
      · exact ops1_lim hh
      · simp only at hh ⊢
        cases hv : opV p (ic p) T h o.op with
        | none => rw [hv] at hh; cases hh
        | some v =>
          rw [hv] at hh
          obtain ⟨n, hn⟩ := opV_lim hv
          obtain ⟨m, hm⟩ := ops1_lim hh
          refine ⟨max n m, ?_⟩
          rw [opV_mono (icall_mono (Nat.le_max_left n m)) hn]
          exact ops1_mono (icall_mono (Nat.le_max_right n m)) hm
theorem ops2_lim {all : List Oper} : ∀ {l : List Oper} {T : Env} {h : H} {ms : List Mk} {r : Env × H × List Mk}, ops2 p (ic p) all l T h ms = some r → ∃ n, ops2 p (icall p n) all l T h ms = some r
  | [], _, _, _, _, hh => ⟨0, hh⟩
  | o :: l, T, h, ms, r, hh => by
    unfold ops2 at hh ⊢
    cases hw : wantedV all T o.guard with
    | none => rw [hw] at hh; cases hh
    | some b =>
      rw [hw] at hh
      cases b
      · exact ops2_lim hh
      · simp only at hh ⊢
        cases hv : opV p (ic p) T h o.op with
        | none => rw [hv] at hh; cases hh
        | some v =>
          rw [hv] at hh
          obtain ⟨n, hn⟩ := opV_lim hv
          obtain ⟨m, hm⟩ := ops2_lim hh
          refine ⟨max n m, ?_⟩
          rw [opV_mono (icall_mono (Nat.le_max_left n m)) hn]
          exact ops2_mono (icall_mono (Nat.le_max_right n m)) hm
theorem region_lim {ops : Array Oper} {draw : Bool} {T : Env} {h : H} {o : Out} (hh : region p (ic p) ops draw T h = some o) : ∃ n, region p (icall p n) ops draw T h = some o := by
  unfold region at hh ⊢
  cases draw
  · simp only [cond_false] at hh ⊢
    cases hv : ops1 p (ic p) ops.toList ops.toList T h [] with
    | none => rw [hv] at hh; cases hh
    | some r => rw [hv] at hh; obtain ⟨n, hn⟩ := ops1_lim hv; exact ⟨n, by rw [hn]; exact hh⟩
  · simp only [cond_true] at hh ⊢
    cases hv : ops2 p (ic p) ops.toList ops.toList T h [] with
    | none => rw [hv] at hh; cases hh
    | some r => rw [hv] at hh; obtain ⟨n, hn⟩ := ops2_lim hv; exact ⟨n, by rw [hn]; exact hh⟩

theorem cm {n m : Nat} (h : n ≤ m) {fn : Nat} {x : Code} {k : Nat} {T : Env} {hp : H} {o : Out} (hh : code p (icall p n) (LN n) fn x k T hp = some o) : code p (icall p m) (LN m) fn x k T hp = some o :=
  code_mono (icall_mono h) (loopN_mono h) x hh

theorem code_lim {fn : Nat} : ∀ (x : Code) {k : Nat} {T : Env} {h : H} {o : Out}, code p (ic p) lw fn x k T h = some o → ∃ n, code p (icall p n) (LN n) fn x k T h = some o := by
  intro x
  induction x with
  | region id ops draw =>
    intro k T h o hh
    obtain ⟨n, hn⟩ := region_lim hh
    exact ⟨n, hn⟩
  | seq a b iha ihb =>
    intro k T h o hh
    simp only [code] at hh
    cases h1 : code p (ic p) lw fn a (2 * k) T h with
    | none => rw [h1] at hh; cases hh
    | some o1 =>
      rw [h1] at hh
      obtain ⟨n, hn⟩ := iha h1
      simp only at hh
      cases hx : o1.ex with
      | normal =>
        rw [hx] at hh
        simp only at hh
        cases h2 : code p (ic p) lw fn b (2 * k + 1) o1.T o1.h with
        | none => rw [h2] at hh; cases hh
        | some o2 =>
          rw [h2] at hh
          obtain ⟨m, hm⟩ := ihb h2
          refine ⟨max n m, ?_⟩
          simp only [code]
          rw [cm (Nat.le_max_left n m) hn]
          simp only [hx]
          rw [cm (Nat.le_max_right n m) hm]
          exact hh
      | exit id => rw [hx] at hh; exact ⟨n, by simp only [code]; rw [hn]; simp only [hx]; exact hh⟩
      | ret => rw [hx] at hh; exact ⟨n, by simp only [code]; rw [hn]; simp only [hx]; exact hh⟩
  | cond t a b iha ihb =>
    intro k T h o hh
    simp only [code] at hh ⊢
    split at hh
    · rename_i t ht
      obtain ⟨o1, h1, rfl⟩ := Option.map_eq_some_iff.1 hh
      cases t
      · obtain ⟨n, hn⟩ := ihb h1
        exact ⟨n, Option.map_eq_some_iff.2 ⟨o1, hn, rfl⟩⟩
      · obtain ⟨n, hn⟩ := iha h1
        exact ⟨n, Option.map_eq_some_iff.2 ⟨o1, hn, rfl⟩⟩
    · cases hh
  | block id b ih =>
    intro k T h o hh
    simp only [code] at hh
    cases h1 : code p (ic p) lw fn b (2 * k) T h with
    | none => rw [h1] at hh; cases hh
    | some o1 =>
      rw [h1] at hh
      obtain ⟨n, hn⟩ := ih h1
      exact ⟨n, by simp only [code]; rw [hn]; exact hh⟩
  | loop b ih =>
    intro k T h o hh
    simp only [code] at hh
    split at hh
    · cases hh
    · rename_i ol hol
      let body : CallF → LoopF → List Value → H → Option LOut := fun c lp vs h => match code p c lp fn b (2 * k) (Env.ofList (p.live fn k) vs) h with
        | none => none
        | some o => some ⟨o.ex, o.T.vals (p.live fn k), o.h, o.lg⟩
      have hbm : ∀ {n m : Nat}, n ≤ m → ∀ vs h o, body (icall p n) (LN n) vs h = some o → body (icall p m) (LN m) vs h = some o := by
        intro n m hnm vs h o hb
        simp only [body] at hb ⊢
        split at hb
        · cases hb
        · rename_i o2 h2; rw [cm hnm h2]; exact hb
      obtain ⟨N, hN⟩ := lw_iff.1 hol
      have key : ∀ (N : Nat) {vs : List Value} {h : H} {o : LOut}, loopN (body (ic p) lw) N vs h = some o → ∃ n, loopN (body (icall p n) (LN n)) n vs h = some o := by
        intro N
        induction N with
        | zero => intro vs h o hh; cases hh
        | succ N ihN =>
          intro vs h o hh
          simp only [loopN] at hh
          cases hb : body (ic p) lw vs h with
          | none => rw [hb] at hh; cases hh
          | some o1 =>
            rw [hb] at hh
            have : ∃ n, body (icall p n) (LN n) vs h = some o1 := by
              simp only [body] at hb ⊢
              split at hb
              · cases hb
              · rename_i o2 h2
                obtain ⟨n, hn⟩ := ih h2
                exact ⟨n, by rw [hn]; exact hb⟩
            obtain ⟨n, hn⟩ := this
            simp only at hh
            cases hx : o1.ex with
            | normal =>
              rw [hx] at hh
              simp only at hh
              cases hl : loopN (body (ic p) lw) N o1.vs o1.h with
              | none => rw [hl] at hh; cases hh
              | some o2 =>
                rw [hl] at hh
                obtain ⟨m, hm⟩ := ihN hl
                refine ⟨max n m + 1, ?_⟩
                simp only [loopN]
                rw [hbm (by omega) _ _ _ hn]
                simp only [hx]
                have h3 : loopN (body (icall p (max n m + 1)) (LN (max n m + 1))) (max n m) o1.vs o1.h = some o2 := loopN_mono (Nat.le_max_right n m) _ _ (hbm (by omega)) _ _ _ hm
                rw [h3]
                exact hh
            | exit id =>
              rw [hx] at hh
              refine ⟨n + 1, ?_⟩
              simp only [loopN]
              rw [hbm (by omega) _ _ _ hn]
              simp only [hx]
              exact hh
            | ret =>
              rw [hx] at hh
              refine ⟨n + 1, ?_⟩
              simp only [loopN]
              rw [hbm (by omega) _ _ _ hn]
              simp only [hx]
              exact hh
      obtain ⟨n, hn⟩ := key N hN
      refine ⟨n, ?_⟩
      simp only [code]
      have hn' : LN n (fun vs h => match code p (icall p n) (LN n) fn b (2 * k) (Env.ofList (p.live fn k) vs) h with
        | none => none
        | some o => some ⟨o.ex, o.T.vals (p.live fn k), o.h, o.lg⟩) (T.vals (p.live fn k)) h = some ol := hn
      split
      · rename_i heq
        have e := heq.symm.trans hn'
        cases e
      · rename_i o2 heq
        have e := heq.symm.trans hn'
        cases e
        exact hh
  | rangeFunc g ps asg body iha ihb =>
    intro k T h o hh
    simp only [code] at hh ⊢
    split at hh
    · split at hh
      · cases hh
      · rename_i v h1 lg hv
        obtain ⟨n, hn⟩ := ic_iff.1 hv
        exact ⟨n, by rw [hn]; exact hh⟩
    · cases hh
  | skip => intro k T h o hh; exact ⟨0, hh⟩
  | exit id => intro k T h o hh; exact ⟨0, hh⟩
  | ret => intro k T h o hh; exact ⟨0, hh⟩
  | _ => intro k T h o hh; cases hh

/-- **A function's run without a limit**, by the runs without a limit of what it calls. -/
theorem ic_fn {f : Nat} {args : List Value} {h : H} {r : Value × H × List Nat} (hh : funcV p (ic p) lw f args h = some r) : ic p (.fn f) args h = some r := by
  refine ic_iff.2 ?_
  have : ∃ n, funcV p (icall p n) (LN n) f args h = some r := by
    unfold funcV at hh ⊢
    split at hh
    · exact ⟨0, hh⟩
    · split at hh
      · cases hh
      · split at hh
        · exact ⟨0, hh⟩
        · split at hh
          · rename_i x _ hlen
            cases h1 : code p (ic p) lw f x 3 (Env.args 0 args) h with
            | none => rw [h1] at hh; cases hh
            | some o =>
              rw [h1] at hh
              obtain ⟨n, hn⟩ := code_lim x h1
              exact ⟨n, by rw [if_pos hlen, hn]; exact hh⟩
          · cases hh
  obtain ⟨n, hn⟩ := this
  exact ⟨n + 1, hn⟩
end
end Go.L1
