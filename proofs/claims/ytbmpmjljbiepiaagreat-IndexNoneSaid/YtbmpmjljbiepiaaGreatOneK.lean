/- Texts of a proof: no condition. -/
import Derived.Test.YtbmpmjljbiepiaaGreatOneJ
set_option autoImplicit true
set_option relaxedAutoImplicit true
set_option linter.all false
set_option linter.unusedVariables false
set_option linter.unusedSimpArgs false
/-! L1, eleventh part: what a log is good for. -/
namespace Go.L1
open Go

/-- What was there and is not in the log is as it was. -/
structure Stp (h h1 : H) (lg : List Nat) : Prop where
  le : h.n ≤ h1.n
  same : ∀ b, b < h.n → b ∉ lg → h1.get b = h.get b
theorem Stp.refl (h : H) (lg : List Nat) : Stp h h lg := ⟨Nat.le_refl _, fun _ _ _ => rfl⟩
theorem Stp.trans {h h1 h2 : H} {l1 l2 : List Nat} (a : Stp h h1 l1) (b : Stp h1 h2 l2) : Stp h h2 (l2 ++ l1) :=
  ⟨Nat.le_trans a.le b.le, fun x hx hl => by
    simp only [List.mem_append, not_or] at hl
    exact (b.same x (Nat.lt_of_lt_of_le hx a.le) hl.1).trans (a.same x hx hl.2)⟩
theorem Stp.push (h : H) (ob : IObj) (lg : List Nat) : Stp h (h.push ob) lg :=
  ⟨by simp [H.push], fun b hb _ => by rw [H.get_push, if_neg (by omega)]⟩
theorem Stp.set (h : H) (r : Nat) (ob : IObj) {lg : List Nat} (hr : r ∈ lg) : Stp h (h.set r ob) lg :=
  ⟨Nat.le_refl _, fun b _ hl => by rw [H.get_set, if_neg (fun e => hl (by rw [e]; exact hr))]⟩
theorem Stp.more {h h1 : H} {l l' : List Nat} (a : Stp h h1 l) (hs : ∀ b, b < h.n → b ∈ l → b ∈ l') : Stp h h1 l' :=
  ⟨a.le, fun b hb hl => a.same b hb fun hm => hl (hs b hb hm)⟩

theorem writeAt_stp {h h1 : H} {b off : Nat} {new : List Value} (hw : writeAt h b off new = some h1) : Stp h h1 [b] := by
  obtain ⟨vs, ty, _, _, rfl⟩ := writeAt_inv hw
  exact Stp.set _ _ _ (by simp)

def CallLog (call : CallF) : Prop := ∀ t args h v h1 lg, call t args h = some (v, h1, lg) → Stp h h1 lg
def SpecLog (p : Pg) : Prop := ∀ f s, p.spec f = some s → ∀ args h v h1 lg, s args h = some (v, h1, lg) → Stp h h1 lg

section
variable {p : Pg}

theorem rAppend_stp {h : H} {e : Nat} {ei : TyI} {a : Option Addr} {n c m : Nat} {new : List Value} {v : Value} {h1 : H} {lg : List Nat}
    (hh : rAppend h e ei a n c m new = some (v, h1, lg)) : Stp h h1 lg := by
  unfold rAppend at hh
  split at hh
  · split at hh
    · split at hh
      · split at hh
        · cases hh; exact Stp.refl _ _
        · cases hh; exact Stp.push _ _ _
      · cases hh
    · rename_i b o
      split at hh
      · cases hh; exact Stp.refl _ _
      · split at hh
        · split at hh
          · split at hh
            · split at hh
              · obtain ⟨h2, hw, e⟩ := Option.map_eq_some_iff.1 hh
                cases e; exact writeAt_stp hw
              · obtain ⟨h2, hw, e⟩ := Option.map_eq_some_iff.1 hh
                cases e
                exact ((Stp.set h b .dead (lg := [b]) (by simp)).trans (Stp.push (h.kill b) _ [])).more (fun b _ h => by simpa using h)
            · cases hh
          · split at hh
            · obtain ⟨h2, hw, e⟩ := Option.map_eq_some_iff.1 hh
              cases e; exact writeAt_stp hw
            · obtain ⟨h2, hw, e⟩ := Option.map_eq_some_iff.1 hh
              cases e; exact Stp.push _ _ _
        · split at hh
          · cases hh
          · split at hh
            · cases hh
            · obtain ⟨h2, hw, e⟩ := Option.map_eq_some_iff.1 hh
              cases e; exact Stp.push _ _ _
        · cases hh
    · cases hh
  · cases hh

theorem rCopy_stp {h : H} {es : Nat} {d x : Value} {v : Value} {h1 : H} {lg : List Nat} (hh : rCopy h es d x = some (v, h1, lg)) : Stp h h1 lg := by
  unfold rCopy at hh
  split at hh
  · split at hh
    · cases hh; exact Stp.refl _ _
    · obtain ⟨new, _, hh⟩ := Option.bind_eq_some_iff.1 hh
      split at hh
      · obtain ⟨h2, hw, e⟩ := Option.map_eq_some_iff.1 hh
        cases e; exact writeAt_stp hw
      · cases hh
  · cases hh

theorem rClear_stp {h : H} {ei : TyI} {d : Value} {v : Value} {h1 : H} {lg : List Nat} (hh : rClear h ei d = some (v, h1, lg)) : Stp h h1 lg := by
  unfold rClear at hh
  split at hh
  · split at hh
    · cases hh; exact Stp.refl _ _
    · split at hh
      · obtain ⟨h2, hw, e⟩ := Option.map_eq_some_iff.1 hh
        cases e; exact writeAt_stp hw
      · cases hh
  · cases hh

theorem heavyV_stp {call : CallF} (hc : CallLog call) {T : Env} {h : H} {o : Op} {v : Value} {h1 : H} {lg : List Nat} (hh : heavyV p call T h o = some (v, h1, lg)) : Stp h h1 lg := by
  unfold heavyV at hh
  split at hh
  · obtain ⟨i, _, hh⟩ := Option.bind_eq_some_iff.1 hh
    unfold rStore at hh
    split at hh
    · obtain ⟨cs, _, hh⟩ := Option.bind_eq_some_iff.1 hh
      split at hh
      · obtain ⟨h2, hw, e⟩ := Option.map_eq_some_iff.1 hh
        cases e; exact writeAt_stp hw
      · cases hh
    · cases hh
  · obtain ⟨i, _, hh⟩ := Option.bind_eq_some_iff.1 hh
    split at hh
    · obtain ⟨ki, _, hh⟩ := Option.bind_eq_some_iff.1 hh
      split at hh
      · unfold rMapUpd at hh
        split at hh
        · split at hh
          · split at hh
            · obtain ⟨es1, _, e⟩ := Option.map_eq_some_iff.1 hh
              cases e; exact Stp.set _ _ _ (by simp)
            · cases hh
          · cases hh
        · cases hh
      · cases hh
    · cases hh
  · split at hh
    · unfold builtinH at hh
      split at hh
      · obtain ⟨⟨e, ei⟩, _, hh⟩ := Option.bind_eq_some_iff.1 hh
        obtain ⟨⟨m, new⟩, _, hh⟩ := Option.bind_eq_some_iff.1 hh
        simp only at hh
        split at hh
        · exact rAppend_stp hh
        · cases hh
      · obtain ⟨⟨e, ei⟩, _, hh⟩ := Option.bind_eq_some_iff.1 hh
        exact rCopy_stp hh
      · obtain ⟨⟨e, ei⟩, _, hh⟩ := Option.bind_eq_some_iff.1 hh
        exact rClear_stp hh
      · cases hh
    · unfold callV at hh
      split at hh
      · exact hc _ _ _ _ _ _ hh
      · split at hh
        · exact hc _ _ _ _ _ _ hh
        · cases hh
      · cases hh
    · cases hh
  · cases hh

theorem callV_stp {call : CallF} (hc : CallLog call) {h : H} {f : Value} {args : List Value} {v : Value} {h1 : H} {lg : List Nat} (hh : callV call h f args = some (v, h1, lg)) : Stp h h1 lg := by
  unfold callV at hh
  split at hh
  · exact hc _ _ _ _ _ _ hh
  · split at hh
    · exact hc _ _ _ _ _ _ hh
    · cases hh
  · cases hh

theorem opV_stp {call : CallF} (hc : CallLog call) {T : Env} {h : H} {o : Op} {v : Value} {h1 : H} {lg : List Nat} (hh : opV p call T h o = some (v, h1, lg)) : Stp h h1 lg := by
  unfold opV at hh
  split at hh
  · obtain ⟨x, _, e⟩ := Option.map_eq_some_iff.1 hh
    cases e; exact Stp.refl _ _
  · obtain ⟨⟨x, ob⟩, _, e⟩ := Option.map_eq_some_iff.1 hh
    cases e; exact Stp.push _ _ _
  · exact heavyV_stp hc hh

theorem ops1_stp {call : CallF} (hc : CallLog call) {all : List Oper} : ∀ {l : List Oper} {T : Env} {h : H} {lg : List Nat} {T1 : Env} {h1 : H} {lg1 : List Nat},
    ops1 p call all l T h lg = some (T1, h1, lg1) → ∃ l1, lg1 = l1 ++ lg ∧ Stp h h1 l1
  | [], T, h, lg, T1, h1, lg1, hh => by cases hh; exact ⟨[], rfl, Stp.refl _ _⟩
  | o :: l, T, h, lg, T1, h1, lg1, hh => by
    unfold ops1 at hh
    split at hh
    · cases hh
    · exact ops1_stp hc hh
    · split at hh
      · cases hh
      · rename_i hv
        obtain ⟨l2, rfl, hs⟩ := ops1_stp hc hh
        exact ⟨l2 ++ _, by rw [List.append_assoc], (opV_stp hc hv).trans hs⟩

theorem ops2_stp {call : CallF} (hc : CallLog call) {all : List Oper} : ∀ {l : List Oper} {T : Env} {h : H} {ms : List Mk} {T1 : Env} {h1 : H} {ms1 : List Mk},
    ops2 p call all l T h ms = some (T1, h1, ms1) → ∃ m1, ms1 = ms ++ m1 ∧ Stp h h1 (logOf m1)
  | [], T, h, lg, T1, h1, lg1, hh => by cases hh; exact ⟨[], by simp, Stp.refl _ _⟩
  | o :: l, T, h, lg, T1, h1, lg1, hh => by
    unfold ops2 at hh
    split at hh
    · cases hh
    · obtain ⟨l2, rfl, hs⟩ := ops2_stp hc hh
      exact ⟨_ :: l2, by rw [List.append_assoc]; rfl, hs.more fun b _ h => by simpa [logOf] using h⟩
    · split at hh
      · cases hh
      · rename_i hv
        obtain ⟨l2, rfl, hs⟩ := ops2_stp hc hh
        refine ⟨_ :: l2, by rw [List.append_assoc]; rfl, ((opV_stp hc hv).trans hs).more fun b _ h => ?_⟩
        simp only [logOf, List.flatMap_cons, List.mem_append] at h ⊢
        exact h.symm

theorem region_stp {call : CallF} (hc : CallLog call) {ops : Array Oper} {draw : Bool} {T : Env} {h : H} {o : Out} (hh : region p call ops draw T h = some o) : Stp h o.h o.lg := by
  unfold region at hh
  cases draw
  · simp only [cond_false] at hh
    split at hh
    · cases hh
    · rename_i he
      cases hh
      obtain ⟨l, hl, hs⟩ := ops1_stp hc he
      rw [List.append_nil] at hl
      subst hl
      exact hs
  · simp only [cond_true] at hh
    split at hh
    · cases hh
    · rename_i he
      split at hh
      · cases hh
        obtain ⟨l, hl, hs⟩ := ops2_stp hc he
        rw [List.nil_append] at hl
        subst hl
        exact hs
      · cases hh

theorem loopN_stp {body : List Value → H → Option LOut} (hb : ∀ vs h o, body vs h = some o → Stp h o.h o.lg) : ∀ {n : Nat} {vs : List Value} {h : H} {o : LOut}, loopN body n vs h = some o → Stp h o.h o.lg
  | 0, vs, h, o, hh => by cases hh
  | n + 1, vs, h, o, hh => by
    unfold loopN at hh
    split at hh
    · cases hh
    · rename_i o1 h1
      split at hh
      · split at hh
        · cases hh
        · rename_i o2 h2
          cases hh
          exact (hb _ _ _ h1).trans (loopN_stp hb h2)
      · cases hh; exact hb _ _ _ h1

def LoopLog (lp : LoopF) : Prop := ∀ body, (∀ vs h o, body vs h = some o → Stp h o.h o.lg) → ∀ vs h o, lp body vs h = some o → Stp h o.h o.lg

theorem code_stp {call : CallF} (hc : CallLog call) {lp : LoopF} (hl : LoopLog lp) {fn : Nat} : ∀ (c : Code) {k : Nat} {T : Env} {h : H} {o : Out}, code p call lp fn c k T h = some o → Stp h o.h o.lg := by
  intro c
  induction c with
  | skip => intro k T h o hh; cases hh; exact Stp.refl _ _
  | region id ops draw => intro k T h o hh; exact region_stp hc hh
  | seq a b iha ihb =>
    intro k T h o hh
    simp only [code] at hh
    split at hh
    · cases hh
    · rename_i o1 h1
      split at hh
      · split at hh
        · cases hh
        · rename_i o2 h2
          cases hh
          exact (iha h1).trans (ihb h2)
      · cases hh; exact iha h1
  | cond c a b iha ihb =>
    intro k T h o hh
    simp only [code] at hh
    split at hh
    · rename_i t ht
      obtain ⟨o1, h1, rfl⟩ := Option.map_eq_some_iff.1 hh
      have e : (maskN (p.live fn k) o1).h = o1.h ∧ (maskN (p.live fn k) o1).lg = o1.lg := by unfold maskN; split <;> exact ⟨rfl, rfl⟩
      rw [e.1, e.2]
      cases t
      · exact ihb h1
      · exact iha h1
    · cases hh
  | block id b ih =>
    intro k T h o hh
    simp only [code] at hh
    split at hh
    · cases hh
    · rename_i o1 h1
      split at hh
      · split at hh
        · cases hh; have := ih h1; exact this
        · cases hh; exact ih h1
      · cases hh; have := ih h1; exact this
      · cases hh; exact ih h1
  | loop b ih =>
    intro k T h o hh
    simp only [code] at hh
    split at hh
    · cases hh
    · rename_i o1 h1
      cases hh
      refine hl _ (fun vs h o hb => ?_) _ _ _ h1
      split at hb
      · cases hb
      · rename_i o2 h2
        cases hb
        exact ih h2
  | exit id => intro k T h o hh; cases hh; exact Stp.refl _ _
  | ret => intro k T h o hh; cases hh; exact Stp.refl _ _
  | rangeFunc f ps asg body iha ihb =>
    intro k T h o hh
    simp only [code] at hh
    split at hh
    · split at hh
      · cases hh
      · rename_i v h1 lg hv
        split at hh
        · split at hh
          · cases hh
          · split at hh
            · cases hh
            · cases hh
              refine ((Stp.push h _ []).trans ((hc _ _ _ _ _ _ hv).trans (Stp.set h1 h.n .dead (lg := [h.n]) (by simp)))).more fun b hb h => ?_
              simpa using h
        · cases hh
    · cases hh
  | _ => intro k T h o hh; cases hh

theorem settle_stp {h0 h1 : H} {v : Value} {lg : List Nat} (hs : Stp h0 h1 lg) {v' : Value} {h' : H} {lg' : List Nat} (he : settle h0 v h1 lg = (v', h', lg')) : Stp h0 h' lg' := by
  unfold settle at he
  simp only at he
  split at he
  · cases he; exact Stp.refl _ _
  · cases he; exact hs.more fun b hb hm => List.mem_filter.2 ⟨hm, by simpa using hb⟩

theorem funcV_stp {call : CallF} (hsp : SpecLog p) (hc : CallLog call) {lp : LoopF} (hl : LoopLog lp) {f : Nat} {args : List Value} {h : H} {v : Value} {h1 : H} {lg : List Nat}
    (hh : funcV p call lp f args h = some (v, h1, lg)) : Stp h h1 lg := by
  unfold funcV at hh
  split at hh
  · rename_i s hs
    exact hsp _ _ hs _ _ _ _ _ hh
  · split at hh
    · cases hh
    · split at hh
      · unfold ext at hh
        split at hh
        · split at hh
          · cases hh; exact Stp.refl _ _
          · cases hh
        · cases hh
      · split at hh
        · split at hh
          · cases hh
          · rename_i o ho
            split at hh
            · cases hh
            · split at hh
              · cases hh
              · rename_i vs hvs
                exact settle_stp (code_stp hc hl _ ho) (Option.some.inj hh)
        · cases hh

theorem roundV_stp {call : CallF} (hc : CallLog call) {lp : LoopF} (hl : LoopLog lp) {l : Nat} {args : List Value} {h : H} {v : Value} {h1 : H} {lg : List Nat}
    (hh : roundV p call lp l args h = some (v, h1, lg)) : Stp h h1 lg := by
  unfold roundV at hh
  split at hh
  · split at hh
    · split at hh
      · cases hh
      · rename_i o ho
        split at hh
        · split at hh
          · split at hh
            · cases hh
            · rename_i o2 ho2
              split at hh
              · cases hh
                apply Stp.more (l := ([l] ++ o2.lg) ++ ([l] ++ o.lg))
                · exact ((code_stp hc hl _ ho).trans (Stp.set o.h l _ (lg := [l]) (by simp))).trans ((code_stp hc hl _ ho2).trans (Stp.set o2.h l _ (lg := [l]) (by simp)))
                intro b hb hm
                refine List.mem_filter.2 ⟨?_, by simpa using hb⟩
                simp only [List.mem_append, List.mem_cons, List.not_mem_nil, or_false] at hm ⊢
                rcases hm with (h | h) | (h | h)
                · exact .inl h
                · exact .inr (.inl h)
                · exact .inl h
                · exact .inr (.inr h)
              · cases hh
          · cases hh
        · cases hh
    · cases hh
  · cases hh

theorem loopN_log (n : Nat) : LoopLog (fun b => loopN b n) := fun body hb vs h o hh => loopN_stp hb hh
theorem icall_stp (hsp : SpecLog p) : ∀ n, CallLog (icall p n)
  | 0 => fun t args h v h1 lg hh => by cases t <;> cases hh
  | n + 1 => fun t args h v h1 lg hh => by
    cases t with
    | fn f => exact funcV_stp hsp (icall_stp hsp n) (loopN_log n) hh
    | yield l => exact roundV_stp (icall_stp hsp n) (loopN_log n) hh
end
end Go.L1
