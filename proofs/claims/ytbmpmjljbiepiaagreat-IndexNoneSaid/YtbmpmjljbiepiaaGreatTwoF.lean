/- Texts of a proof: no condition. -/
import Derived.Test.YtbmpmjljbiepiaaGreatTwoD
set_option autoImplicit true
set_option relaxedAutoImplicit true
set_option linter.all false
set_option linter.unusedVariables false
set_option linter.unusedSimpArgs false
/-! L2: what slices.Insert asks of the named operations. -/
set_option linter.unusedVariables false
namespace Go.L1
open Go
theorem putAt_nil (vs : List Value) (off : Nat) : putAt vs off [] = vs := by simp [putAt]
theorem cellsAt_eq {C : Cont} {b off n : Nat} {vs : List Value} {ty : Nat} {ro : Bool} (hC : C b = some (.cells vs ty ro)) (h : off + n ≤ vs.length) : cellsAt C b off n = some ((vs.drop off).take n) := by simp [cellsAt, hC, h]
theorem writeAt_eq {h : H} {b off : Nat} {vs new : List Value} {ty : Nat} (hC : h.get b = some (.cells vs ty false)) (hl : off + new.length ≤ vs.length) : writeAt h b off new = some (h.set b (.cells (putAt vs off new) ty false)) := by simp [writeAt, hC, hl]
theorem rCopy_eq {h : H} {es b o n c b2 o2 m c2 k : Nat} {vs ws : List Value} {ty ty2 : Nat} {ro : Bool} (hk : min m n = k) (hk0 : k ≠ 0) (hb : h.get b = some (.cells vs ty false)) (hb2 : h.get b2 = some (.cells ws ty2 ro))
    (h1 : o + k * es ≤ vs.length) (h2 : o2 + k * es ≤ ws.length) :
    rCopy h es (.slice (some ⟨b, o, none⟩) n c) (.slice (some ⟨b2, o2, none⟩) m c2) = some (.int .i64 (k : Nat), h.set b (.cells (putAt vs o ((ws.drop o2).take (k * es))) ty false), [b]) := by
  have hl : ((ws.drop o2).take (k * es)).length = k * es := by simp; omega
  simp only [rCopy, hk, hk0, if_false, sliceCells, cellsAt_eq hb2 h2, Option.bind_some]
  rw [writeAt_eq hb (by omega)]
  rfl

theorem hv_some {ρ : Type} (v : Value) (h : H) (l : List Nat) (f : Value → H → List Nat → Option ρ) : hv (some (v, h, l)) f = f v h l := rfl
theorem dr_ok {ρ : Type} {bs : List Nat} {ms : List Mk} {f : List Nat → Option ρ} (h : ((logOf ms).isEmpty || clashFree bs ms) = true) : dr bs ms f = f (logOf ms) := by unfold dr; rw [h]; rfl
theorem fin_one {v : Value} (hp : isPoison v = false) (h0 h : H) (lg : List Nat) : fin h0 (rsT v (some [])) h lg = some (settle h0 v h lg) := by simp [fin, rsT, hp, ob, tupled]
theorem sliceCells_eq {C : Cont} {es b o n : Nat} {vs : List Value} {ty : Nat} {ro : Bool} (hC : C b = some (.cells vs ty ro)) (h : o + n * es ≤ vs.length) : sliceCells C es (some ⟨b, o, none⟩) n = some ((vs.drop o).take (n * es)) := by
  unfold sliceCells
  by_cases h0 : n = 0
  · simp [h0]
  · simp only [h0, if_false]
    exact cellsAt_eq hC h
theorem putAt_app {xs ys new : List Value} {off : Nat} (h : off = xs.length) : putAt (xs ++ ys) off new = xs ++ new ++ ys.drop new.length := by
  subst h
  simp [putAt, List.drop_append]

theorem ins_log {args : List Value} {h : H} {v : Value} {h1 : H} {lg : List Nat} {e es bytes : Nat} {zero : List Value} (hh : insS e es bytes zero args h = some (v, h1, lg)) : Stp h h1 lg := by
  unfold insS at hh
  split at hh
  case h_2 => cases hh
  split at hh
  · split at hh
    case isFalse => cases hh
    obtain ⟨⟨v2, h2, l2⟩, hr, e⟩ := Option.map_eq_some_iff.1 hh
    simp only at e
    refine settle_stp (h0 := h) (v := v2) (h1 := h2) (lg := l2) ?_ e
    unfold rApp at hr
    obtain ⟨⟨m, new⟩, hm, hq⟩ := Option.bind_eq_some_iff.1 hr
    exact rAppend_stp hq
  · split at hh
    case isFalse => cases hh
    split at hh
    case h_2 => cases hh
    split at hh
    case h_2 => cases hh
    split at hh
    case isFalse => cases hh
    cases hh
    rename_i b o vs ty ws _ hb hbv hcond
    refine ⟨by simp [H.push, H.kill, H.set], fun x hx hl => ?_⟩
    rw [H.get_push, if_neg (by show ¬ x = h.n; omega), H.kill, H.get_set, if_neg (by simpa using hl)]

theorem tS_log {args : List Value} {h : H} {v : Value} {h1 : H} {lg : List Nat} (hh : tS args h = some (v, h1, lg)) : Stp h h1 lg := by
  unfold tS at hh
  split at hh
  · cases hh; exact Stp.refl _ _
  · cases hh
theorem map_some3 {x : Option (Value × H × List Nat)} {v : Value} {h : H} (e : x.map (fun r => (r.1, r.2.1)) = some (v, h)) : ∃ lg, x = some (v, h, lg) := by
  obtain ⟨⟨a, b, c⟩, rfl, e⟩ := Option.map_eq_some_iff.1 e
  cases e
  exact ⟨c, rfl⟩

theorem ovS_log {args : List Value} {h : H} {v : Value} {h1 : H} {lg : List Nat} (hh : ovS args h = some (v, h1, lg)) : Stp h h1 lg := by
  unfold ovS at hh
  split at hh
  · split at hh
    · split at hh
      · split at hh
        · cases hh
        · cases hh; exact Stp.refl _ _
      · cases hh
    · cases hh
  · cases hh
end Go.L1
