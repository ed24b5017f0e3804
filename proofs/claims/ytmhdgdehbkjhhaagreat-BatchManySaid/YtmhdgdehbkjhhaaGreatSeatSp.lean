/- Texts of a proof: no condition. -/
import Derived.Test.YtmhdgdehbkjhhaaGreatSeatE
import Derived.Test.YtmhdgdehbkjhhaaGreatSeatJ
import Derived.Test.YtmhdgdehbkjhhaaGreatSeatSt
set_option autoImplicit true
set_option relaxedAutoImplicit true
set_option linter.all false
set_option linter.unusedVariables false
set_option linter.unusedSimpArgs false
/-! What is known ahead in this seat. -/
namespace Go.L1
open Go Go.Proofs
abbrev SP : List Nat := [N_k24]
noncomputable def SPEC0 : Sps := fun f => bif Nat.beq f N_k12 then some (knownS starO starV) else spL SP f
noncomputable abbrev P0 : Pg := pgX SPEC0
noncomputable abbrev icP : CallF := ic P0
theorem spec0_log : SpecLog P0 := by
  intro f s hs args h v h1 lg hh
  have hs : (bif Nat.beq f N_k12 then some (knownS starO starV) else spL SP f) = some s := hs
  cases hb : Nat.beq f N_k12 with
  | true => rw [hb] at hs; cases hs; exact known_log hh
  | false => rw [hb] at hs; exact ins_spec_log SP f s hs args h v h1 lg hh
theorem spec0_sim (hsp : ∀ f ∈ SP, ClosedT f) : SpecSim P0 Tryz.prog := by
  intro f s hs args h v h1 lg hh φ w args' hR hd ha
  have hs : (bif Nat.beq f N_k12 then some (knownS starO starV) else spL SP f) = some s := hs
  cases hb : Nat.beq f N_k12 with
  | true =>
    rw [hb] at hs
    cases hs
    have e := Nat.eq_of_beq_eq_true hb
    subst e
    obtain ⟨hE, lgE, hi, hol, hos⟩ := star_os
    exact known_sim (p := P0) (p0 := pg []) rfl rfl (fits []) (ins_spec [] (fun _ h => by cases h)) (ins_spec_log []) (fn := (Tryz.prog.funcs[N_k12]?).getD Tryz.f2) (c := ((Tryz.prog.funcs[N_k12]?).getD Tryz.f2).body.getD .skip) (by kernel_rfl) (by kernel_rfl) (by kernel_rfl)
      hi hol hos (fun o ho => List.all_eq_true.1 (show (starO.all okO) = true by kernel_rfl) o ho) (by kernel_rfl) rfl _ _ _ _ _ hh _ _ _ hR hd ha
  | false =>
    rw [hb] at hs
    rcases ins_spec SP hsp f s hs args h v h1 lg hh φ w args' (Rel.swap (p := P0) (q := pg SP) rfl rfl hR) hd ha with ⟨v', w', r1, ⟨φ', g, f', R', hv⟩, r3⟩ | ⟨r1, r2⟩
    · exact .inl ⟨v', w', r1, ⟨φ', g, f', Rel.swap (p := pg SP) (q := P0) rfl rfl R', hv⟩, r3⟩
    · exact .inr ⟨r1, r2.mono fun e w' ⟨v', e1, φ', g, f', R', hv⟩ => ⟨v', e1, φ', g, f', Rel.swap (p := pg SP) (q := P0) rfl rfl R', hv⟩⟩
theorem fits0 : Fits P0 Tryz.prog := Fits.swap (p := pg []) (q := P0) rfl rfl (fits [])
end Go.L1
