/- Texts of a proof: no condition. -/
import Derived.Test.YtgmhpebollnmiaaGreatSeatI
import Derived.Test.YtgmhpebollnmiaaGreatSeatFit
set_option autoImplicit true
set_option relaxedAutoImplicit true
set_option linter.all false
set_option linter.unusedVariables false
set_option linter.unusedSimpArgs false
/-! The ideal runs of this seat are real calls. -/
namespace Go.L1
open Go Go.Proofs
noncomputable def ovF : Func := (Tryz.prog.funcs[N_slices_overlaps_omap_pair_string_int]?).getD Tryz.f2
noncomputable def pairI : TyI := (pg.ty T_omap_pair_string_int).getD (tyD .invalid)
theorem ov_spec : SpecSim pg0 Tryz.prog := by
  intro f s hs args h v h1 lg hh φ w args' hR hd ha
  have hs : (bif Nat.beq f N_slices_overlaps_omap_pair_string_int then some ovS else none) = some s := hs
  cases hb : Nat.beq f N_slices_overlaps_omap_pair_string_int with
  | false => rw [hb] at hs; cases hs
  | true =>
    rw [hb] at hs
    cases hs
    have := Nat.eq_of_beq_eq_true hb
    subst this
    exact .inl (ov_sim (Fits.swap (p := pg) (q := pg0) rfl rfl fits) (fn := ovF) (tS := T_Lomap_pair_string_int) (tR := T_bool) (e := T_omap_pair_string_int) (ei := pairI) (by kernel_rfl) (by kernel_rfl) (by kernel_rfl) (by kernel_rfl) (by kernel_rfl) (by kernel_rfl) (by kernel_rfl) _ _ _ _ _ hh _ _ _ hR hd ha)
theorem sim0 : FnSim pg0 Tryz.prog (ic pg0) := by
  intro f args h v h1 lg hi
  obtain ⟨n, hn⟩ := ic_iff.1 hi
  exact (icall_sim (Fits.swap (p := pg) (q := pg0) rfl rfl fits) ov_spec ov_log n).fn _ _ _ _ _ _ hn
theorem ins_spec : SpecSim pg Tryz.prog := by
  intro f s hs args h v h1 lg hh φ w args' hR hd ha
  have hs : (bif Nat.beq f N_slices_Insert_omap_pair_string_int_omap_pair_string_int then some (insS T_omap_pair_string_int 2 24 [(.string ⟨#[]⟩), (.int .i64 0)]) else none) = some s := hs
  cases hb : Nat.beq f N_slices_Insert_omap_pair_string_int_omap_pair_string_int with
  | false => rw [hb] at hs; cases hs
  | true =>
    rw [hb] at hs
    cases hs
    have := Nat.eq_of_beq_eq_true hb
    subst this
    exact ins_sim (ei := pairI) (by kernel_rfl) (by kernel_rfl) sim0 _ _ _ _ _ hh _ _ _ hR hd ha
end Go.L1
