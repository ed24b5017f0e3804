/- The statement LoadOrder of the law 'asterismlaw15' holds: for each pair of truth values the call answers true, whatever the world it is called in; nothing that was there is written. No condition. -/
import Derived.Test.YtbmpmjljbiepiaaGreatRows
import Derived.WalkKit
import Derived.ProofKit
import Derived.OpenShut
import Derived.ShutString
import Derived.ChangeOld
import Derived.Below
import Derived.Test.YtbmpmjljbiepiaaGreatSeatL
set_option autoImplicit true
set_option relaxedAutoImplicit true
set_option linter.all false
set_option linter.unusedVariables false
set_option linter.unusedSimpArgs false
namespace Go.Proofs.YtbmpmjljbiepiaaGreat.loadOrder
open Go.ChangeShapes Go.WideShapes Go.ChangeAt Go.RowKit
set_option linter.unusedVariables false

theorem own : ownKnob Tryz.prog.godebug = none := by kernel_rfl

theorem run (a b : Bool) : Go.L1.isTrue (Go.L1.ev (Go.L1.pg [Go.L1.N_asterismlaw15_begun]) Go.L1.evT 80 (.fn Go.L1.N_asterismlaw15_LoadOrder) [.bool a, .bool b] Go.L1.H.empty) = true := by
  cases a <;> cases b
  · exact Go.L1.lo_ff
  · exact Go.L1.lo_ft
  · exact Go.L1.lo_tf
  · exact Go.L1.lo_tt

theorem walk (a0 a1 : Bool) (w : World) : Calls Tryz.prog 6 #[.bool a0, .bool a1] w fun e w' => e = .returned (.bool true) ∧ Below w.heap.size w w' := by
  obtain ⟨h1, lg, he⟩ := Go.L1.isTrue_some (run a0 a1)
  have hi := Go.L1.ev_ic (Go.L1.evAll [Go.L1.N_asterismlaw15_begun]) 80 _ _ _ _ he
  refine (Go.L1.calls_of_ic (f := 6) (fn := Tryz.f6) (c := Tryz.f6.body.getD .skip) (φ := fun _ => none) (args' := #[.bool a0, .bool a1]) (Go.L1.fits _) (Go.L1.ins_spec _ (Go.L1.sp1 Go.L1.c15)) (Go.L1.ins_spec_log _) Tryz.func6 (by kernel_rfl) (by kernel_rfl) hi
    ⟨fun b bi h => (by cases h), fun b c bi ci ob oc h => (by cases h)⟩ (fun b bi h => (by cases h)) (Go.L1.VL.vpl (Go.L1.VL.cons (.bool a0) (Go.L1.VL.cons (.bool a1) (Go.L1.VL.nil _)))) (fun r h => (by obtain ⟨_, _, _, h, _⟩ := h; cases h))).mono fun e w' h => ?_
  exact ⟨h.1, h.2.1, h.2.2.1, h.2.2.2.1, h.2.2.2.2.1, h.2.2.2.2.2⟩

/-! ### THE ROW's STEP: WRITTEN OUT: LEAVE IT -/
set_option maxRecDepth 100000 in
theorem lifted (os : Os) (started : os.Started) (H : Type) (enc : TypeId × Value → H) :
    ReturnsInHanded {} Tryz.checked os 6 .any (Rows.loadOrderSpec.pre6 enc Tryz.prog Tryz.f6 Rows.loadOrderRow.domain false) (Rows.loadOrderSpec.post enc Tryz.prog Tryz.f6 false true false false) := by
  refine returnsInHanded_of_change (C := Tryz.checked) own started (by kernel_rfl) Tryz.func6
    (ChangeSpec.witness6 (enc := enc) (C := Tryz.checked) false ⟨#[], #[.bool false, .bool false], []⟩ 8 (by kernel_rfl) (by kernel_rfl) (by kernel_rfl) (by kernel_rfl)) ?_
  intro W base args ds gs before hval0 hW hcnd _
  have hval : ∀ (j : Nat) t v, Tryz.f6.params[j]? = some t → args[j]? = some v → Value.okWide Tryz.prog W .any base t v := hval0
  have hW' := hW
  obtain ⟨p, q, hA0, hV, rfl, hfz, hnd⟩ := hW
  have hA : DataW.TrodAll enc Tryz.prog W 0 (fun _ => true) true Tryz.f6.params.toList args.toList ds p := hA0
  rw [Tryz.params6] at hA hval
  obtain ⟨v0, vs0, d0, ds0, p0, q0, hargs, rfl, rfl, h0, r0⟩ := trodAll_cons hA
  obtain ⟨v1, vs1, d1, ds1, p1, q1, rfl, rfl, rfl, h1, r1⟩ := trodAll_cons r0
  obtain ⟨rfl, rfl, rfl⟩ := trodAll_nil r1
  obtain rfl : args = #[v0, v1] := by cases args; simp_all
  obtain ⟨rfl, rfl⟩ := trodVars_none hV
  obtain ⟨a0, rfl, rfl, rfl⟩ := open_bool Tryz.underlying4 (hval 0 4 v0 rfl rfl) h0
  obtain ⟨a1, rfl, rfl, rfl⟩ := open_bool Tryz.underlying4 (hval 1 4 v1 rfl rfl) h1
  clear hA0 hval0
  refine (walk a0 a1 W).mono fun e W' ⟨he, bel⟩ => ?_
  subst he
  exact ⟨_, rfl, _, _, _, [], _, [], hW', trodAll_mk1 (shut_bool Tryz.underlying4 _), (trodAll_cons_mk (shut_bool Tryz.underlying4 _) (trodAll_cons_mk (shut_bool Tryz.underlying4 _) trodAll_mk0)), rfl, bel.frame _, fun h => by cases h⟩

theorem over : Rows.loadOrderRow.holds Tryz.pinned (OpenSpec.ofChange Rows.loadOrderSpec) :=
  OpenClaim.holds_of_wide 6 Tryz.f6 rfl rfl rfl rfl rfl rfl rfl ⟨rfl, rfl, rfl, rfl, rfl⟩ rfl rfl rfl rfl rfl (by kernel_rfl) Tryz.func6 (by kernel_rfl)
    (of_decide_eq_true (by kernel_rfl)) (by unfold Func.isWrapper; first | (rw [if_pos (by decide +kernel)]; kernel_rfl) | (rw [if_neg (by decide +kernel)]; exact ⟨rfl, rfl⟩))
    (fun os started H enc _ => lifted os started H enc)

/-- ████ THE STATEMENT ████ -/
theorem proved : Rows.LoadOrderSaid :=
  over
#print axioms proved
end Go.Proofs.YtbmpmjljbiepiaaGreat.loadOrder
