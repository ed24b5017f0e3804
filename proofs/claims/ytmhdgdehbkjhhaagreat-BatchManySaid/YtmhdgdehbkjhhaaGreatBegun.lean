/- Texts of a proof: no condition. -/
import Derived.Test.YtmhdgdehbkjhhaaGreatSeatJ
import Derived.KernelRfl
set_option autoImplicit true
set_option relaxedAutoImplicit true
set_option linter.all false
set_option linter.unusedVariables false
set_option linter.unusedSimpArgs false
set_option maxRecDepth 100000
namespace Go.L1
open Go Go.Proofs
theorem sp1 {f : Nat} (h : ClosedT f) : ∀ g ∈ [f], ClosedT g := fun g hg => by rw [List.mem_singleton.1 hg]; exact h
theorem r11 : isTrue (ev (pg []) evT 80 (.fn N_k36) [] H.empty) = true := by kernel_rfl
theorem c11 : ClosedT N_k36 := closed_run _ (fun _ h => by cases h) (fn := Tryz.f36) (c := Tryz.f36.body.getD .skip) Tryz.func36 (by kernel_rfl) (by kernel_rfl) r11
theorem r12 : isTrue (ev (pg [N_k36]) evT 80 (.fn N_k69) [] H.empty) = true := by kernel_rfl
theorem c12 : ClosedT N_k69 := closed_run _ (sp1 c11) (fn := Tryz.f69) (c := Tryz.f69.body.getD .skip) Tryz.func69 (by kernel_rfl) (by kernel_rfl) r12
theorem r13 : isTrue (ev (pg [N_k69]) evT 80 (.fn N_k24) [] H.empty) = true := by kernel_rfl
theorem c13 : ClosedT N_k24 := closed_run _ (sp1 c12) (fn := Tryz.f24) (c := Tryz.f24.body.getD .skip) Tryz.func24 (by kernel_rfl) (by kernel_rfl) r13
end Go.L1
