/- Texts of a proof: no condition. -/
import Derived.Test.YtbmpmjljbiepiaaGreatSeatJ
import Derived.KernelRfl
set_option autoImplicit true
set_option relaxedAutoImplicit true
set_option linter.all false
set_option linter.unusedVariables false
set_option linter.unusedSimpArgs false
set_option maxRecDepth 100000
namespace Go.L1
open Go Go.Proofs
theorem sp1 {f : Nat} (h : ClosedT f) : ∀ g ∈ [f], ClosedT g := fun g hg => by rw [List.mem_singleton.1 hg]; exact h
theorem sp2 {f g : Nat} (h : ClosedT f) (h' : ClosedT g) : ∀ k ∈ [f, g], ClosedT k := fun k hk => by
  rcases List.mem_cons.1 hk with rfl | hk
  · exact h
  · exact sp1 h' k hk
theorem r11 : isTrue (ev (pg []) evT 80 (.fn N_k215) [] H.empty) = true := by kernel_rfl
theorem c11 : ClosedT N_k215 := closed_run _ (fun _ h => by cases h) (fn := Tryz.f215) (c := Tryz.f215.body.getD .skip) Tryz.func215 (by kernel_rfl) (by kernel_rfl) r11
theorem r12 : isTrue (ev (pg [N_k215]) evT 80 (.fn N_k125) [] H.empty) = true := by kernel_rfl
theorem c12 : ClosedT N_k125 := closed_run _ (sp1 c11) (fn := Tryz.f125) (c := Tryz.f125.body.getD .skip) Tryz.func125 (by kernel_rfl) (by kernel_rfl) r12
theorem r13 : isTrue (ev (pg [N_k125]) evT 80 (.fn N_k30) [] H.empty) = true := by kernel_rfl
theorem c13 : ClosedT N_k30 := closed_run _ (sp1 c12) (fn := Tryz.f30) (c := Tryz.f30.body.getD .skip) Tryz.func30 (by kernel_rfl) (by kernel_rfl) r13
theorem r14 : isTrue (ev (pg [N_k125]) evT 80 (.fn N_k31) [] H.empty) = true := by kernel_rfl
theorem c14 : ClosedT N_k31 := closed_run _ (sp1 c12) (fn := Tryz.f31) (c := Tryz.f31.body.getD .skip) Tryz.func31 (by kernel_rfl) (by kernel_rfl) r14
theorem r15 : isTrue (ev (pg [N_k30, N_k31]) evT 80 (.fn N_k64) [] H.empty) = true := by kernel_rfl
theorem c15 : ClosedT N_k64 := closed_run _ (sp2 c13 c14) (fn := Tryz.f64) (c := Tryz.f64.body.getD .skip) Tryz.func64 (by kernel_rfl) (by kernel_rfl) r15
theorem r16 : isTrue (ev (pg [N_k64]) evT 80 (.fn N_k24) [] H.empty) = true := by kernel_rfl
theorem c16 : ClosedT N_k24 := closed_run _ (sp1 c15) (fn := Tryz.f24) (c := Tryz.f24.body.getD .skip) Tryz.func24 (by kernel_rfl) (by kernel_rfl) r16
theorem r17 : isTrue (ev (pg [N_k24]) evT 80 (.fn N_k8) [] H.empty) = true := by kernel_rfl
theorem c17 : ClosedT N_k8 := closed_run _ (sp1 c16) (fn := Tryz.f8) (c := Tryz.f8.body.getD .skip) Tryz.func8 (by kernel_rfl) (by kernel_rfl) r17
end Go.L1
