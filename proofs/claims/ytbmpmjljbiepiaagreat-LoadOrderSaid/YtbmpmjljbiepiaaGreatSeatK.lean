/- Texts of a proof: no condition. -/
import Derived.Test.YtbmpmjljbiepiaaGreatSeatJ
import Derived.KernelRfl
set_option autoImplicit true
set_option relaxedAutoImplicit true
set_option linter.all false
set_option linter.unusedVariables false
set_option linter.unusedSimpArgs false
set_option maxRecDepth 100000
namespace Go.L1
open Go Go.Proofs
theorem sp1 {f : Nat} (h : ClosedT f) : ∀ g ∈ [f], ClosedT g := fun g hg => by rw [List.mem_singleton.1 hg]; exact h
theorem sp2 {f g : Nat} (h : ClosedT f) (h' : ClosedT g) : ∀ k ∈ [f, g], ClosedT k := fun k hk => by
  rcases List.mem_cons.1 hk with rfl | hk
  · exact h
  · exact sp1 h' k hk
theorem r11 : isTrue (ev (pg []) evT 80 (.fn N_asterismlaw11_Begun) [] H.empty) = true := by kernel_rfl
theorem c11 : ClosedT N_asterismlaw11_Begun := closed_run [] (fun _ h => by cases h) (fn := Tryz.f215) (c := Tryz.f215.body.getD .skip) Tryz.func215 (by kernel_rfl) (by kernel_rfl) r11
theorem r12 : isTrue (ev (pg [N_asterismlaw11_Begun]) evT 80 (.fn N_asterismlaw12_Begun) [] H.empty) = true := by kernel_rfl
theorem c12 : ClosedT N_asterismlaw12_Begun := closed_run _ (sp1 c11) (fn := Tryz.f125) (c := Tryz.f125.body.getD .skip) Tryz.func125 (by kernel_rfl) (by kernel_rfl) r12
theorem r13 : isTrue (ev (pg [N_asterismlaw12_Begun]) evT 80 (.fn N_asterismlaw13_Begun) [] H.empty) = true := by kernel_rfl
theorem c13 : ClosedT N_asterismlaw13_Begun := closed_run _ (sp1 c12) (fn := Tryz.f30) (c := Tryz.f30.body.getD .skip) Tryz.func30 (by kernel_rfl) (by kernel_rfl) r13
theorem r14 : isTrue (ev (pg [N_asterismlaw12_Begun]) evT 80 (.fn N_asterismlaw14_Begun) [] H.empty) = true := by kernel_rfl
theorem c14 : ClosedT N_asterismlaw14_Begun := closed_run _ (sp1 c12) (fn := Tryz.f31) (c := Tryz.f31.body.getD .skip) Tryz.func31 (by kernel_rfl) (by kernel_rfl) r14
theorem r15 : isTrue (ev (pg [N_asterismlaw13_Begun, N_asterismlaw14_Begun]) evT 80 (.fn N_asterismlaw15_begun) [] H.empty) = true := by kernel_rfl
theorem c15 : ClosedT N_asterismlaw15_begun := closed_run _ (sp2 c13 c14) (fn := Tryz.f9) (c := Tryz.f9.body.getD .skip) Tryz.func9 (by kernel_rfl) (by kernel_rfl) r15
end Go.L1
