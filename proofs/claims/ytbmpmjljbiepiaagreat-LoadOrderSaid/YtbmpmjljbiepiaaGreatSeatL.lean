/- Texts of a proof: no condition. -/
import Derived.Test.YtbmpmjljbiepiaaGreatSeatK
import Derived.KernelRfl
set_option autoImplicit true
set_option relaxedAutoImplicit true
set_option linter.all false
set_option linter.unusedVariables false
set_option linter.unusedSimpArgs false
set_option maxRecDepth 100000
namespace Go.L1
open Go Go.Proofs
theorem lo_tt : isTrue (ev (pg [N_asterismlaw15_begun]) evT 80 (.fn N_asterismlaw15_LoadOrder) [.bool true, .bool true] H.empty) = true := by kernel_rfl
theorem lo_tf : isTrue (ev (pg [N_asterismlaw15_begun]) evT 80 (.fn N_asterismlaw15_LoadOrder) [.bool true, .bool false] H.empty) = true := by kernel_rfl
theorem lo_ft : isTrue (ev (pg [N_asterismlaw15_begun]) evT 80 (.fn N_asterismlaw15_LoadOrder) [.bool false, .bool true] H.empty) = true := by kernel_rfl
theorem lo_ff : isTrue (ev (pg [N_asterismlaw15_begun]) evT 80 (.fn N_asterismlaw15_LoadOrder) [.bool false, .bool false] H.empty) = true := by kernel_rfl
end Go.L1
