/- One part of a proof: an evaluator of the model, shown right, and contracts that it yields. No condition beyond those that each theorem names. -/
import Derived.Test.YtijfpknflhdemaaGreatQB
section
set_option linter.unusedSimpArgs false
set_option linter.unusedVariables false
set_option linter.unusedSectionVars false
set_option linter.deprecated false
namespace Go.Z
set_option maxRecDepth 100000
set_option maxHeartbeats 0 in
theorem run3_0 : colQ 3 0 = true := by kernel_rfl
set_option maxHeartbeats 0 in
theorem run3_1 : colQ 3 1 = true := by kernel_rfl
set_option maxHeartbeats 0 in
theorem run3_2 : colQ 3 2 = true := by kernel_rfl
set_option maxHeartbeats 0 in
theorem run3_3 : colQ 3 3 = true := by kernel_rfl
set_option maxHeartbeats 0 in
theorem run3_4 : colQ 3 4 = true := by kernel_rfl
set_option maxHeartbeats 0 in
theorem run3_5 : colQ 3 5 = true := by kernel_rfl
set_option maxHeartbeats 0 in
theorem run3_6 : colQ 3 6 = true := by kernel_rfl
set_option maxHeartbeats 0 in
theorem run3_7 : colQ 3 7 = true := by kernel_rfl
set_option maxHeartbeats 0 in
theorem run3_8 : colQ 3 8 = true := by kernel_rfl
set_option maxHeartbeats 0 in
theorem run3_9 : colQ 3 9 = true := by kernel_rfl
end Go.Z
end
