/- One part of a proof: an evaluator of the model, shown right, and contracts that it yields. No condition beyond those that each theorem names. -/
import Derived.Test.YtijfpknflhdemaaGreatQB
section
set_option linter.unusedSimpArgs false
set_option linter.unusedVariables false
set_option linter.unusedSectionVars false
set_option linter.deprecated false
namespace Go.Z
set_option maxRecDepth 100000
set_option maxHeartbeats 0 in
theorem run2_0 : colQ 2 0 = true := by kernel_rfl
set_option maxHeartbeats 0 in
theorem run2_1 : colQ 2 1 = true := by kernel_rfl
set_option maxHeartbeats 0 in
theorem run2_2 : colQ 2 2 = true := by kernel_rfl
set_option maxHeartbeats 0 in
theorem run2_3 : colQ 2 3 = true := by kernel_rfl
set_option maxHeartbeats 0 in
theorem run2_4 : colQ 2 4 = true := by kernel_rfl
set_option maxHeartbeats 0 in
theorem run2_5 : colQ 2 5 = true := by kernel_rfl
set_option maxHeartbeats 0 in
theorem run2_6 : colQ 2 6 = true := by kernel_rfl
set_option maxHeartbeats 0 in
theorem run2_7 : colQ 2 7 = true := by kernel_rfl
set_option maxHeartbeats 0 in
theorem run2_8 : colQ 2 8 = true := by kernel_rfl
set_option maxHeartbeats 0 in
theorem run2_9 : colQ 2 9 = true := by kernel_rfl
end Go.Z
end
