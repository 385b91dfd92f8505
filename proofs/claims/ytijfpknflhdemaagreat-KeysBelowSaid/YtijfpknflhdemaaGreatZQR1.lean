/- One part of a proof: an evaluator of the model, shown right, and contracts that it yields. No condition beyond those that each theorem names. -/
import Derived.Test.YtijfpknflhdemaaGreatQB
section
set_option linter.unusedSimpArgs false
set_option linter.unusedVariables false
set_option linter.unusedSectionVars false
set_option linter.deprecated false
namespace Go.Z
set_option maxRecDepth 100000
set_option maxHeartbeats 0 in
theorem run1_0 : colQ 1 0 = true := by kernel_rfl
set_option maxHeartbeats 0 in
theorem run1_1 : colQ 1 1 = true := by kernel_rfl
set_option maxHeartbeats 0 in
theorem run1_2 : colQ 1 2 = true := by kernel_rfl
set_option maxHeartbeats 0 in
theorem run1_3 : colQ 1 3 = true := by kernel_rfl
set_option maxHeartbeats 0 in
theorem run1_4 : colQ 1 4 = true := by kernel_rfl
set_option maxHeartbeats 0 in
theorem run1_5 : colQ 1 5 = true := by kernel_rfl
set_option maxHeartbeats 0 in
theorem run1_6 : colQ 1 6 = true := by kernel_rfl
set_option maxHeartbeats 0 in
theorem run1_7 : colQ 1 7 = true := by kernel_rfl
set_option maxHeartbeats 0 in
theorem run1_8 : colQ 1 8 = true := by kernel_rfl
set_option maxHeartbeats 0 in
theorem run1_9 : colQ 1 9 = true := by kernel_rfl
end Go.Z
end
