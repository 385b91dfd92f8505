/- One part of a proof: an evaluator of the model, shown right, and contracts that it yields. No condition beyond those that each theorem names. -/
import Derived.Test.YtijfpknflhdemaaGreatQB
section
set_option linter.unusedSimpArgs false
set_option linter.unusedVariables false
set_option linter.unusedSectionVars false
set_option linter.deprecated false
namespace Go.Z
set_option maxRecDepth 100000
set_option maxHeartbeats 0 in
theorem run5_0 : colQ 5 0 = true := by kernel_rfl
set_option maxHeartbeats 0 in
theorem run5_1 : colQ 5 1 = true := by kernel_rfl
set_option maxHeartbeats 0 in
theorem run5_2 : colQ 5 2 = true := by kernel_rfl
set_option maxHeartbeats 0 in
theorem run5_3 : colQ 5 3 = true := by kernel_rfl
set_option maxHeartbeats 0 in
theorem run5_4 : colQ 5 4 = true := by kernel_rfl
set_option maxHeartbeats 0 in
theorem run5_5 : colQ 5 5 = true := by kernel_rfl
set_option maxHeartbeats 0 in
theorem run5_6 : colQ 5 6 = true := by kernel_rfl
set_option maxHeartbeats 0 in
theorem run5_7 : colQ 5 7 = true := by kernel_rfl
set_option maxHeartbeats 0 in
theorem run5_8 : colQ 5 8 = true := by kernel_rfl
set_option maxHeartbeats 0 in
theorem run5_9 : colQ 5 9 = true := by kernel_rfl
end Go.Z
end
