/- One part of a proof: an evaluator of the model, shown right, and contracts that it yields. No condition beyond those that each theorem names. -/
import Derived.Test.YtijfpknflhdemaaGreatQB
section
set_option linter.unusedSimpArgs false
set_option linter.unusedVariables false
set_option linter.unusedSectionVars false
set_option linter.deprecated false
namespace Go.Z
set_option maxRecDepth 100000
set_option maxHeartbeats 0 in
theorem run0_0 : colQ 0 0 = true := by kernel_rfl
set_option maxHeartbeats 0 in
theorem run0_1 : colQ 0 1 = true := by kernel_rfl
set_option maxHeartbeats 0 in
theorem run0_2 : colQ 0 2 = true := by kernel_rfl
set_option maxHeartbeats 0 in
theorem run0_3 : colQ 0 3 = true := by kernel_rfl
set_option maxHeartbeats 0 in
theorem run0_4 : colQ 0 4 = true := by kernel_rfl
set_option maxHeartbeats 0 in
theorem run0_5 : colQ 0 5 = true := by kernel_rfl
set_option maxHeartbeats 0 in
theorem run0_6 : colQ 0 6 = true := by kernel_rfl
set_option maxHeartbeats 0 in
theorem run0_7 : colQ 0 7 = true := by kernel_rfl
set_option maxHeartbeats 0 in
theorem run0_8 : colQ 0 8 = true := by kernel_rfl
set_option maxHeartbeats 0 in
theorem run0_9 : colQ 0 9 = true := by kernel_rfl
end Go.Z
end
