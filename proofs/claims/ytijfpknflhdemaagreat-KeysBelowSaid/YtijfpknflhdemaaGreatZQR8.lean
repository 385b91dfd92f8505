/- One part of a proof: an evaluator of the model, shown right, and contracts that it yields. No condition beyond those that each theorem names. -/
import Derived.Test.YtijfpknflhdemaaGreatQB
section
set_option linter.unusedSimpArgs false
set_option linter.unusedVariables false
set_option linter.unusedSectionVars false
set_option linter.deprecated false
namespace Go.Z
set_option maxRecDepth 100000
set_option maxHeartbeats 0 in
theorem run8_0 : colQ 8 0 = true := by kernel_rfl
set_option maxHeartbeats 0 in
theorem run8_1 : colQ 8 1 = true := by kernel_rfl
set_option maxHeartbeats 0 in
theorem run8_2 : colQ 8 2 = true := by kernel_rfl
set_option maxHeartbeats 0 in
theorem run8_3 : colQ 8 3 = true := by kernel_rfl
set_option maxHeartbeats 0 in
theorem run8_4 : colQ 8 4 = true := by kernel_rfl
set_option maxHeartbeats 0 in
theorem run8_5 : colQ 8 5 = true := by kernel_rfl
set_option maxHeartbeats 0 in
theorem run8_6 : colQ 8 6 = true := by kernel_rfl
set_option maxHeartbeats 0 in
theorem run8_7 : colQ 8 7 = true := by kernel_rfl
set_option maxHeartbeats 0 in
theorem run8_8 : colQ 8 8 = true := by kernel_rfl
set_option maxHeartbeats 0 in
theorem run8_9 : colQ 8 9 = true := by kernel_rfl
end Go.Z
end
