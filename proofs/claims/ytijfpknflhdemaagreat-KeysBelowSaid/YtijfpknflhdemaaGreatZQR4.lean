/- One part of a proof: an evaluator of the model, shown right, and contracts that it yields. No condition beyond those that each theorem names. -/
import Derived.Test.YtijfpknflhdemaaGreatQB
section
set_option linter.unusedSimpArgs false
set_option linter.unusedVariables false
set_option linter.unusedSectionVars false
set_option linter.deprecated false
namespace Go.Z
set_option maxRecDepth 100000
set_option maxHeartbeats 0 in
theorem run4_0 : colQ 4 0 = true := by kernel_rfl
set_option maxHeartbeats 0 in
theorem run4_1 : colQ 4 1 = true := by kernel_rfl
set_option maxHeartbeats 0 in
theorem run4_2 : colQ 4 2 = true := by kernel_rfl
set_option maxHeartbeats 0 in
theorem run4_3 : colQ 4 3 = true := by kernel_rfl
set_option maxHeartbeats 0 in
theorem run4_4 : colQ 4 4 = true := by kernel_rfl
set_option maxHeartbeats 0 in
theorem run4_5 : colQ 4 5 = true := by kernel_rfl
set_option maxHeartbeats 0 in
theorem run4_6 : colQ 4 6 = true := by kernel_rfl
set_option maxHeartbeats 0 in
theorem run4_7 : colQ 4 7 = true := by kernel_rfl
set_option maxHeartbeats 0 in
theorem run4_8 : colQ 4 8 = true := by kernel_rfl
set_option maxHeartbeats 0 in
theorem run4_9 : colQ 4 9 = true := by kernel_rfl
end Go.Z
end
