/- One part of a proof: an evaluator of the model, shown right, and contracts that it yields. No condition beyond those that each theorem names. -/
import Derived.Test.YtijfpknflhdemaaGreatQB
section
set_option linter.unusedSimpArgs false
set_option linter.unusedVariables false
set_option linter.unusedSectionVars false
set_option linter.deprecated false
namespace Go.Z
set_option maxRecDepth 100000
set_option maxHeartbeats 0 in
theorem run9_0 : colQ 9 0 = true := by kernel_rfl
set_option maxHeartbeats 0 in
theorem run9_1 : colQ 9 1 = true := by kernel_rfl
set_option maxHeartbeats 0 in
theorem run9_2 : colQ 9 2 = true := by kernel_rfl
set_option maxHeartbeats 0 in
theorem run9_3 : colQ 9 3 = true := by kernel_rfl
set_option maxHeartbeats 0 in
theorem run9_4 : colQ 9 4 = true := by kernel_rfl
set_option maxHeartbeats 0 in
theorem run9_5 : colQ 9 5 = true := by kernel_rfl
set_option maxHeartbeats 0 in
theorem run9_6 : colQ 9 6 = true := by kernel_rfl
set_option maxHeartbeats 0 in
theorem run9_7 : colQ 9 7 = true := by kernel_rfl
set_option maxHeartbeats 0 in
theorem run9_8 : colQ 9 8 = true := by kernel_rfl
set_option maxHeartbeats 0 in
theorem run9_9 : colQ 9 9 = true := by kernel_rfl
end Go.Z
end
