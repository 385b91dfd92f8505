/- One part of a proof: an evaluator of the model, shown right, and contracts that it yields. No condition beyond those that each theorem names. -/
import Derived.Test.YtijfpknflhdemaaGreatQB
section
set_option linter.unusedSimpArgs false
set_option linter.unusedVariables false
set_option linter.unusedSectionVars false
set_option linter.deprecated false
namespace Go.Z
set_option maxRecDepth 100000
set_option maxHeartbeats 0 in
theorem run7_0 : colQ 7 0 = true := by kernel_rfl
set_option maxHeartbeats 0 in
theorem run7_1 : colQ 7 1 = true := by kernel_rfl
set_option maxHeartbeats 0 in
theorem run7_2 : colQ 7 2 = true := by kernel_rfl
set_option maxHeartbeats 0 in
theorem run7_3 : colQ 7 3 = true := by kernel_rfl
set_option maxHeartbeats 0 in
theorem run7_4 : colQ 7 4 = true := by kernel_rfl
set_option maxHeartbeats 0 in
theorem run7_5 : colQ 7 5 = true := by kernel_rfl
set_option maxHeartbeats 0 in
theorem run7_6 : colQ 7 6 = true := by kernel_rfl
set_option maxHeartbeats 0 in
theorem run7_7 : colQ 7 7 = true := by kernel_rfl
set_option maxHeartbeats 0 in
theorem run7_8 : colQ 7 8 = true := by kernel_rfl
set_option maxHeartbeats 0 in
theorem run7_9 : colQ 7 9 = true := by kernel_rfl
end Go.Z
end
