/- One part of a proof: an evaluator of the model, shown right, and contracts that it yields. No condition beyond those that each theorem names. -/
import Derived.Test.YtijfpknflhdemaaGreatQB
section
set_option linter.unusedSimpArgs false
set_option linter.unusedVariables false
set_option linter.unusedSectionVars false
set_option linter.deprecated false
namespace Go.Z
set_option maxRecDepth 100000
set_option maxHeartbeats 0 in
theorem run6_0 : colQ 6 0 = true := by kernel_rfl
set_option maxHeartbeats 0 in
theorem run6_1 : colQ 6 1 = true := by kernel_rfl
set_option maxHeartbeats 0 in
theorem run6_2 : colQ 6 2 = true := by kernel_rfl
set_option maxHeartbeats 0 in
theorem run6_3 : colQ 6 3 = true := by kernel_rfl
set_option maxHeartbeats 0 in
theorem run6_4 : colQ 6 4 = true := by kernel_rfl
set_option maxHeartbeats 0 in
theorem run6_5 : colQ 6 5 = true := by kernel_rfl
set_option maxHeartbeats 0 in
theorem run6_6 : colQ 6 6 = true := by kernel_rfl
set_option maxHeartbeats 0 in
theorem run6_7 : colQ 6 7 = true := by kernel_rfl
set_option maxHeartbeats 0 in
theorem run6_8 : colQ 6 8 = true := by kernel_rfl
set_option maxHeartbeats 0 in
theorem run6_9 : colQ 6 9 = true := by kernel_rfl
end Go.Z
end
