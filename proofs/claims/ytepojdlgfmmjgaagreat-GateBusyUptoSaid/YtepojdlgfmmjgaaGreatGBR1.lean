/- One part of a proof: an evaluator of the model, shown right, and contracts that it yields. No condition beyond those that each theorem names. -/
import Derived.Test.YtepojdlgfmmjgaaGreatGBX
set_option linter.unusedSimpArgs false
set_option linter.unusedVariables false
set_option linter.unusedSectionVars false
set_option linter.deprecated false
section
namespace Go.Z
set_option maxHeartbeats 0
set_option maxRecDepth 100000
theorem busy_1_ff : busyQ 1 false false = true := by kernel_rfl
theorem busy_1_ft : busyQ 1 false true = true := by kernel_rfl
theorem busy_1_tf : busyQ 1 true false = true := by kernel_rfl
theorem busy_1_tt : busyQ 1 true true = true := by kernel_rfl
end Go.Z
end
