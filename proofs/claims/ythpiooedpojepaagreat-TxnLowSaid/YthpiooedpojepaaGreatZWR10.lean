/- One part of a proof: an evaluator of the model, shown right, and contracts that it yields. No condition beyond those that each theorem names. -/
import Derived.Test.YthpiooedpojepaaGreatZTW
section
set_option linter.unusedSimpArgs false
set_option linter.unusedVariables false
set_option linter.unusedSectionVars false
set_option linter.deprecated false
/-! # runs of TxnLow, 10 -/
namespace Go.Z
set_option maxRecDepth 100000
set_option maxHeartbeats 0 in
theorem low_7_2 : lowQ 7 2 = true := by kernel_rfl
set_option maxHeartbeats 0 in
theorem low_7_3 : lowQ 7 3 = true := by kernel_rfl
set_option maxHeartbeats 0 in
theorem low_7_7 : lowQ 7 7 = true := by kernel_rfl
end Go.Z
end
