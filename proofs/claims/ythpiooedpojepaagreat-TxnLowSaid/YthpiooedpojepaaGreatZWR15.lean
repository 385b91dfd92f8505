/- One part of a proof: an evaluator of the model, shown right, and contracts that it yields. No condition beyond those that each theorem names. -/
import Derived.Test.YthpiooedpojepaaGreatZTW
section
set_option linter.unusedSimpArgs false
set_option linter.unusedVariables false
set_option linter.unusedSectionVars false
set_option linter.deprecated false
/-! # runs of TxnLow, 15 -/
namespace Go.Z
set_option maxRecDepth 100000
set_option maxHeartbeats 0 in
theorem low_5_1 : lowQ 5 1 = true := by kernel_rfl
set_option maxHeartbeats 0 in
theorem low_5_5 : lowQ 5 5 = true := by kernel_rfl
set_option maxHeartbeats 0 in
theorem low_5_6 : lowQ 5 6 = true := by kernel_rfl
end Go.Z
end
