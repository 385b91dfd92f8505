/- One part of a proof: an evaluator of the model, shown right, and contracts that it yields. No condition beyond those that each theorem names. -/
import Derived.Test.YthpiooedpojepaaGreatZTW
section
set_option linter.unusedSimpArgs false
set_option linter.unusedVariables false
set_option linter.unusedSectionVars false
set_option linter.deprecated false
/-! # runs of TxnLow, 24 -/
namespace Go.Z
set_option maxRecDepth 100000
set_option maxHeartbeats 0 in
theorem low_2_1 : lowQ 2 1 = true := by kernel_rfl
set_option maxHeartbeats 0 in
theorem low_2_5 : lowQ 2 5 = true := by kernel_rfl
set_option maxHeartbeats 0 in
theorem low_2_6 : lowQ 2 6 = true := by kernel_rfl
end Go.Z
end
