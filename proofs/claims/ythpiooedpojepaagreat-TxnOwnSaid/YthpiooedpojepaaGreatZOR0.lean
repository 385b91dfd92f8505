/- One part of a proof: an evaluator of the model, shown right, and contracts that it yields. No condition beyond those that each theorem names. -/
import Derived.Test.YthpiooedpojepaaGreatZTO
section
set_option linter.unusedSimpArgs false
set_option linter.unusedVariables false
set_option linter.unusedSectionVars false
set_option linter.deprecated false
/-! # runs of TxnOwn, 0 -/
namespace Go.Z
set_option maxRecDepth 100000
set_option maxHeartbeats 0 in
theorem own_0 : ownQ 0 = true := by kernel_rfl
set_option maxHeartbeats 0 in
theorem own_1 : ownQ 1 = true := by kernel_rfl
set_option maxHeartbeats 0 in
theorem own_2 : ownQ 2 = true := by kernel_rfl
set_option maxHeartbeats 0 in
theorem own_3 : ownQ 3 = true := by kernel_rfl
end Go.Z
end
