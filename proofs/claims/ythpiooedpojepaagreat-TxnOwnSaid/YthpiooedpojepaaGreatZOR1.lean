/- One part of a proof: an evaluator of the model, shown right, and contracts that it yields. No condition beyond those that each theorem names. -/
import Derived.Test.YthpiooedpojepaaGreatZTO
section
set_option linter.unusedSimpArgs false
set_option linter.unusedVariables false
set_option linter.unusedSectionVars false
set_option linter.deprecated false
/-! # runs of TxnOwn, 1 -/
namespace Go.Z
set_option maxRecDepth 100000
set_option maxHeartbeats 0 in
theorem own_4 : ownQ 4 = true := by kernel_rfl
set_option maxHeartbeats 0 in
theorem own_5 : ownQ 5 = true := by kernel_rfl
set_option maxHeartbeats 0 in
theorem own_6 : ownQ 6 = true := by kernel_rfl
end Go.Z
end
