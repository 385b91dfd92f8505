/- One part of a proof: an evaluator of the model, shown right, and contracts that it yields. No condition beyond those that each theorem names. -/
import Derived.Test.YthpiooedpojepaaGreatZTB
section
set_option linter.unusedSimpArgs false
set_option linter.unusedVariables false
set_option linter.unusedSectionVars false
set_option linter.deprecated false
/-! # runs of TxnDies, 3 -/
namespace Go.Z
set_option maxRecDepth 100000
set_option maxHeartbeats 0 in
theorem dies_3_f_f : diesQ 3 false false = true := by kernel_rfl
set_option maxHeartbeats 0 in
theorem dies_3_f_t : diesQ 3 false true = true := by kernel_rfl
set_option maxHeartbeats 0 in
theorem dies_3_t_f : diesQ 3 true false = true := by kernel_rfl
set_option maxHeartbeats 0 in
theorem dies_3_t_t : diesQ 3 true true = true := by kernel_rfl
end Go.Z
end
