/- One part of a proof: an evaluator of the model, shown right, and contracts that it yields. No condition beyond those that each theorem names. -/
import Derived.Test.YthpiooedpojepaaGreatZTW
section
set_option linter.unusedSimpArgs false
set_option linter.unusedVariables false
set_option linter.unusedSectionVars false
set_option linter.deprecated false
/-! # runs of TxnLow, 1 -/
namespace Go.Z
set_option maxRecDepth 100000
set_option maxHeartbeats 0 in
theorem low_1_0 : lowQ 1 0 = true := by kernel_rfl
set_option maxHeartbeats 0 in
theorem low_1_1 : lowQ 1 1 = true := by kernel_rfl
set_option maxHeartbeats 0 in
theorem low_1_2 : lowQ 1 2 = true := by kernel_rfl
set_option maxHeartbeats 0 in
theorem low_1_3 : lowQ 1 3 = true := by kernel_rfl
set_option maxHeartbeats 0 in
theorem low_1_4 : lowQ 1 4 = true := by kernel_rfl
set_option maxHeartbeats 0 in
theorem low_1_5 : lowQ 1 5 = true := by kernel_rfl
set_option maxHeartbeats 0 in
theorem low_1_6 : lowQ 1 6 = true := by kernel_rfl
set_option maxHeartbeats 0 in
theorem low_1_7 : lowQ 1 7 = true := by kernel_rfl
set_option maxHeartbeats 0 in
theorem low_1_8 : lowQ 1 8 = true := by kernel_rfl
end Go.Z
end
