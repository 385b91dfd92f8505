/- One part of a proof: an evaluator of the model, shown right, and contracts that it yields. No condition beyond those that each theorem names. -/
import Derived.Test.YthpiooedpojepaaGreatZTW
section
set_option linter.unusedSimpArgs false
set_option linter.unusedVariables false
set_option linter.unusedSectionVars false
set_option linter.deprecated false
/-! # runs of TxnLow, 0 -/
namespace Go.Z
set_option maxRecDepth 100000
set_option maxHeartbeats 0 in
theorem low_0_0 : lowQ 0 0 = true := by kernel_rfl
set_option maxHeartbeats 0 in
theorem low_0_1 : lowQ 0 1 = true := by kernel_rfl
set_option maxHeartbeats 0 in
theorem low_0_2 : lowQ 0 2 = true := by kernel_rfl
set_option maxHeartbeats 0 in
theorem low_0_3 : lowQ 0 3 = true := by kernel_rfl
set_option maxHeartbeats 0 in
theorem low_0_4 : lowQ 0 4 = true := by kernel_rfl
set_option maxHeartbeats 0 in
theorem low_0_5 : lowQ 0 5 = true := by kernel_rfl
set_option maxHeartbeats 0 in
theorem low_0_6 : lowQ 0 6 = true := by kernel_rfl
set_option maxHeartbeats 0 in
theorem low_0_7 : lowQ 0 7 = true := by kernel_rfl
set_option maxHeartbeats 0 in
theorem low_0_8 : lowQ 0 8 = true := by kernel_rfl
end Go.Z
end
