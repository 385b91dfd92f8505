/- One part of a proof: an evaluator of the model, shown right, and contracts that it yields. No condition beyond those that each theorem names. -/
import Derived.Test.YtijfpknflhdemaaGreatZL
section
set_option linter.unusedSimpArgs false
set_option linter.unusedVariables false
set_option linter.unusedSectionVars false
set_option linter.deprecated false
namespace Go.Z
set_option maxRecDepth 100000
set_option maxHeartbeats 0 in
theorem left1_6_0_false : left4 1 6 0 false = true := by kernel_rfl
set_option maxHeartbeats 0 in
theorem left1_6_0_true : left4 1 6 0 true = true := by kernel_rfl
set_option maxHeartbeats 0 in
theorem left1_6_1_false : left4 1 6 1 false = true := by kernel_rfl
set_option maxHeartbeats 0 in
theorem left1_6_1_true : left4 1 6 1 true = true := by kernel_rfl
theorem left1_6 : ∀ kk above, kk < 2 → left4 1 6 kk above = true := fun kk above h => by
  match kk, above, h with
  | 0, false, _ => exact left1_6_0_false
  | 0, true, _ => exact left1_6_0_true
  | 1, false, _ => exact left1_6_1_false
  | 1, true, _ => exact left1_6_1_true
  | kk + 2, _, h => omega
set_option maxHeartbeats 0 in
theorem left1_7_0_false : left4 1 7 0 false = true := by kernel_rfl
set_option maxHeartbeats 0 in
theorem left1_7_0_true : left4 1 7 0 true = true := by kernel_rfl
set_option maxHeartbeats 0 in
theorem left1_7_1_false : left4 1 7 1 false = true := by kernel_rfl
set_option maxHeartbeats 0 in
theorem left1_7_1_true : left4 1 7 1 true = true := by kernel_rfl
theorem left1_7 : ∀ kk above, kk < 2 → left4 1 7 kk above = true := fun kk above h => by
  match kk, above, h with
  | 0, false, _ => exact left1_7_0_false
  | 0, true, _ => exact left1_7_0_true
  | 1, false, _ => exact left1_7_1_false
  | 1, true, _ => exact left1_7_1_true
  | kk + 2, _, h => omega
end Go.Z
end
