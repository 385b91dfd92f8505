/- One part of a proof: an evaluator of the model, shown right, and contracts that it yields. No condition beyond those that each theorem names. -/
import Derived.Test.YtijfpknflhdemaaGreatZL
section
set_option linter.unusedSimpArgs false
set_option linter.unusedVariables false
set_option linter.unusedSectionVars false
set_option linter.deprecated false
namespace Go.Z
set_option maxRecDepth 100000
set_option maxHeartbeats 0 in
theorem left0_2_0_false : left4 0 2 0 false = true := by kernel_rfl
set_option maxHeartbeats 0 in
theorem left0_2_0_true : left4 0 2 0 true = true := by kernel_rfl
set_option maxHeartbeats 0 in
theorem left0_2_1_false : left4 0 2 1 false = true := by kernel_rfl
set_option maxHeartbeats 0 in
theorem left0_2_1_true : left4 0 2 1 true = true := by kernel_rfl
theorem left0_2 : ∀ kk above, kk < 2 → left4 0 2 kk above = true := fun kk above h => by
  match kk, above, h with
  | 0, false, _ => exact left0_2_0_false
  | 0, true, _ => exact left0_2_0_true
  | 1, false, _ => exact left0_2_1_false
  | 1, true, _ => exact left0_2_1_true
  | kk + 2, _, h => omega
set_option maxHeartbeats 0 in
theorem left0_3_0_false : left4 0 3 0 false = true := by kernel_rfl
set_option maxHeartbeats 0 in
theorem left0_3_0_true : left4 0 3 0 true = true := by kernel_rfl
set_option maxHeartbeats 0 in
theorem left0_3_1_false : left4 0 3 1 false = true := by kernel_rfl
set_option maxHeartbeats 0 in
theorem left0_3_1_true : left4 0 3 1 true = true := by kernel_rfl
theorem left0_3 : ∀ kk above, kk < 2 → left4 0 3 kk above = true := fun kk above h => by
  match kk, above, h with
  | 0, false, _ => exact left0_3_0_false
  | 0, true, _ => exact left0_3_0_true
  | 1, false, _ => exact left0_3_1_false
  | 1, true, _ => exact left0_3_1_true
  | kk + 2, _, h => omega
end Go.Z
end
