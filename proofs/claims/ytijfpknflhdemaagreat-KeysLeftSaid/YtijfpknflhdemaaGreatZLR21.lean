/- One part of a proof: an evaluator of the model, shown right, and contracts that it yields. No condition beyond those that each theorem names. -/
import Derived.Test.YtijfpknflhdemaaGreatZL
section
set_option linter.unusedSimpArgs false
set_option linter.unusedVariables false
set_option linter.unusedSectionVars false
set_option linter.deprecated false
namespace Go.Z
set_option maxRecDepth 100000
set_option maxHeartbeats 0 in
theorem left7_9_0_false : left4 7 9 0 false = true := by kernel_rfl
set_option maxHeartbeats 0 in
theorem left7_9_0_true : left4 7 9 0 true = true := by kernel_rfl
set_option maxHeartbeats 0 in
theorem left7_9_1_false : left4 7 9 1 false = true := by kernel_rfl
set_option maxHeartbeats 0 in
theorem left7_9_1_true : left4 7 9 1 true = true := by kernel_rfl
theorem left7_9 : ∀ kk above, kk < 2 → left4 7 9 kk above = true := fun kk above h => by
  match kk, above, h with
  | 0, false, _ => exact left7_9_0_false
  | 0, true, _ => exact left7_9_0_true
  | 1, false, _ => exact left7_9_1_false
  | 1, true, _ => exact left7_9_1_true
  | kk + 2, _, h => omega
set_option maxHeartbeats 0 in
theorem left8_9_0_false : left4 8 9 0 false = true := by kernel_rfl
set_option maxHeartbeats 0 in
theorem left8_9_0_true : left4 8 9 0 true = true := by kernel_rfl
set_option maxHeartbeats 0 in
theorem left8_9_1_false : left4 8 9 1 false = true := by kernel_rfl
set_option maxHeartbeats 0 in
theorem left8_9_1_true : left4 8 9 1 true = true := by kernel_rfl
theorem left8_9 : ∀ kk above, kk < 2 → left4 8 9 kk above = true := fun kk above h => by
  match kk, above, h with
  | 0, false, _ => exact left8_9_0_false
  | 0, true, _ => exact left8_9_0_true
  | 1, false, _ => exact left8_9_1_false
  | 1, true, _ => exact left8_9_1_true
  | kk + 2, _, h => omega
end Go.Z
end
