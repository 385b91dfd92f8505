/- One part of a proof: an evaluator of the model, shown right, and contracts that it yields. No condition beyond those that each theorem names. -/
import Derived.Test.YthpiooedpojepaaGreatZDR0
import Derived.Test.YthpiooedpojepaaGreatZDR1
import Derived.Test.YthpiooedpojepaaGreatZDR2
import Derived.Test.YthpiooedpojepaaGreatZDR3
import Derived.Test.YthpiooedpojepaaGreatZDR4
import Derived.Test.YthpiooedpojepaaGreatZDR5
import Derived.Test.YthpiooedpojepaaGreatZDR6
import Derived.Test.YthpiooedpojepaaGreatZDR7
import Derived.Test.YthpiooedpojepaaGreatZDR8
import Derived.Test.YthpiooedpojepaaGreatZDR9
section
set_option linter.unusedSimpArgs false
set_option linter.unusedVariables false
set_option linter.unusedSectionVars false
set_option linter.deprecated false
/-! # the runs of TxnDies, all -/
namespace Go.Z
theorem dies_runs : ∀ (m : Nat), m < 10 → ∀ (e c : Bool), diesQ m e c = true
  | 0, _, false, false => dies_0_f_f
  | 0, _, false, true => dies_0_f_t
  | 0, _, true, false => dies_0_t_f
  | 0, _, true, true => dies_0_t_t
  | 1, _, false, false => dies_1_f_f
  | 1, _, false, true => dies_1_f_t
  | 1, _, true, false => dies_1_t_f
  | 1, _, true, true => dies_1_t_t
  | 2, _, false, false => dies_2_f_f
  | 2, _, false, true => dies_2_f_t
  | 2, _, true, false => dies_2_t_f
  | 2, _, true, true => dies_2_t_t
  | 3, _, false, false => dies_3_f_f
  | 3, _, false, true => dies_3_f_t
  | 3, _, true, false => dies_3_t_f
  | 3, _, true, true => dies_3_t_t
  | 4, _, false, false => dies_4_f_f
  | 4, _, false, true => dies_4_f_t
  | 4, _, true, false => dies_4_t_f
  | 4, _, true, true => dies_4_t_t
  | 5, _, false, false => dies_5_f_f
  | 5, _, false, true => dies_5_f_t
  | 5, _, true, false => dies_5_t_f
  | 5, _, true, true => dies_5_t_t
  | 6, _, false, false => dies_6_f_f
  | 6, _, false, true => dies_6_f_t
  | 6, _, true, false => dies_6_t_f
  | 6, _, true, true => dies_6_t_t
  | 7, _, false, false => dies_7_f_f
  | 7, _, false, true => dies_7_f_t
  | 7, _, true, false => dies_7_t_f
  | 7, _, true, true => dies_7_t_t
  | 8, _, false, false => dies_8_f_f
  | 8, _, false, true => dies_8_f_t
  | 8, _, true, false => dies_8_t_f
  | 8, _, true, true => dies_8_t_t
  | 9, _, false, false => dies_9_f_f
  | 9, _, false, true => dies_9_f_t
  | 9, _, true, false => dies_9_t_f
  | 9, _, true, true => dies_9_t_t
  | m + 10, h, _, _ => absurd h (by omega)
end Go.Z
end
