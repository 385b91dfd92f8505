/- One part of a proof: an evaluator of the model, shown right, and contracts that it yields. No condition beyond those that each theorem names. -/
import Derived.Test.YthpiooedpojepaaGreatZRR0
import Derived.Test.YthpiooedpojepaaGreatZRR1
import Derived.Test.YthpiooedpojepaaGreatZRR2
import Derived.Test.YthpiooedpojepaaGreatZRR3
import Derived.Test.YthpiooedpojepaaGreatZRR4
import Derived.Test.YthpiooedpojepaaGreatZRR5
import Derived.Test.YthpiooedpojepaaGreatZRR6
import Derived.Test.YthpiooedpojepaaGreatZRR7
import Derived.Test.YthpiooedpojepaaGreatZRR8
section
set_option linter.unusedSimpArgs false
set_option linter.unusedVariables false
set_option linter.unusedSectionVars false
set_option linter.deprecated false
/-! # the runs of TxnRefs, all -/
namespace Go.Z
theorem refs_runs : ∀ (m : Nat), m < 10 → ∀ (o : Bool), refsQ m o = true
  | 0, _, false => refs_0_f
  | 0, _, true => refs_0_t
  | 1, _, false => refs_1_f
  | 1, _, true => refs_1_t
  | 2, _, false => refs_2_f
  | 2, _, true => refs_2_t
  | 3, _, false => refs_3_f
  | 3, _, true => refs_3_t
  | 4, _, false => refs_4_f
  | 4, _, true => refs_4_t
  | 5, _, false => refs_5_f
  | 5, _, true => refs_5_t
  | 6, _, false => refs_6_f
  | 6, _, true => refs_6_t
  | 7, _, false => refs_7_f
  | 7, _, true => refs_7_t
  | 8, _, false => refs_8_f
  | 8, _, true => refs_8_t
  | 9, _, false => refs_9_f
  | 9, _, true => refs_9_t
  | m + 10, h, _ => absurd h (by omega)
end Go.Z
end
