/- One part of a proof: an evaluator of the model, shown right, and contracts that it yields. No condition beyond those that each theorem names. -/
import Derived.Test.YthpiooedpojepaaGreatZOR0
import Derived.Test.YthpiooedpojepaaGreatZOR1
import Derived.Test.YthpiooedpojepaaGreatZOR2
section
set_option linter.unusedSimpArgs false
set_option linter.unusedVariables false
set_option linter.unusedSectionVars false
set_option linter.deprecated false
/-! # the runs of TxnOwn, all -/
namespace Go.Z
theorem own_runs : ∀ (m : Nat), m < 10 → ownQ m = true
  | 0, _ => own_0
  | 1, _ => own_1
  | 2, _ => own_2
  | 3, _ => own_3
  | 4, _ => own_4
  | 5, _ => own_5
  | 6, _ => own_6
  | 7, _ => own_7
  | 8, _ => own_8
  | 9, _ => own_9
  | m + 10, h => absurd h (by omega)
end Go.Z
end
