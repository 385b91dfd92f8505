/- One part of a proof: an evaluator of the model, shown right, and contracts that it yields. No condition beyond those that each theorem names. -/
import Derived.Test.YtbmfcghpppmfgaaGreatDoorZEC
import Derived.Test.YtbmfcghpppmfgaaGreatDoorZTC
section
set_option linter.unusedSimpArgs false
set_option linter.unusedVariables false
set_option linter.unusedSectionVars false
set_option linter.deprecated false
/-! # the runs of DBWaits -/
namespace Go.Z
open Go.X Go.RowKit Go.Proofs Go.Proofs.LB
noncomputable section
def waitsQ (m : Nat) (b : Bool) : Bool := says (runV (envT paT) mkT 80 5 [labV 0 m, .bool b] (heapA (cellsA m)) 2) (.bool true)
end
end Go.Z
end
