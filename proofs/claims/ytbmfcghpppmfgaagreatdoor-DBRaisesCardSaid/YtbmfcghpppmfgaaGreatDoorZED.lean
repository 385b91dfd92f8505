/- One part of a proof: an evaluator of the model, shown right, and contracts that it yields. No condition beyond those that each theorem names. -/
import Derived.Test.YtbmfcghpppmfgaaGreatDoorZEC
section
set_option linter.unusedSimpArgs false
set_option linter.unusedVariables false
set_option linter.unusedSectionVars false
set_option linter.deprecated false
/-! # the runs of DBRaises -/
namespace Go.Z
open Go.X Go.RowKit Go.Proofs Go.Proofs.LB
noncomputable section
def raisesQ (w : Bool) (r : Nat) (s : Bool) : Bool := says (runV (envT paT) mkT 80 6 [.bool w, .complex .f64 784 (96 + r), .bool s] .nil 0) (.bool true)
end
end Go.Z
end
