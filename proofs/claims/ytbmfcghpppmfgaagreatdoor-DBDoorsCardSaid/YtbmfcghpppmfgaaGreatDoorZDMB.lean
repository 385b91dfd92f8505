/- One part of a proof: an evaluator of the model, shown right, and contracts that it yields. No condition beyond those that each theorem names. -/
import Derived.Test.YtbmfcghpppmfgaaGreatDoorZDH
section
set_option linter.unusedSimpArgs false
set_option linter.unusedVariables false
set_option linter.unusedSectionVars false
set_option linter.deprecated false
namespace Go.Z
open Go.X Go.RowKit Go.Proofs
set_option maxRecDepth 1000000
noncomputable section
set_option maxHeartbeats 0 in
theorem rest_2 : restQ 2 = true := by kernel_rfl
end
noncomputable section
set_option maxHeartbeats 0 in
theorem rest_3 : restQ 3 = true := by kernel_rfl
end
end Go.Z
end
