/- One part of a proof: an evaluator of the model, shown right, and contracts that it yields. No condition beyond those that each theorem names. -/
import Derived.Test.YtbmfcghpppmfgaaGreatDoorZDH
section
set_option linter.unusedSimpArgs false
set_option linter.unusedVariables false
set_option linter.unusedSectionVars false
set_option linter.deprecated false
namespace Go.Z
open Go.X Go.RowKit Go.Proofs
set_option maxRecDepth 1000000
noncomputable section
set_option maxHeartbeats 0 in
theorem begin_9 : (newQ 9 && enterQ 9 && leaveQ 9) = true := by kernel_rfl
set_option maxHeartbeats 0 in
theorem rounds0_9 : roundsQ 9 0 3 = true := by kernel_rfl
set_option maxHeartbeats 0 in
theorem rounds3_9 : roundsQ 9 3 3 = true := by kernel_rfl
set_option maxHeartbeats 0 in
theorem rounds6_9 : roundsQ 9 6 3 = true := by kernel_rfl
end
end Go.Z
end
