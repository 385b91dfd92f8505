/- One part of a proof: an evaluator of the model, shown right, and contracts that it yields. No condition beyond those that each theorem names. -/
import Derived.Test.YtbmfcghpppmfgaaGreatDoorZDH
section
set_option linter.unusedSimpArgs false
set_option linter.unusedVariables false
set_option linter.unusedSectionVars false
set_option linter.deprecated false
namespace Go.Z
open Go.X Go.RowKit Go.Proofs
set_option maxRecDepth 1000000
noncomputable section
set_option maxHeartbeats 0 in
theorem begin_6 : (newQ 6 && enterQ 6 && leaveQ 6) = true := by kernel_rfl
set_option maxHeartbeats 0 in
theorem rounds0_6 : roundsQ 6 0 3 = true := by kernel_rfl
set_option maxHeartbeats 0 in
theorem rounds3_6 : roundsQ 6 3 3 = true := by kernel_rfl
end
noncomputable section
set_option maxHeartbeats 0 in
theorem begin_7 : (newQ 7 && enterQ 7 && leaveQ 7) = true := by kernel_rfl
set_option maxHeartbeats 0 in
theorem rounds0_7 : roundsQ 7 0 3 = true := by kernel_rfl
set_option maxHeartbeats 0 in
theorem rounds3_7 : roundsQ 7 3 3 = true := by kernel_rfl
set_option maxHeartbeats 0 in
theorem rounds6_7 : roundsQ 7 6 1 = true := by kernel_rfl
end
end Go.Z
end
