/- One part of a proof: an evaluator of the model, shown right, and contracts that it yields. No condition beyond those that each theorem names. -/
import Derived.Test.YtbmfcghpppmfgaaGreatDoorZEF
section
set_option linter.unusedSimpArgs false
set_option linter.unusedVariables false
set_option linter.unusedSectionVars false
set_option linter.deprecated false
/-! # runs of DBWaits, 3 -/
namespace Go.Z
set_option maxRecDepth 100000
set_option maxHeartbeats 0 in
theorem waits_3_f : waitsQ 3 false = true := by kernel_rfl
set_option maxHeartbeats 0 in
theorem waits_3_t : waitsQ 3 true = true := by kernel_rfl
end Go.Z
end
