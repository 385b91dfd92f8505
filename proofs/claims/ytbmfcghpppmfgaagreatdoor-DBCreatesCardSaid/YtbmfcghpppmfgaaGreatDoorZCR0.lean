/- One part of a proof: an evaluator of the model, shown right, and contracts that it yields. No condition beyond those that each theorem names. -/
import Derived.Test.YtbmfcghpppmfgaaGreatDoorZCQ
section
set_option linter.unusedSimpArgs false
set_option linter.unusedVariables false
set_option linter.unusedSectionVars false
set_option linter.deprecated false
namespace Go.Z
open Go.X Go.RowKit Go.Proofs
set_option maxRecDepth 1000000
noncomputable section
set_option maxHeartbeats 0 in
theorem creates_0_pre : preQ 0 false = true := by kernel_rfl
set_option maxHeartbeats 0 in
theorem creates_0_sufA : sufFrom 0 false 0 9 = true := by kernel_rfl
set_option maxHeartbeats 0 in
theorem creates_0_sufB : sufFrom 0 false 9 9 = true := by kernel_rfl
set_option maxHeartbeats 0 in
theorem creates_0_sufC : sufFrom 0 false 18 8 = true := by kernel_rfl
theorem creates_0_f : partsC 0 false = true := partsC_of creates_0_pre creates_0_sufA creates_0_sufB creates_0_sufC
set_option maxHeartbeats 0 in
theorem creates_0_t : partsC 0 true = true := by kernel_rfl
end
end Go.Z
end
