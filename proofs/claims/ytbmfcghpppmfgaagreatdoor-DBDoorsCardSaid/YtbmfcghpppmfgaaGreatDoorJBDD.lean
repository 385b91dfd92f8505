/- One part of a proof: an evaluator of the model, shown right, and contracts that it yields. No condition beyond those that each theorem names. -/
import Derived.Test.YtbmfcghpppmfgaaGreatDoorCards
import Derived.SevenTiedAt
import Derived.Test.YtbmfcghpppmfgaaGreatDoorZGO
section
set_option linter.unusedSimpArgs false
set_option linter.unusedVariables false
set_option linter.unusedSectionVars false
set_option linter.deprecated false
namespace Go.Proofs.YtbmfcghpppmfgaaGreatDoor.dBDoors
set_option maxRecDepth 100000
theorem cw : Rows.dBDoorsRow.wfByText (OpenSpec.ofChange Rows.dBDoorsSpec) = true := by kernel_rfl
theorem cm : Tryz.pinned.checked.prog.mainIs = some (true, "c8340296a95b77c7982b9ce973ca52e6f38e83ca0e65e0820f80faf3e94cede1".toList) := by kernel_rfl
theorem cf : Tryz.prog.funcNamed "quarantine/quarantinelaw27.DBDoors" = some 4 := by kernel_rfl
theorem cl : false = Tryz.prog.looks [] := by kernel_rfl
theorem cs : ([5, 5].all fun u => !Tryz.prog.wantsStandIn u) = true := by kernel_rfl
theorem noGo : Tryz.prog.funcs.any Func.goes = false := by kernel_rfl
theorem cg : false = Rows.dBDoorsRow.goesBy Tryz.pinned.checked.prog := Go.Z.goes_none (P := Tryz.prog) noGo Rows.dBDoorsRow rfl
end Go.Proofs.YtbmfcghpppmfgaaGreatDoor.dBDoors
end
