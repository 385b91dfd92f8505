/-
  DERIVED. GIVEN WITH THE SEED: THE CARDS: each row of YtnhllgedoimhkaaGreatDoorRows.lean that lists a variable, with what it lists TIED to the program's text (the seventh form; the later family's looks); each row that meets fmt, with fmt's text TOLD by the authors' own Lean function (tested against real Go, not proved from fmt's source: count such statements apart). THE CARD IS WHAT COUNTS. Prove the row's statement (the work); the ties are given (YtnhllgedoimhkaaGreatDoorTie.lean); close each card by the builder's one call (the guide's Derived/Test/ToyasCard.lean, 'card_holds'). Laid BY PROGRAM, IN A SANDBOX (cutbox-door.mjs). By AI agents, Wed Nov 11 2026. No macro, syntax, notation, axiom, sorry.
-/
import Derived.Test.YtnhllgedoimhkaaGreatDoorRows
import GoSem.ClaimSeven
namespace Go.Proofs.YtnhllgedoimhkaaGreatDoor
namespace Rows

/-- THE TIED CARD OF 'quarantinelaw29.FlowSees'. -/
def flowSeesCard : Claim7 := { stood := { row := flowSeesRow, standIns := [], harness := (true, "655b6f8755a61698088b69d04135def86d7c88bb907dd4365debea4df8dfb78f"), looks := false }, kinds := [], alts := [], laidByText := true, laidKinds := [.data, .pinned], laidTests := true, laidLooks := .later }
def FlowSeesCardSaid : Prop := Claim7.holds Tryz.pinned (.plain (OpenSpec.ofChange flowSeesSpec)) flowSeesCard

/-- THE TIED CARD OF 'quarantinelaw30.ScriptBytes'. -/
def scriptBytesCard : Claim7 := { stood := { row := scriptBytesRow, standIns := [], harness := (true, "655b6f8755a61698088b69d04135def86d7c88bb907dd4365debea4df8dfb78f"), looks := false }, kinds := [], alts := [], laidByText := true, laidKinds := [.data, .pinned], laidTests := true, laidLooks := .later }
def ScriptBytesCardSaid : Prop := Claim7.holds Tryz.pinned (.plain (OpenSpec.ofChange scriptBytesSpec)) scriptBytesCard

/-- THE TIED CARD OF 'quarantinelaw30.ScriptBack'. -/
def scriptBackCard : Claim7 := { stood := { row := scriptBackRow, standIns := [], harness := (true, "655b6f8755a61698088b69d04135def86d7c88bb907dd4365debea4df8dfb78f"), looks := false }, kinds := [], alts := [], laidByText := true, laidKinds := [.data, .pinned], laidTests := true, laidLooks := .later }
def ScriptBackCardSaid : Prop := Claim7.holds Tryz.pinned (.plain (OpenSpec.ofChange scriptBackSpec)) scriptBackCard

/-- THE SECOND FORM's CARD OF 'quarantinelaw29.FlowSees'. -/
def flowSeesUptoCard : Claim7 := { stood := { row := flowSeesUptoRow, standIns := [], harness := (true, "655b6f8755a61698088b69d04135def86d7c88bb907dd4365debea4df8dfb78f"), looks := false }, kinds := [], alts := [], laidByText := true, laidKinds := [.data, .pinned], laidTests := true, laidLooks := .later }
def FlowSeesUptoCardSaid : Prop := Claim7.holds Tryz.pinned (.plain (OpenSpec.upto flowSeesSpec)) flowSeesUptoCard

/-- THE SECOND FORM's CARD OF 'quarantinelaw30.ScriptBytes'. -/
def scriptBytesUptoCard : Claim7 := { stood := { row := scriptBytesUptoRow, standIns := [], harness := (true, "655b6f8755a61698088b69d04135def86d7c88bb907dd4365debea4df8dfb78f"), looks := false }, kinds := [], alts := [], laidByText := true, laidKinds := [.data, .pinned], laidTests := true, laidLooks := .later }
def ScriptBytesUptoCardSaid : Prop := Claim7.holds Tryz.pinned (.plain (OpenSpec.upto scriptBytesSpec)) scriptBytesUptoCard

/-- THE SECOND FORM's CARD OF 'quarantinelaw30.ScriptBack'. -/
def scriptBackUptoCard : Claim7 := { stood := { row := scriptBackUptoRow, standIns := [], harness := (true, "655b6f8755a61698088b69d04135def86d7c88bb907dd4365debea4df8dfb78f"), looks := false }, kinds := [], alts := [], laidByText := true, laidKinds := [.data, .pinned], laidTests := true, laidLooks := .later }
def ScriptBackUptoCardSaid : Prop := Claim7.holds Tryz.pinned (.plain (OpenSpec.upto scriptBackSpec)) scriptBackUptoCard
end Rows
end Go.Proofs.YtnhllgedoimhkaaGreatDoor
