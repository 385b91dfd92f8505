/-
  DERIVED. GIVEN WITH THE SEED: THE CARDS: each row of YtbmfcghpppmfgaaGreatDoorRows.lean that lists a variable, with what it lists TIED to the program's text (the seventh form; the later family's looks); each row that meets fmt, with fmt's text TOLD by the authors' own Lean function (tested against real Go, not proved from fmt's source: count such statements apart). THE CARD IS WHAT COUNTS. Prove the row's statement (the work); the ties are given (YtbmfcghpppmfgaaGreatDoorTie.lean); close each card by the builder's one call (the guide's Derived/Test/ToyasCard.lean, 'card_holds'). Laid BY PROGRAM, IN A SANDBOX (cutbox-door.mjs). By AI agents, Wed Nov 11 2026. No macro, syntax, notation, axiom, sorry.
-/
import Derived.Test.YtbmfcghpppmfgaaGreatDoorRows
import GoSem.ClaimSeven
namespace Go.Proofs.YtbmfcghpppmfgaaGreatDoor
namespace Rows

/-- THE TIED CARD OF 'quarantinelaw27.DBCreates'. -/
def dBCreatesCard : Claim7 := { stood := { row := dBCreatesRow, standIns := [], harness := (true, "c8340296a95b77c7982b9ce973ca52e6f38e83ca0e65e0820f80faf3e94cede1"), looks := false }, kinds := [], alts := [], laidByText := true, laidKinds := [.data, .pinned], laidTests := true, laidLooks := .later }
def DBCreatesCardSaid : Prop := Claim7.holds Tryz.pinned (.plain (OpenSpec.ofChange dBCreatesSpec)) dBCreatesCard

/-- THE TIED CARD OF 'quarantinelaw27.DBDoors'. -/
def dBDoorsCard : Claim7 := { stood := { row := dBDoorsRow, standIns := [], harness := (true, "c8340296a95b77c7982b9ce973ca52e6f38e83ca0e65e0820f80faf3e94cede1"), looks := false }, kinds := [], alts := [], laidByText := true, laidKinds := [.data, .pinned], laidTests := true, laidLooks := .later }
def DBDoorsCardSaid : Prop := Claim7.holds Tryz.pinned (.plain (OpenSpec.ofChange dBDoorsSpec)) dBDoorsCard

/-- THE TIED CARD OF 'quarantinelaw27.DBWaits'. -/
def dBWaitsCard : Claim7 := { stood := { row := dBWaitsRow, standIns := [], harness := (true, "c8340296a95b77c7982b9ce973ca52e6f38e83ca0e65e0820f80faf3e94cede1"), looks := false }, kinds := [], alts := [], laidByText := true, laidKinds := [.data, .pinned], laidTests := true, laidLooks := .later }
def DBWaitsCardSaid : Prop := Claim7.holds Tryz.pinned (.plain (OpenSpec.ofChange dBWaitsSpec)) dBWaitsCard

/-- THE TIED CARD OF 'quarantinelaw27.DBRaises'. -/
def dBRaisesCard : Claim7 := { stood := { row := dBRaisesRow, standIns := [], harness := (true, "c8340296a95b77c7982b9ce973ca52e6f38e83ca0e65e0820f80faf3e94cede1"), looks := false }, kinds := [], alts := [], laidByText := true, laidKinds := [.data, .pinned], laidTests := true, laidLooks := .later }
def DBRaisesCardSaid : Prop := Claim7.holds Tryz.pinned (.plain (OpenSpec.ofChange dBRaisesSpec)) dBRaisesCard

/-- THE SECOND FORM's CARD OF 'quarantinelaw27.DBCreates'. -/
def dBCreatesUptoCard : Claim7 := { stood := { row := dBCreatesUptoRow, standIns := [], harness := (true, "c8340296a95b77c7982b9ce973ca52e6f38e83ca0e65e0820f80faf3e94cede1"), looks := false }, kinds := [], alts := [], laidByText := true, laidKinds := [.data, .pinned], laidTests := true, laidLooks := .later }
def DBCreatesUptoCardSaid : Prop := Claim7.holds Tryz.pinned (.plain (OpenSpec.upto dBCreatesSpec)) dBCreatesUptoCard

/-- THE SECOND FORM's CARD OF 'quarantinelaw27.DBDoors'. -/
def dBDoorsUptoCard : Claim7 := { stood := { row := dBDoorsUptoRow, standIns := [], harness := (true, "c8340296a95b77c7982b9ce973ca52e6f38e83ca0e65e0820f80faf3e94cede1"), looks := false }, kinds := [], alts := [], laidByText := true, laidKinds := [.data, .pinned], laidTests := true, laidLooks := .later }
def DBDoorsUptoCardSaid : Prop := Claim7.holds Tryz.pinned (.plain (OpenSpec.upto dBDoorsSpec)) dBDoorsUptoCard

/-- THE SECOND FORM's CARD OF 'quarantinelaw27.DBWaits'. -/
def dBWaitsUptoCard : Claim7 := { stood := { row := dBWaitsUptoRow, standIns := [], harness := (true, "c8340296a95b77c7982b9ce973ca52e6f38e83ca0e65e0820f80faf3e94cede1"), looks := false }, kinds := [], alts := [], laidByText := true, laidKinds := [.data, .pinned], laidTests := true, laidLooks := .later }
def DBWaitsUptoCardSaid : Prop := Claim7.holds Tryz.pinned (.plain (OpenSpec.upto dBWaitsSpec)) dBWaitsUptoCard

/-- THE SECOND FORM's CARD OF 'quarantinelaw27.DBRaises'. -/
def dBRaisesUptoCard : Claim7 := { stood := { row := dBRaisesUptoRow, standIns := [], harness := (true, "c8340296a95b77c7982b9ce973ca52e6f38e83ca0e65e0820f80faf3e94cede1"), looks := false }, kinds := [], alts := [], laidByText := true, laidKinds := [.data, .pinned], laidTests := true, laidLooks := .later }
def DBRaisesUptoCardSaid : Prop := Claim7.holds Tryz.pinned (.plain (OpenSpec.upto dBRaisesSpec)) dBRaisesUptoCard
end Rows
end Go.Proofs.YtbmfcghpppmfgaaGreatDoor
