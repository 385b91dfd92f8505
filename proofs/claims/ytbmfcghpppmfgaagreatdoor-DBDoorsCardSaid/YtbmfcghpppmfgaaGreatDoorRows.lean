/-
  NARROWER THAN 'FOR EVERY INPUT', by the rows' own cells (each row's printed sentence says how): DBCreates: laid · DBDoors: laid · DBWaits: laid · DBRaises: laid.
  DERIVED. THE GIVEN ROWS OF THIS SEAT. 4 by the template 'for every input the law returns true; each argument reads behind the call as it read before'; 0 by the template 'total and deterministic' (their statements: YtbmfcghpppmfgaaGreatDoorTotals.lean).
  GIVEN WITH THE SEED: the statements are not yours to turn. If you find one false, say at which input.
  Laid BY PROGRAM, IN A SANDBOX (cutbox-rows.mjs): the forced cells as the released guide's own fill.sh prints them over the translation a80210b5ecc4c294… (all of the seat's roots in one cut). By AI agents, Wed Nov 11 2026. No macro, syntax, notation, axiom, sorry.
-/
import Derived.Test.YtbmfcghpppmfgaaGreatDoorChecked
import GoSem.PinnedTables
import GoSem.Claim
import GoSem.ClaimJoined
import GoSem.ClaimMapViews
import Derived.JoinedTies
import Derived.KernelRfl
namespace Go.Proofs.YtbmfcghpppmfgaaGreatDoor
/- THE CELL 'sum', in the pinned program and in every row, IS THE sha256 OF THE DUMP (.gsa) THAT YtbmfcghpppmfgaaGreatDoorProg.lean LOADS. Nothing in Lean hashes anything: it is a label: what it is worth is what the hold of that sum in a sandbox is worth. -/
noncomputable def Tryz.pinned : Pinned := { name := "ytbmfcghpppmfgaagreatdoor", sum := "a80210b5ecc4c294a8aceff53f1f684c2addd6200ba7dcf3552dfe02ea5f70ee", checked := Tryz.checked }
namespace Rows
def none {H : Type} : Left H := { results := [], args := [] }

/- WHAT THE LISTED PACKAGE-LEVEL VARIABLES READ AS WHEN THE CALL BEGINS. Each datum BY PROGRAM (the guide's laid-datum.mjs) off the statement by which the dump's own 'gosem.cut.vars' lays the variable. In a bare row this is a premise. The card (YtbmfcghpppmfgaaGreatDoorCards.lean) ties it to the program's text. -/
def laid_unicode_utf8_acceptRanges {H : Type} : DataW H := .agg [.agg [.lit (.int .u8 128), .lit (.int .u8 191)], .agg [.lit (.int .u8 160), .lit (.int .u8 191)], .agg [.lit (.int .u8 128), .lit (.int .u8 159)], .agg [.lit (.int .u8 144), .lit (.int .u8 191)], .agg [.lit (.int .u8 128), .lit (.int .u8 143)], .agg [.lit (.int .u8 0), .lit (.int .u8 0)], .agg [.lit (.int .u8 0), .lit (.int .u8 0)], .agg [.lit (.int .u8 0), .lit (.int .u8 0)], .agg [.lit (.int .u8 0), .lit (.int .u8 0)], .agg [.lit (.int .u8 0), .lit (.int .u8 0)], .agg [.lit (.int .u8 0), .lit (.int .u8 0)], .agg [.lit (.int .u8 0), .lit (.int .u8 0)], .agg [.lit (.int .u8 0), .lit (.int .u8 0)], .agg [.lit (.int .u8 0), .lit (.int .u8 0)], .agg [.lit (.int .u8 0), .lit (.int .u8 0)], .agg [.lit (.int .u8 0), .lit (.int .u8 0)]]
/-- One of Go's own tables, pinned by name: the form's constant. -/
def laid_unicode_utf8_first : DataW Unit := Go.Pinned.utf8First

/-- 'quarantinelaw27.DBCreates': WHATEVER THE INPUT: true; the input reads as it did. -/
def dBCreatesSpec : ChangeSpec := { name := "dBCreates", fn := fun _ => fun
  | [d1, d2, d3] => { results := [.lit (.bool true)], args := [d1, d2, d3] }
  | _ => none }
def dBCreatesRow : OpenClaim := { program := "ytbmfcghpppmfgaagreatdoor", sum := "a80210b5ecc4c294a8aceff53f1f684c2addd6200ba7dcf3552dfe02ea5f70ee", func := "quarantine/quarantinelaw27.DBCreates", spec := "dBCreates", inPlace := ["internal/bytealg.CountString", "internal/bytealg.IndexByteString", "internal/bytealg.IndexString", "internal/bytealg.abigen_runtime_cmpstring", "slices.overlaps[*quarantine/part.part]", "internal/bytealg.Compare", "slices.overlaps[quarantine/btree.Pair[uint64]]", "slices.overlaps[[]byte]", "slices.overlaps[*quarantine/btree.node[uint64]]"], unfollowed := true, recurses := true, named := ["unicode/utf8.first", "unicode/utf8.acceptRanges", "internal/bytealg.MaxLen"], plainKeys := false, apart := false, laid := [("unicode/utf8.acceptRanges", laid_unicode_utf8_acceptRanges), ("unicode/utf8.first", laid_unicode_utf8_first)] }
def DBCreatesSaid : Prop := dBCreatesRow.holds Tryz.pinned (OpenSpec.ofChange dBCreatesSpec)

/-- ITS FALSE NEIGHBOUR: 'it returns false'. Refute it at one input. -/
def dBCreatesWrong : ChangeSpec := { name := "dBCreates", fn := fun _ => fun
  | [d1, d2, d3] => { results := [.lit (.bool false)], args := [d1, d2, d3] }
  | _ => none }
def DBCreatesWrongFalsely : Prop := dBCreatesRow.holds Tryz.pinned (OpenSpec.ofChange dBCreatesWrong)

/-- 'quarantinelaw27.DBDoors': WHATEVER THE INPUT: true; the input reads as it did. -/
def dBDoorsSpec : ChangeSpec := { name := "dBDoors", fn := fun _ => fun
  | [d1, d2] => { results := [.lit (.bool true)], args := [d1, d2] }
  | _ => none }
def dBDoorsRow : OpenClaim := { program := "ytbmfcghpppmfgaagreatdoor", sum := "a80210b5ecc4c294a8aceff53f1f684c2addd6200ba7dcf3552dfe02ea5f70ee", func := "quarantine/quarantinelaw27.DBDoors", spec := "dBDoors", inPlace := ["internal/bytealg.CountString", "internal/bytealg.IndexByteString", "internal/bytealg.IndexString", "internal/bytealg.abigen_runtime_cmpstring", "slices.overlaps[*quarantine/part.part]", "internal/bytealg.Compare", "slices.overlaps[quarantine/btree.Pair[uint64]]", "slices.overlaps[[]byte]", "slices.overlaps[*quarantine/btree.node[uint64]]"], unfollowed := true, recurses := true, named := ["unicode/utf8.first", "unicode/utf8.acceptRanges", "internal/bytealg.MaxLen"], plainKeys := false, apart := false, laid := [("unicode/utf8.acceptRanges", laid_unicode_utf8_acceptRanges), ("unicode/utf8.first", laid_unicode_utf8_first)] }
def DBDoorsSaid : Prop := dBDoorsRow.holds Tryz.pinned (OpenSpec.ofChange dBDoorsSpec)

/-- ITS FALSE NEIGHBOUR: 'it returns false'. Refute it at one input. -/
def dBDoorsWrong : ChangeSpec := { name := "dBDoors", fn := fun _ => fun
  | [d1, d2] => { results := [.lit (.bool false)], args := [d1, d2] }
  | _ => none }
def DBDoorsWrongFalsely : Prop := dBDoorsRow.holds Tryz.pinned (OpenSpec.ofChange dBDoorsWrong)

/-- 'quarantinelaw27.DBWaits': WHATEVER THE INPUT: true; the input reads as it did. -/
def dBWaitsSpec : ChangeSpec := { name := "dBWaits", fn := fun _ => fun
  | [d1, d2] => { results := [.lit (.bool true)], args := [d1, d2] }
  | _ => none }
def dBWaitsRow : OpenClaim := { program := "ytbmfcghpppmfgaagreatdoor", sum := "a80210b5ecc4c294a8aceff53f1f684c2addd6200ba7dcf3552dfe02ea5f70ee", func := "quarantine/quarantinelaw27.DBWaits", spec := "dBWaits", inPlace := ["internal/bytealg.CountString", "internal/bytealg.IndexByteString", "internal/bytealg.IndexString", "internal/bytealg.abigen_runtime_cmpstring", "slices.overlaps[*quarantine/part.part]", "internal/bytealg.Compare", "slices.overlaps[quarantine/btree.Pair[uint64]]", "slices.overlaps[[]byte]", "slices.overlaps[*quarantine/btree.node[uint64]]"], unfollowed := true, recurses := true, named := ["unicode/utf8.first", "unicode/utf8.acceptRanges", "internal/bytealg.MaxLen"], plainKeys := false, apart := false, laid := [("unicode/utf8.acceptRanges", laid_unicode_utf8_acceptRanges), ("unicode/utf8.first", laid_unicode_utf8_first)] }
def DBWaitsSaid : Prop := dBWaitsRow.holds Tryz.pinned (OpenSpec.ofChange dBWaitsSpec)

/-- ITS FALSE NEIGHBOUR: 'it returns false'. Refute it at one input. -/
def dBWaitsWrong : ChangeSpec := { name := "dBWaits", fn := fun _ => fun
  | [d1, d2] => { results := [.lit (.bool false)], args := [d1, d2] }
  | _ => none }
def DBWaitsWrongFalsely : Prop := dBWaitsRow.holds Tryz.pinned (OpenSpec.ofChange dBWaitsWrong)

/-- 'quarantinelaw27.DBRaises': WHATEVER THE INPUT: true; the input reads as it did. -/
def dBRaisesSpec : ChangeSpec := { name := "dBRaises", fn := fun _ => fun
  | [d1, d2, d3] => { results := [.lit (.bool true)], args := [d1, d2, d3] }
  | _ => none }
def dBRaisesRow : OpenClaim := { program := "ytbmfcghpppmfgaagreatdoor", sum := "a80210b5ecc4c294a8aceff53f1f684c2addd6200ba7dcf3552dfe02ea5f70ee", func := "quarantine/quarantinelaw27.DBRaises", spec := "dBRaises", inPlace := ["internal/bytealg.CountString", "internal/bytealg.IndexByteString", "internal/bytealg.IndexString", "internal/bytealg.abigen_runtime_cmpstring", "slices.overlaps[*quarantine/part.part]", "internal/bytealg.Compare", "slices.overlaps[quarantine/btree.Pair[uint64]]", "slices.overlaps[[]byte]", "slices.overlaps[*quarantine/btree.node[uint64]]"], unfollowed := true, recurses := true, named := ["unicode/utf8.first", "unicode/utf8.acceptRanges", "internal/bytealg.MaxLen"], plainKeys := false, apart := false, laid := [("unicode/utf8.acceptRanges", laid_unicode_utf8_acceptRanges), ("unicode/utf8.first", laid_unicode_utf8_first)] }
def DBRaisesSaid : Prop := dBRaisesRow.holds Tryz.pinned (OpenSpec.ofChange dBRaisesSpec)

/-- ITS FALSE NEIGHBOUR: 'it returns false'. Refute it at one input. -/
def dBRaisesWrong : ChangeSpec := { name := "dBRaises", fn := fun _ => fun
  | [d1, d2, d3] => { results := [.lit (.bool false)], args := [d1, d2, d3] }
  | _ => none }
def DBRaisesWrongFalsely : Prop := dBRaisesRow.holds Tryz.pinned (OpenSpec.ofChange dBRaisesWrong)

/- THE SECOND FORM. 'bulk': how many values and letters a reading holds, each counted each time it is reached (what is shared counts as often as it is met; a slice's spare places count too). A statement '..UptoSaid' is the law's where the arguments, and the package variables that the reading takes, are together of bulk at most 1048576: NARROWER than '..Said'. Prove '..Said' where nothing that the law and all that it calls make is longer than what came in: it says more and counts as full. Else prove '..UptoSaid'. A law counts once. -/
mutual
def uptoBulk {H : Type} : DataW H → Nat
  | .lit (.string bytes) => bytes.length + 1
  | .lit _ => 1
  | .nil => 1
  | .ptr d => uptoBulk d + 1
  | .slice elems spare => uptoBulkAll elems + uptoBulkAll spare + 1
  | .agg parts => uptoBulkAll parts + 1
  | .iface _ d => uptoBulk d + 1
  | .map entries => uptoBulkEntries entries + 1
  | .held _ => 1
def uptoBulkAll {H : Type} : List (DataW H) → Nat
  | [] => 0
  | d :: r => uptoBulk d + uptoBulkAll r
def uptoBulkEntries {H : Type} : List (Lit × DataW H) → Nat
  | [] => 0
  | x :: r => uptoBulkEntry x + uptoBulkEntries r
def uptoBulkEntry {H : Type} : Lit × DataW H → Nat
  | (.string bytes, d) => bytes.length + uptoBulk d + 1
  | (_, d) => uptoBulk d + 1
 end
def uptoSmall : (H : Type) → List (DataW H) → Bool := fun _ ds => decide (uptoBulkAll ds ≤ 1048576)
def OpenSpec.upto (s : _root_.Go.ChangeSpec) : _root_.Go.OpenSpec := { _root_.Go.OpenSpec.ofChange s with cond := some uptoSmall }

/-- 'quarantinelaw27.DBCreates', WHERE WHAT IT READS IS OF BULK AT MOST 1048576: true; the input reads as it did. -/
def dBCreatesUptoRow : OpenClaim := { program := "ytbmfcghpppmfgaagreatdoor", sum := "a80210b5ecc4c294a8aceff53f1f684c2addd6200ba7dcf3552dfe02ea5f70ee", func := "quarantine/quarantinelaw27.DBCreates", spec := "dBCreates", inPlace := ["internal/bytealg.CountString", "internal/bytealg.IndexByteString", "internal/bytealg.IndexString", "internal/bytealg.abigen_runtime_cmpstring", "slices.overlaps[*quarantine/part.part]", "internal/bytealg.Compare", "slices.overlaps[quarantine/btree.Pair[uint64]]", "slices.overlaps[[]byte]", "slices.overlaps[*quarantine/btree.node[uint64]]"], unfollowed := true, recurses := true, named := ["unicode/utf8.first", "unicode/utf8.acceptRanges", "internal/bytealg.MaxLen"], plainKeys := false, apart := false, laid := [("unicode/utf8.acceptRanges", laid_unicode_utf8_acceptRanges), ("unicode/utf8.first", laid_unicode_utf8_first)], narrowed := true }
def DBCreatesUptoSaid : Prop := dBCreatesUptoRow.holds Tryz.pinned (OpenSpec.upto dBCreatesSpec)

/-- 'quarantinelaw27.DBDoors', WHERE WHAT IT READS IS OF BULK AT MOST 1048576: true; the input reads as it did. -/
def dBDoorsUptoRow : OpenClaim := { program := "ytbmfcghpppmfgaagreatdoor", sum := "a80210b5ecc4c294a8aceff53f1f684c2addd6200ba7dcf3552dfe02ea5f70ee", func := "quarantine/quarantinelaw27.DBDoors", spec := "dBDoors", inPlace := ["internal/bytealg.CountString", "internal/bytealg.IndexByteString", "internal/bytealg.IndexString", "internal/bytealg.abigen_runtime_cmpstring", "slices.overlaps[*quarantine/part.part]", "internal/bytealg.Compare", "slices.overlaps[quarantine/btree.Pair[uint64]]", "slices.overlaps[[]byte]", "slices.overlaps[*quarantine/btree.node[uint64]]"], unfollowed := true, recurses := true, named := ["unicode/utf8.first", "unicode/utf8.acceptRanges", "internal/bytealg.MaxLen"], plainKeys := false, apart := false, laid := [("unicode/utf8.acceptRanges", laid_unicode_utf8_acceptRanges), ("unicode/utf8.first", laid_unicode_utf8_first)], narrowed := true }
def DBDoorsUptoSaid : Prop := dBDoorsUptoRow.holds Tryz.pinned (OpenSpec.upto dBDoorsSpec)

/-- 'quarantinelaw27.DBWaits', WHERE WHAT IT READS IS OF BULK AT MOST 1048576: true; the input reads as it did. -/
def dBWaitsUptoRow : OpenClaim := { program := "ytbmfcghpppmfgaagreatdoor", sum := "a80210b5ecc4c294a8aceff53f1f684c2addd6200ba7dcf3552dfe02ea5f70ee", func := "quarantine/quarantinelaw27.DBWaits", spec := "dBWaits", inPlace := ["internal/bytealg.CountString", "internal/bytealg.IndexByteString", "internal/bytealg.IndexString", "internal/bytealg.abigen_runtime_cmpstring", "slices.overlaps[*quarantine/part.part]", "internal/bytealg.Compare", "slices.overlaps[quarantine/btree.Pair[uint64]]", "slices.overlaps[[]byte]", "slices.overlaps[*quarantine/btree.node[uint64]]"], unfollowed := true, recurses := true, named := ["unicode/utf8.first", "unicode/utf8.acceptRanges", "internal/bytealg.MaxLen"], plainKeys := false, apart := false, laid := [("unicode/utf8.acceptRanges", laid_unicode_utf8_acceptRanges), ("unicode/utf8.first", laid_unicode_utf8_first)], narrowed := true }
def DBWaitsUptoSaid : Prop := dBWaitsUptoRow.holds Tryz.pinned (OpenSpec.upto dBWaitsSpec)

/-- 'quarantinelaw27.DBRaises', WHERE WHAT IT READS IS OF BULK AT MOST 1048576: true; the input reads as it did. -/
def dBRaisesUptoRow : OpenClaim := { program := "ytbmfcghpppmfgaagreatdoor", sum := "a80210b5ecc4c294a8aceff53f1f684c2addd6200ba7dcf3552dfe02ea5f70ee", func := "quarantine/quarantinelaw27.DBRaises", spec := "dBRaises", inPlace := ["internal/bytealg.CountString", "internal/bytealg.IndexByteString", "internal/bytealg.IndexString", "internal/bytealg.abigen_runtime_cmpstring", "slices.overlaps[*quarantine/part.part]", "internal/bytealg.Compare", "slices.overlaps[quarantine/btree.Pair[uint64]]", "slices.overlaps[[]byte]", "slices.overlaps[*quarantine/btree.node[uint64]]"], unfollowed := true, recurses := true, named := ["unicode/utf8.first", "unicode/utf8.acceptRanges", "internal/bytealg.MaxLen"], plainKeys := false, apart := false, laid := [("unicode/utf8.acceptRanges", laid_unicode_utf8_acceptRanges), ("unicode/utf8.first", laid_unicode_utf8_first)], narrowed := true }
def DBRaisesUptoSaid : Prop := dBRaisesUptoRow.holds Tryz.pinned (OpenSpec.upto dBRaisesSpec)

end Rows
end Go.Proofs.YtbmfcghpppmfgaaGreatDoor
