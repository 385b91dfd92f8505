/-
  No cell of these rows narrows 'for every input' (looked for: loops, veiled, ifaces, maps, wideKeys, modest, calm, conditions, laid).
  DERIVED. THE GIVEN ROWS OF THIS SEAT. 2 by the template 'for every input the law returns true; each argument reads behind the call as it read before'; 0 by the template 'total and deterministic' (their statements: YtijfpknflhdemaaGreatTotals.lean).
  GIVEN WITH THE SEED: the statements are not yours to turn. If you find one false, say at which input.
  Laid BY PROGRAM, IN A SANDBOX (cutbox-rows.mjs): the forced cells as the released guide's own fill.sh prints them over the translation df5bc70b1225224e… (all of the seat's roots in one cut). By AI agents, Wed Nov 11 2026. No macro, syntax, notation, axiom, sorry.
-/
import Derived.Test.YtijfpknflhdemaaGreatChecked
import GoSem.Claim
import GoSem.ClaimJoined
import GoSem.ClaimMapViews
import Derived.JoinedTies
import Derived.KernelRfl
namespace Go.Proofs.YtijfpknflhdemaaGreat
/- THE CELL 'sum', in the pinned program and in every row, IS THE sha256 OF THE DUMP (.gsa) THAT YtijfpknflhdemaaGreatProg.lean LOADS. Nothing in Lean hashes anything: it is a label: what it is worth is what the hold of that sum in a sandbox is worth. -/
noncomputable def Tryz.pinned : Pinned := { name := "ytijfpknflhdemaagreat", sum := "df5bc70b1225224ed35a5bb01b60a2fdb8e250d9b0af9a8ba98efc04f531fb06", checked := Tryz.checked }
namespace Rows
def none {H : Type} : Left H := { results := [], args := [] }

/-- 'quarantinelaw22.KeysBelow': WHATEVER THE INPUT: true; the input reads as it did. -/
def keysBelowSpec : ChangeSpec := { name := "keysBelow", fn := fun _ => fun
  | [d1, d2, d3] => { results := [.lit (.bool true)], args := [d1, d2, d3] }
  | _ => none }
def keysBelowRow : OpenClaim := { program := "ytijfpknflhdemaagreat", sum := "df5bc70b1225224ed35a5bb01b60a2fdb8e250d9b0af9a8ba98efc04f531fb06", func := "quarantine/quarantinelaw22.KeysBelow", spec := "keysBelow", inPlace := ["internal/bytealg.abigen_runtime_cmpstring", "slices.overlaps[*quarantine/part.part]", "internal/bytealg.Compare", "slices.overlaps[quarantine/btree.Pair[uint64]]", "slices.overlaps[[]byte]", "slices.overlaps[*quarantine/btree.node[uint64]]"], unfollowed := true, recurses := true, apart := false }
def KeysBelowSaid : Prop := keysBelowRow.holds Tryz.pinned (OpenSpec.ofChange keysBelowSpec)

/-- ITS FALSE NEIGHBOUR: 'it returns false'. Refute it at one input. -/
def keysBelowWrong : ChangeSpec := { name := "keysBelow", fn := fun _ => fun
  | [d1, d2, d3] => { results := [.lit (.bool false)], args := [d1, d2, d3] }
  | _ => none }
def KeysBelowWrongFalsely : Prop := keysBelowRow.holds Tryz.pinned (OpenSpec.ofChange keysBelowWrong)

/-- 'quarantinelaw22.KeysLeft': WHATEVER THE INPUT: true; the input reads as it did. -/
def keysLeftSpec : ChangeSpec := { name := "keysLeft", fn := fun _ => fun
  | [d1, d2, d3, d4, d5, d6] => { results := [.lit (.bool true)], args := [d1, d2, d3, d4, d5, d6] }
  | _ => none }
def keysLeftRow : OpenClaim := { program := "ytijfpknflhdemaagreat", sum := "df5bc70b1225224ed35a5bb01b60a2fdb8e250d9b0af9a8ba98efc04f531fb06", func := "quarantine/quarantinelaw22.KeysLeft", spec := "keysLeft", inPlace := ["internal/bytealg.abigen_runtime_cmpstring", "slices.overlaps[*quarantine/part.part]", "internal/bytealg.Compare", "slices.overlaps[quarantine/btree.Pair[uint64]]", "slices.overlaps[[]byte]", "slices.overlaps[*quarantine/btree.node[uint64]]"], unfollowed := true, recurses := true, apart := false }
def KeysLeftSaid : Prop := keysLeftRow.holds Tryz.pinned (OpenSpec.ofChange keysLeftSpec)

/-- ITS FALSE NEIGHBOUR: 'it returns false'. Refute it at one input. -/
def keysLeftWrong : ChangeSpec := { name := "keysLeft", fn := fun _ => fun
  | [d1, d2, d3, d4, d5, d6] => { results := [.lit (.bool false)], args := [d1, d2, d3, d4, d5, d6] }
  | _ => none }
def KeysLeftWrongFalsely : Prop := keysLeftRow.holds Tryz.pinned (OpenSpec.ofChange keysLeftWrong)

/- THE SECOND FORM. 'bulk': how many values and letters a reading holds, each counted each time it is reached (what is shared counts as often as it is met; a slice's spare places count too). A statement '..UptoSaid' is the law's where the arguments, and the package variables that the reading takes, are together of bulk at most 1048576: NARROWER than '..Said'. Prove '..Said' where nothing that the law and all that it calls make is longer than what came in: it says more and counts as full. Else prove '..UptoSaid'. A law counts once. -/
mutual
def uptoBulk {H : Type} : DataW H → Nat
  | .lit (.string bytes) => bytes.length + 1
  | .lit _ => 1
  | .nil => 1
  | .ptr d => uptoBulk d + 1
  | .slice elems spare => uptoBulkAll elems + uptoBulkAll spare + 1
  | .agg parts => uptoBulkAll parts + 1
  | .iface _ d => uptoBulk d + 1
  | .map entries => uptoBulkEntries entries + 1
  | .held _ => 1
def uptoBulkAll {H : Type} : List (DataW H) → Nat
  | [] => 0
  | d :: r => uptoBulk d + uptoBulkAll r
def uptoBulkEntries {H : Type} : List (Lit × DataW H) → Nat
  | [] => 0
  | x :: r => uptoBulkEntry x + uptoBulkEntries r
def uptoBulkEntry {H : Type} : Lit × DataW H → Nat
  | (.string bytes, d) => bytes.length + uptoBulk d + 1
  | (_, d) => uptoBulk d + 1
 end
def uptoSmall : (H : Type) → List (DataW H) → Bool := fun _ ds => decide (uptoBulkAll ds ≤ 1048576)
def OpenSpec.upto (s : _root_.Go.ChangeSpec) : _root_.Go.OpenSpec := { _root_.Go.OpenSpec.ofChange s with cond := some uptoSmall }

/-- 'quarantinelaw22.KeysBelow', WHERE WHAT IT READS IS OF BULK AT MOST 1048576: true; the input reads as it did. -/
def keysBelowUptoRow : OpenClaim := { program := "ytijfpknflhdemaagreat", sum := "df5bc70b1225224ed35a5bb01b60a2fdb8e250d9b0af9a8ba98efc04f531fb06", func := "quarantine/quarantinelaw22.KeysBelow", spec := "keysBelow", inPlace := ["internal/bytealg.abigen_runtime_cmpstring", "slices.overlaps[*quarantine/part.part]", "internal/bytealg.Compare", "slices.overlaps[quarantine/btree.Pair[uint64]]", "slices.overlaps[[]byte]", "slices.overlaps[*quarantine/btree.node[uint64]]"], unfollowed := true, recurses := true, apart := false, narrowed := true }
def KeysBelowUptoSaid : Prop := keysBelowUptoRow.holds Tryz.pinned (OpenSpec.upto keysBelowSpec)

/-- 'quarantinelaw22.KeysLeft', WHERE WHAT IT READS IS OF BULK AT MOST 1048576: true; the input reads as it did. -/
def keysLeftUptoRow : OpenClaim := { program := "ytijfpknflhdemaagreat", sum := "df5bc70b1225224ed35a5bb01b60a2fdb8e250d9b0af9a8ba98efc04f531fb06", func := "quarantine/quarantinelaw22.KeysLeft", spec := "keysLeft", inPlace := ["internal/bytealg.abigen_runtime_cmpstring", "slices.overlaps[*quarantine/part.part]", "internal/bytealg.Compare", "slices.overlaps[quarantine/btree.Pair[uint64]]", "slices.overlaps[[]byte]", "slices.overlaps[*quarantine/btree.node[uint64]]"], unfollowed := true, recurses := true, apart := false, narrowed := true }
def KeysLeftUptoSaid : Prop := keysLeftUptoRow.holds Tryz.pinned (OpenSpec.upto keysLeftSpec)

end Rows
end Go.Proofs.YtijfpknflhdemaaGreat
