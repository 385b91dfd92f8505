/-
  No cell of these rows narrows 'for every input' (looked for: loops, veiled, ifaces, maps, wideKeys, modest, calm, conditions, laid).
  DERIVED. THE GIVEN ROWS OF THIS SEAT. 4 by the template 'for every input the law returns true; each argument reads behind the call as it read before'; 0 by the template 'total and deterministic' (their statements: YthpiooedpojepaaGreatTotals.lean).
  GIVEN WITH THE SEED: the statements are not yours to turn. If you find one false, say at which input.
  Laid BY PROGRAM, IN A SANDBOX (cutbox-rows.mjs): the forced cells as the released guide's own fill.sh prints them over the translation bc2050472ab066b5… (all of the seat's roots in one cut). By AI agents, Wed Nov 11 2026. No macro, syntax, notation, axiom, sorry.
-/
import Derived.Test.YthpiooedpojepaaGreatChecked
import GoSem.Claim
import GoSem.ClaimJoined
import GoSem.ClaimMapViews
import Derived.JoinedTies
import Derived.KernelRfl
namespace Go.Proofs.YthpiooedpojepaaGreat
/- THE CELL 'sum', in the pinned program and in every row, IS THE sha256 OF THE DUMP (.gsa) THAT YthpiooedpojepaaGreatProg.lean LOADS. Nothing in Lean hashes anything: it is a label: what it is worth is what the hold of that sum in a sandbox is worth. -/
noncomputable def Tryz.pinned : Pinned := { name := "ythpiooedpojepaagreat", sum := "bc2050472ab066b5c2c1177c67fc87acfa1736cd7a5e5d3e6d066032f754e8db", checked := Tryz.checked }
namespace Rows
def none {H : Type} : Left H := { results := [], args := [] }

/-- 'quarantinelaw25.TxnDies': WHATEVER THE INPUT: true; the input reads as it did. -/
def txnDiesSpec : ChangeSpec := { name := "txnDies", fn := fun _ => fun
  | [d1, d2, d3] => { results := [.lit (.bool true)], args := [d1, d2, d3] }
  | _ => none }
def txnDiesRow : OpenClaim := { program := "ythpiooedpojepaagreat", sum := "bc2050472ab066b5c2c1177c67fc87acfa1736cd7a5e5d3e6d066032f754e8db", func := "quarantine/quarantinelaw25.TxnDies", spec := "txnDies", inPlace := ["internal/bytealg.abigen_runtime_cmpstring", "slices.overlaps[*quarantine/part.part]", "internal/bytealg.Compare", "slices.overlaps[quarantine/btree.Pair[uint64]]", "slices.overlaps[[]byte]", "slices.overlaps[*quarantine/btree.node[uint64]]"], unfollowed := true, recurses := true, plainKeys := false, apart := false }
def TxnDiesSaid : Prop := txnDiesRow.holds Tryz.pinned (OpenSpec.ofChange txnDiesSpec)

/-- ITS FALSE NEIGHBOUR: 'it returns false'. Refute it at one input. -/
def txnDiesWrong : ChangeSpec := { name := "txnDies", fn := fun _ => fun
  | [d1, d2, d3] => { results := [.lit (.bool false)], args := [d1, d2, d3] }
  | _ => none }
def TxnDiesWrongFalsely : Prop := txnDiesRow.holds Tryz.pinned (OpenSpec.ofChange txnDiesWrong)

/-- 'quarantinelaw25.TxnLow': WHATEVER THE INPUT: true; the input reads as it did. -/
def txnLowSpec : ChangeSpec := { name := "txnLow", fn := fun _ => fun
  | [d1, d2] => { results := [.lit (.bool true)], args := [d1, d2] }
  | _ => none }
def txnLowRow : OpenClaim := { program := "ythpiooedpojepaagreat", sum := "bc2050472ab066b5c2c1177c67fc87acfa1736cd7a5e5d3e6d066032f754e8db", func := "quarantine/quarantinelaw25.TxnLow", spec := "txnLow", inPlace := ["internal/bytealg.abigen_runtime_cmpstring", "slices.overlaps[*quarantine/part.part]", "internal/bytealg.Compare", "slices.overlaps[quarantine/btree.Pair[uint64]]", "slices.overlaps[[]byte]", "slices.overlaps[*quarantine/btree.node[uint64]]"], unfollowed := true, recurses := true, plainKeys := false, apart := false }
def TxnLowSaid : Prop := txnLowRow.holds Tryz.pinned (OpenSpec.ofChange txnLowSpec)

/-- ITS FALSE NEIGHBOUR: 'it returns false'. Refute it at one input. -/
def txnLowWrong : ChangeSpec := { name := "txnLow", fn := fun _ => fun
  | [d1, d2] => { results := [.lit (.bool false)], args := [d1, d2] }
  | _ => none }
def TxnLowWrongFalsely : Prop := txnLowRow.holds Tryz.pinned (OpenSpec.ofChange txnLowWrong)

/-- 'quarantinelaw25.TxnOwn': WHATEVER THE INPUT: true; the input reads as it did. -/
def txnOwnSpec : ChangeSpec := { name := "txnOwn", fn := fun _ => fun
  | [d1, d2] => { results := [.lit (.bool true)], args := [d1, d2] }
  | _ => none }
def txnOwnRow : OpenClaim := { program := "ythpiooedpojepaagreat", sum := "bc2050472ab066b5c2c1177c67fc87acfa1736cd7a5e5d3e6d066032f754e8db", func := "quarantine/quarantinelaw25.TxnOwn", spec := "txnOwn", inPlace := ["internal/bytealg.abigen_runtime_cmpstring", "slices.overlaps[*quarantine/part.part]", "internal/bytealg.Compare", "slices.overlaps[quarantine/btree.Pair[uint64]]", "slices.overlaps[[]byte]", "slices.overlaps[*quarantine/btree.node[uint64]]"], unfollowed := true, recurses := true, plainKeys := false, apart := false }
def TxnOwnSaid : Prop := txnOwnRow.holds Tryz.pinned (OpenSpec.ofChange txnOwnSpec)

/-- ITS FALSE NEIGHBOUR: 'it returns false'. Refute it at one input. -/
def txnOwnWrong : ChangeSpec := { name := "txnOwn", fn := fun _ => fun
  | [d1, d2] => { results := [.lit (.bool false)], args := [d1, d2] }
  | _ => none }
def TxnOwnWrongFalsely : Prop := txnOwnRow.holds Tryz.pinned (OpenSpec.ofChange txnOwnWrong)

/-- 'quarantinelaw25.TxnRefs': WHATEVER THE INPUT: true; the input reads as it did. -/
def txnRefsSpec : ChangeSpec := { name := "txnRefs", fn := fun _ => fun
  | [d1, d2, d3] => { results := [.lit (.bool true)], args := [d1, d2, d3] }
  | _ => none }
def txnRefsRow : OpenClaim := { program := "ythpiooedpojepaagreat", sum := "bc2050472ab066b5c2c1177c67fc87acfa1736cd7a5e5d3e6d066032f754e8db", func := "quarantine/quarantinelaw25.TxnRefs", spec := "txnRefs", inPlace := ["internal/bytealg.abigen_runtime_cmpstring", "slices.overlaps[*quarantine/part.part]", "internal/bytealg.Compare", "slices.overlaps[quarantine/btree.Pair[uint64]]", "slices.overlaps[[]byte]", "slices.overlaps[*quarantine/btree.node[uint64]]"], unfollowed := true, recurses := true, plainKeys := false, apart := false }
def TxnRefsSaid : Prop := txnRefsRow.holds Tryz.pinned (OpenSpec.ofChange txnRefsSpec)

/-- ITS FALSE NEIGHBOUR: 'it returns false'. Refute it at one input. -/
def txnRefsWrong : ChangeSpec := { name := "txnRefs", fn := fun _ => fun
  | [d1, d2, d3] => { results := [.lit (.bool false)], args := [d1, d2, d3] }
  | _ => none }
def TxnRefsWrongFalsely : Prop := txnRefsRow.holds Tryz.pinned (OpenSpec.ofChange txnRefsWrong)

/- THE SECOND FORM. 'bulk': how many values and letters a reading holds, each counted each time it is reached (what is shared counts as often as it is met; a slice's spare places count too). A statement '..UptoSaid' is the law's where the arguments, and the package variables that the reading takes, are together of bulk at most 1048576: NARROWER than '..Said'. Prove '..Said' where nothing that the law and all that it calls make is longer than what came in: it says more and counts as full. Else prove '..UptoSaid'. A law counts once. -/
mutual
def uptoBulk {H : Type} : DataW H → Nat
  | .lit (.string bytes) => bytes.length + 1
  | .lit _ => 1
  | .nil => 1
  | .ptr d => uptoBulk d + 1
  | .slice elems spare => uptoBulkAll elems + uptoBulkAll spare + 1
  | .agg parts => uptoBulkAll parts + 1
  | .iface _ d => uptoBulk d + 1
  | .map entries => uptoBulkEntries entries + 1
  | .held _ => 1
def uptoBulkAll {H : Type} : List (DataW H) → Nat
  | [] => 0
  | d :: r => uptoBulk d + uptoBulkAll r
def uptoBulkEntries {H : Type} : List (Lit × DataW H) → Nat
  | [] => 0
  | x :: r => uptoBulkEntry x + uptoBulkEntries r
def uptoBulkEntry {H : Type} : Lit × DataW H → Nat
  | (.string bytes, d) => bytes.length + uptoBulk d + 1
  | (_, d) => uptoBulk d + 1
 end
def uptoSmall : (H : Type) → List (DataW H) → Bool := fun _ ds => decide (uptoBulkAll ds ≤ 1048576)
def OpenSpec.upto (s : _root_.Go.ChangeSpec) : _root_.Go.OpenSpec := { _root_.Go.OpenSpec.ofChange s with cond := some uptoSmall }

/-- 'quarantinelaw25.TxnDies', WHERE WHAT IT READS IS OF BULK AT MOST 1048576: true; the input reads as it did. -/
def txnDiesUptoRow : OpenClaim := { program := "ythpiooedpojepaagreat", sum := "bc2050472ab066b5c2c1177c67fc87acfa1736cd7a5e5d3e6d066032f754e8db", func := "quarantine/quarantinelaw25.TxnDies", spec := "txnDies", inPlace := ["internal/bytealg.abigen_runtime_cmpstring", "slices.overlaps[*quarantine/part.part]", "internal/bytealg.Compare", "slices.overlaps[quarantine/btree.Pair[uint64]]", "slices.overlaps[[]byte]", "slices.overlaps[*quarantine/btree.node[uint64]]"], unfollowed := true, recurses := true, plainKeys := false, apart := false, narrowed := true }
def TxnDiesUptoSaid : Prop := txnDiesUptoRow.holds Tryz.pinned (OpenSpec.upto txnDiesSpec)

/-- 'quarantinelaw25.TxnLow', WHERE WHAT IT READS IS OF BULK AT MOST 1048576: true; the input reads as it did. -/
def txnLowUptoRow : OpenClaim := { program := "ythpiooedpojepaagreat", sum := "bc2050472ab066b5c2c1177c67fc87acfa1736cd7a5e5d3e6d066032f754e8db", func := "quarantine/quarantinelaw25.TxnLow", spec := "txnLow", inPlace := ["internal/bytealg.abigen_runtime_cmpstring", "slices.overlaps[*quarantine/part.part]", "internal/bytealg.Compare", "slices.overlaps[quarantine/btree.Pair[uint64]]", "slices.overlaps[[]byte]", "slices.overlaps[*quarantine/btree.node[uint64]]"], unfollowed := true, recurses := true, plainKeys := false, apart := false, narrowed := true }
def TxnLowUptoSaid : Prop := txnLowUptoRow.holds Tryz.pinned (OpenSpec.upto txnLowSpec)

/-- 'quarantinelaw25.TxnOwn', WHERE WHAT IT READS IS OF BULK AT MOST 1048576: true; the input reads as it did. -/
def txnOwnUptoRow : OpenClaim := { program := "ythpiooedpojepaagreat", sum := "bc2050472ab066b5c2c1177c67fc87acfa1736cd7a5e5d3e6d066032f754e8db", func := "quarantine/quarantinelaw25.TxnOwn", spec := "txnOwn", inPlace := ["internal/bytealg.abigen_runtime_cmpstring", "slices.overlaps[*quarantine/part.part]", "internal/bytealg.Compare", "slices.overlaps[quarantine/btree.Pair[uint64]]", "slices.overlaps[[]byte]", "slices.overlaps[*quarantine/btree.node[uint64]]"], unfollowed := true, recurses := true, plainKeys := false, apart := false, narrowed := true }
def TxnOwnUptoSaid : Prop := txnOwnUptoRow.holds Tryz.pinned (OpenSpec.upto txnOwnSpec)

/-- 'quarantinelaw25.TxnRefs', WHERE WHAT IT READS IS OF BULK AT MOST 1048576: true; the input reads as it did. -/
def txnRefsUptoRow : OpenClaim := { program := "ythpiooedpojepaagreat", sum := "bc2050472ab066b5c2c1177c67fc87acfa1736cd7a5e5d3e6d066032f754e8db", func := "quarantine/quarantinelaw25.TxnRefs", spec := "txnRefs", inPlace := ["internal/bytealg.abigen_runtime_cmpstring", "slices.overlaps[*quarantine/part.part]", "internal/bytealg.Compare", "slices.overlaps[quarantine/btree.Pair[uint64]]", "slices.overlaps[[]byte]", "slices.overlaps[*quarantine/btree.node[uint64]]"], unfollowed := true, recurses := true, plainKeys := false, apart := false, narrowed := true }
def TxnRefsUptoSaid : Prop := txnRefsUptoRow.holds Tryz.pinned (OpenSpec.upto txnRefsSpec)

end Rows
end Go.Proofs.YthpiooedpojepaaGreat
