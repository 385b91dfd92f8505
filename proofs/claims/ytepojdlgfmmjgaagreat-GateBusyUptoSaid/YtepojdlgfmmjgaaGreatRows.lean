/-
  No cell of these rows narrows 'for every input' (looked for: loops, veiled, ifaces, maps, wideKeys, modest, calm, conditions, laid).
  DERIVED. THE GIVEN ROWS OF THIS SEAT. 4 by the template 'for every input the law returns true; each argument reads behind the call as it read before'; 0 by the template 'total and deterministic' (their statements: YtepojdlgfmmjgaaGreatTotals.lean).
  GIVEN WITH THE SEED: the statements are not yours to turn. If you find one false, say at which input.
  Laid BY PROGRAM, IN A SANDBOX (cutbox-rows.mjs): the forced cells as the released guide's own fill.sh prints them over the translation 3954e68b8c9ccebd… (all of the seat's roots in one cut). By AI agents, Wed Nov 11 2026. No macro, syntax, notation, axiom, sorry.
-/
import Derived.Test.YtepojdlgfmmjgaaGreatChecked
import GoSem.Claim
import GoSem.ClaimJoined
import GoSem.ClaimMapViews
import Derived.JoinedTies
import Derived.KernelRfl
namespace Go.Proofs.YtepojdlgfmmjgaaGreat
/- THE CELL 'sum', in the pinned program and in every row, IS THE sha256 OF THE DUMP (.gsa) THAT YtepojdlgfmmjgaaGreatProg.lean LOADS. Nothing in Lean hashes anything: it is a label: what it is worth is what the hold of that sum in a sandbox is worth. -/
noncomputable def Tryz.pinned : Pinned := { name := "ytepojdlgfmmjgaagreat", sum := "3954e68b8c9ccebdbc65b7eeacd6e6b14f287e7f30d49d5b7a9d874aa60777b1", checked := Tryz.checked }
namespace Rows
def none {H : Type} : Left H := { results := [], args := [] }

/-- 'quarantinelaw26.GateLabels': WHATEVER THE INPUT: true; the input reads as it did. -/
def gateLabelsSpec : ChangeSpec := { name := "gateLabels", fn := fun _ => fun
  | [d1, d2] => { results := [.lit (.bool true)], args := [d1, d2] }
  | _ => none }
def gateLabelsRow : OpenClaim := { program := "ytepojdlgfmmjgaagreat", sum := "3954e68b8c9ccebdbc65b7eeacd6e6b14f287e7f30d49d5b7a9d874aa60777b1", func := "quarantine/quarantinelaw26.GateLabels", spec := "gateLabels", inPlace := ["internal/bytealg.abigen_runtime_cmpstring", "slices.overlaps[*quarantine/part.part]", "internal/bytealg.Compare", "slices.overlaps[quarantine/btree.Pair[uint64]]", "slices.overlaps[[]byte]", "slices.overlaps[*quarantine/btree.node[uint64]]"], unfollowed := true, recurses := true, plainKeys := false, apart := false }
def GateLabelsSaid : Prop := gateLabelsRow.holds Tryz.pinned (OpenSpec.ofChange gateLabelsSpec)

/-- ITS FALSE NEIGHBOUR: 'it returns false'. Refute it at one input. -/
def gateLabelsWrong : ChangeSpec := { name := "gateLabels", fn := fun _ => fun
  | [d1, d2] => { results := [.lit (.bool false)], args := [d1, d2] }
  | _ => none }
def GateLabelsWrongFalsely : Prop := gateLabelsRow.holds Tryz.pinned (OpenSpec.ofChange gateLabelsWrong)

/-- 'quarantinelaw26.GateOwns': WHATEVER THE INPUT: true; the input reads as it did. -/
def gateOwnsSpec : ChangeSpec := { name := "gateOwns", fn := fun _ => fun
  | [d1, d2] => { results := [.lit (.bool true)], args := [d1, d2] }
  | _ => none }
def gateOwnsRow : OpenClaim := { program := "ytepojdlgfmmjgaagreat", sum := "3954e68b8c9ccebdbc65b7eeacd6e6b14f287e7f30d49d5b7a9d874aa60777b1", func := "quarantine/quarantinelaw26.GateOwns", spec := "gateOwns", inPlace := ["internal/bytealg.abigen_runtime_cmpstring", "slices.overlaps[*quarantine/part.part]", "internal/bytealg.Compare", "slices.overlaps[quarantine/btree.Pair[uint64]]", "slices.overlaps[[]byte]", "slices.overlaps[*quarantine/btree.node[uint64]]"], unfollowed := true, recurses := true, plainKeys := false, apart := false }
def GateOwnsSaid : Prop := gateOwnsRow.holds Tryz.pinned (OpenSpec.ofChange gateOwnsSpec)

/-- ITS FALSE NEIGHBOUR: 'it returns false'. Refute it at one input. -/
def gateOwnsWrong : ChangeSpec := { name := "gateOwns", fn := fun _ => fun
  | [d1, d2] => { results := [.lit (.bool false)], args := [d1, d2] }
  | _ => none }
def GateOwnsWrongFalsely : Prop := gateOwnsRow.holds Tryz.pinned (OpenSpec.ofChange gateOwnsWrong)

/-- 'quarantinelaw26.GateSees': WHATEVER THE INPUT: true; the input reads as it did. -/
def gateSeesSpec : ChangeSpec := { name := "gateSees", fn := fun _ => fun
  | [d1, d2, d3] => { results := [.lit (.bool true)], args := [d1, d2, d3] }
  | _ => none }
def gateSeesRow : OpenClaim := { program := "ytepojdlgfmmjgaagreat", sum := "3954e68b8c9ccebdbc65b7eeacd6e6b14f287e7f30d49d5b7a9d874aa60777b1", func := "quarantine/quarantinelaw26.GateSees", spec := "gateSees", inPlace := ["internal/bytealg.abigen_runtime_cmpstring", "slices.overlaps[*quarantine/part.part]", "internal/bytealg.Compare", "slices.overlaps[quarantine/btree.Pair[uint64]]", "slices.overlaps[[]byte]", "slices.overlaps[*quarantine/btree.node[uint64]]"], unfollowed := true, recurses := true, plainKeys := false, apart := false }
def GateSeesSaid : Prop := gateSeesRow.holds Tryz.pinned (OpenSpec.ofChange gateSeesSpec)

/-- ITS FALSE NEIGHBOUR: 'it returns false'. Refute it at one input. -/
def gateSeesWrong : ChangeSpec := { name := "gateSees", fn := fun _ => fun
  | [d1, d2, d3] => { results := [.lit (.bool false)], args := [d1, d2, d3] }
  | _ => none }
def GateSeesWrongFalsely : Prop := gateSeesRow.holds Tryz.pinned (OpenSpec.ofChange gateSeesWrong)

/-- 'quarantinelaw26.GateBusy': WHATEVER THE INPUT: true; the input reads as it did. -/
def gateBusySpec : ChangeSpec := { name := "gateBusy", fn := fun _ => fun
  | [d1, d2, d3, d4] => { results := [.lit (.bool true)], args := [d1, d2, d3, d4] }
  | _ => none }
def gateBusyRow : OpenClaim := { program := "ytepojdlgfmmjgaagreat", sum := "3954e68b8c9ccebdbc65b7eeacd6e6b14f287e7f30d49d5b7a9d874aa60777b1", func := "quarantine/quarantinelaw26.GateBusy", spec := "gateBusy", inPlace := ["internal/bytealg.abigen_runtime_cmpstring", "slices.overlaps[*quarantine/part.part]", "internal/bytealg.Compare", "slices.overlaps[quarantine/btree.Pair[uint64]]", "slices.overlaps[[]byte]", "slices.overlaps[*quarantine/btree.node[uint64]]"], unfollowed := true, recurses := true, plainKeys := false, apart := false }
def GateBusySaid : Prop := gateBusyRow.holds Tryz.pinned (OpenSpec.ofChange gateBusySpec)

/-- ITS FALSE NEIGHBOUR: 'it returns false'. Refute it at one input. -/
def gateBusyWrong : ChangeSpec := { name := "gateBusy", fn := fun _ => fun
  | [d1, d2, d3, d4] => { results := [.lit (.bool false)], args := [d1, d2, d3, d4] }
  | _ => none }
def GateBusyWrongFalsely : Prop := gateBusyRow.holds Tryz.pinned (OpenSpec.ofChange gateBusyWrong)

/- THE SECOND FORM. 'bulk': how many values and letters a reading holds, each counted each time it is reached (what is shared counts as often as it is met; a slice's spare places count too). A statement '..UptoSaid' is the law's where the arguments, and the package variables that the reading takes, are together of bulk at most 1048576: NARROWER than '..Said'. Prove '..Said' where nothing that the law and all that it calls make is longer than what came in: it says more and counts as full. Else prove '..UptoSaid'. A law counts once. -/
mutual
def uptoBulk {H : Type} : DataW H → Nat
  | .lit (.string bytes) => bytes.length + 1
  | .lit _ => 1
  | .nil => 1
  | .ptr d => uptoBulk d + 1
  | .slice elems spare => uptoBulkAll elems + uptoBulkAll spare + 1
  | .agg parts => uptoBulkAll parts + 1
  | .iface _ d => uptoBulk d + 1
  | .map entries => uptoBulkEntries entries + 1
  | .held _ => 1
def uptoBulkAll {H : Type} : List (DataW H) → Nat
  | [] => 0
  | d :: r => uptoBulk d + uptoBulkAll r
def uptoBulkEntries {H : Type} : List (Lit × DataW H) → Nat
  | [] => 0
  | x :: r => uptoBulkEntry x + uptoBulkEntries r
def uptoBulkEntry {H : Type} : Lit × DataW H → Nat
  | (.string bytes, d) => bytes.length + uptoBulk d + 1
  | (_, d) => uptoBulk d + 1
 end
def uptoSmall : (H : Type) → List (DataW H) → Bool := fun _ ds => decide (uptoBulkAll ds ≤ 1048576)
def OpenSpec.upto (s : _root_.Go.ChangeSpec) : _root_.Go.OpenSpec := { _root_.Go.OpenSpec.ofChange s with cond := some uptoSmall }

/-- 'quarantinelaw26.GateLabels', WHERE WHAT IT READS IS OF BULK AT MOST 1048576: true; the input reads as it did. -/
def gateLabelsUptoRow : OpenClaim := { program := "ytepojdlgfmmjgaagreat", sum := "3954e68b8c9ccebdbc65b7eeacd6e6b14f287e7f30d49d5b7a9d874aa60777b1", func := "quarantine/quarantinelaw26.GateLabels", spec := "gateLabels", inPlace := ["internal/bytealg.abigen_runtime_cmpstring", "slices.overlaps[*quarantine/part.part]", "internal/bytealg.Compare", "slices.overlaps[quarantine/btree.Pair[uint64]]", "slices.overlaps[[]byte]", "slices.overlaps[*quarantine/btree.node[uint64]]"], unfollowed := true, recurses := true, plainKeys := false, apart := false, narrowed := true }
def GateLabelsUptoSaid : Prop := gateLabelsUptoRow.holds Tryz.pinned (OpenSpec.upto gateLabelsSpec)

/-- 'quarantinelaw26.GateOwns', WHERE WHAT IT READS IS OF BULK AT MOST 1048576: true; the input reads as it did. -/
def gateOwnsUptoRow : OpenClaim := { program := "ytepojdlgfmmjgaagreat", sum := "3954e68b8c9ccebdbc65b7eeacd6e6b14f287e7f30d49d5b7a9d874aa60777b1", func := "quarantine/quarantinelaw26.GateOwns", spec := "gateOwns", inPlace := ["internal/bytealg.abigen_runtime_cmpstring", "slices.overlaps[*quarantine/part.part]", "internal/bytealg.Compare", "slices.overlaps[quarantine/btree.Pair[uint64]]", "slices.overlaps[[]byte]", "slices.overlaps[*quarantine/btree.node[uint64]]"], unfollowed := true, recurses := true, plainKeys := false, apart := false, narrowed := true }
def GateOwnsUptoSaid : Prop := gateOwnsUptoRow.holds Tryz.pinned (OpenSpec.upto gateOwnsSpec)

/-- 'quarantinelaw26.GateSees', WHERE WHAT IT READS IS OF BULK AT MOST 1048576: true; the input reads as it did. -/
def gateSeesUptoRow : OpenClaim := { program := "ytepojdlgfmmjgaagreat", sum := "3954e68b8c9ccebdbc65b7eeacd6e6b14f287e7f30d49d5b7a9d874aa60777b1", func := "quarantine/quarantinelaw26.GateSees", spec := "gateSees", inPlace := ["internal/bytealg.abigen_runtime_cmpstring", "slices.overlaps[*quarantine/part.part]", "internal/bytealg.Compare", "slices.overlaps[quarantine/btree.Pair[uint64]]", "slices.overlaps[[]byte]", "slices.overlaps[*quarantine/btree.node[uint64]]"], unfollowed := true, recurses := true, plainKeys := false, apart := false, narrowed := true }
def GateSeesUptoSaid : Prop := gateSeesUptoRow.holds Tryz.pinned (OpenSpec.upto gateSeesSpec)

/-- 'quarantinelaw26.GateBusy', WHERE WHAT IT READS IS OF BULK AT MOST 1048576: true; the input reads as it did. -/
def gateBusyUptoRow : OpenClaim := { program := "ytepojdlgfmmjgaagreat", sum := "3954e68b8c9ccebdbc65b7eeacd6e6b14f287e7f30d49d5b7a9d874aa60777b1", func := "quarantine/quarantinelaw26.GateBusy", spec := "gateBusy", inPlace := ["internal/bytealg.abigen_runtime_cmpstring", "slices.overlaps[*quarantine/part.part]", "internal/bytealg.Compare", "slices.overlaps[quarantine/btree.Pair[uint64]]", "slices.overlaps[[]byte]", "slices.overlaps[*quarantine/btree.node[uint64]]"], unfollowed := true, recurses := true, plainKeys := false, apart := false, narrowed := true }
def GateBusyUptoSaid : Prop := gateBusyUptoRow.holds Tryz.pinned (OpenSpec.upto gateBusySpec)

end Rows
end Go.Proofs.YtepojdlgfmmjgaaGreat
