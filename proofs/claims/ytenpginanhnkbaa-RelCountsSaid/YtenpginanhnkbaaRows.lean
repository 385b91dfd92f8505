/-
  No cell of these rows narrows 'for every input' (looked for: loops, veiled, ifaces, maps, wideKeys, modest, calm, conditions, laid).
  DERIVED. THE GIVEN ROWS OF THIS SEAT. 11 by the template 'for every input the law returns true; each argument reads behind the call as it read before'; 0 by the template 'total and deterministic' (their statements: YtenpginanhnkbaaTotals.lean).
  GIVEN WITH THE SEED: the statements are not yours to turn. If you find one false, say at which input.
  Laid BY PROGRAM, IN A SANDBOX (cutbox-rows.mjs): the forced cells as the released guide's own fill.sh prints them over the translation 55a1dddece4f8989… (all of the seat's roots in one cut). By AI agents, Wed Nov 11 2026. No macro, syntax, notation, axiom, sorry.
-/
import Derived.Test.YtenpginanhnkbaaChecked
import GoSem.Claim
import GoSem.ClaimJoined
import GoSem.ClaimMapViews
import Derived.JoinedTies
import Derived.KernelRfl
namespace Go.Proofs.Ytenpginanhnkbaa
/- THE CELL 'sum', in the pinned program and in every row, IS THE sha256 OF THE DUMP (.gsa) THAT YtenpginanhnkbaaProg.lean LOADS. Nothing in Lean hashes anything: it is a label: what it is worth is what the hold of that sum in a sandbox is worth. -/
noncomputable def Try.pinned : Pinned := { name := "ytenpginanhnkbaa", sum := "55a1dddece4f8989b03fc5f6fc02a60f5002e31a4f61197f2ba904a1e59a3285", checked := Try.checked }
namespace Rows
def none {H : Type} : Left H := { results := [], args := [] }

/-- 'quarantinelaw11.EvalMade': WHATEVER THE INPUT: true; the input reads as it did. -/
def evalMadeSpec : ChangeSpec := { name := "evalMade", fn := fun _ => fun
  | [d1, d2, d3] => { results := [.lit (.bool true)], args := [d1, d2, d3] }
  | _ => none }
def evalMadeRow : OpenClaim := { program := "ytenpginanhnkbaa", sum := "55a1dddece4f8989b03fc5f6fc02a60f5002e31a4f61197f2ba904a1e59a3285", func := "quarantine/quarantinelaw11.EvalMade", spec := "evalMade", unfollowed := true, recurses := true, apart := false }
def EvalMadeSaid : Prop := evalMadeRow.holds Try.pinned (OpenSpec.ofChange evalMadeSpec)

/-- ITS FALSE NEIGHBOUR: 'it returns false'. Refute it at one input. -/
def evalMadeWrong : ChangeSpec := { name := "evalMade", fn := fun _ => fun
  | [d1, d2, d3] => { results := [.lit (.bool false)], args := [d1, d2, d3] }
  | _ => none }
def EvalMadeWrongFalsely : Prop := evalMadeRow.holds Try.pinned (OpenSpec.ofChange evalMadeWrong)

/-- 'quarantinelaw11.EvalNumbers': WHATEVER THE INPUT: true; the input reads as it did. -/
def evalNumbersSpec : ChangeSpec := { name := "evalNumbers", fn := fun _ => fun
  | [d1, d2, d3] => { results := [.lit (.bool true)], args := [d1, d2, d3] }
  | _ => none }
def evalNumbersRow : OpenClaim := { program := "ytenpginanhnkbaa", sum := "55a1dddece4f8989b03fc5f6fc02a60f5002e31a4f61197f2ba904a1e59a3285", func := "quarantine/quarantinelaw11.EvalNumbers", spec := "evalNumbers", unfollowed := true, recurses := true, apart := false }
def EvalNumbersSaid : Prop := evalNumbersRow.holds Try.pinned (OpenSpec.ofChange evalNumbersSpec)

/-- ITS FALSE NEIGHBOUR: 'it returns false'. Refute it at one input. -/
def evalNumbersWrong : ChangeSpec := { name := "evalNumbers", fn := fun _ => fun
  | [d1, d2, d3] => { results := [.lit (.bool false)], args := [d1, d2, d3] }
  | _ => none }
def EvalNumbersWrongFalsely : Prop := evalNumbersRow.holds Try.pinned (OpenSpec.ofChange evalNumbersWrong)

/-- 'quarantinelaw11.EvalShort': WHATEVER THE INPUT: true; the input reads as it did. -/
def evalShortSpec : ChangeSpec := { name := "evalShort", fn := fun _ => fun
  | [d1, d2, d3] => { results := [.lit (.bool true)], args := [d1, d2, d3] }
  | _ => none }
def evalShortRow : OpenClaim := { program := "ytenpginanhnkbaa", sum := "55a1dddece4f8989b03fc5f6fc02a60f5002e31a4f61197f2ba904a1e59a3285", func := "quarantine/quarantinelaw11.EvalShort", spec := "evalShort", unfollowed := true, recurses := true, apart := false }
def EvalShortSaid : Prop := evalShortRow.holds Try.pinned (OpenSpec.ofChange evalShortSpec)

/-- ITS FALSE NEIGHBOUR: 'it returns false'. Refute it at one input. -/
def evalShortWrong : ChangeSpec := { name := "evalShort", fn := fun _ => fun
  | [d1, d2, d3] => { results := [.lit (.bool false)], args := [d1, d2, d3] }
  | _ => none }
def EvalShortWrongFalsely : Prop := evalShortRow.holds Try.pinned (OpenSpec.ofChange evalShortWrong)

/-- 'quarantinelaw11.EvalCompares': WHATEVER THE INPUT: true; the input reads as it did. -/
def evalComparesSpec : ChangeSpec := { name := "evalCompares", fn := fun _ => fun
  | [d1, d2] => { results := [.lit (.bool true)], args := [d1, d2] }
  | _ => none }
def evalComparesRow : OpenClaim := { program := "ytenpginanhnkbaa", sum := "55a1dddece4f8989b03fc5f6fc02a60f5002e31a4f61197f2ba904a1e59a3285", func := "quarantine/quarantinelaw11.EvalCompares", spec := "evalCompares", unfollowed := true, recurses := true, apart := false }
def EvalComparesSaid : Prop := evalComparesRow.holds Try.pinned (OpenSpec.ofChange evalComparesSpec)

/-- ITS FALSE NEIGHBOUR: 'it returns false'. Refute it at one input. -/
def evalComparesWrong : ChangeSpec := { name := "evalCompares", fn := fun _ => fun
  | [d1, d2] => { results := [.lit (.bool false)], args := [d1, d2] }
  | _ => none }
def EvalComparesWrongFalsely : Prop := evalComparesRow.holds Try.pinned (OpenSpec.ofChange evalComparesWrong)

/-- 'quarantinelaw11.EvalCols': WHATEVER THE INPUT: true; the input reads as it did. -/
def evalColsSpec : ChangeSpec := { name := "evalCols", fn := fun _ => fun
  | [d1, d2] => { results := [.lit (.bool true)], args := [d1, d2] }
  | _ => none }
def evalColsRow : OpenClaim := { program := "ytenpginanhnkbaa", sum := "55a1dddece4f8989b03fc5f6fc02a60f5002e31a4f61197f2ba904a1e59a3285", func := "quarantine/quarantinelaw11.EvalCols", spec := "evalCols", unfollowed := true, recurses := true, apart := false }
def EvalColsSaid : Prop := evalColsRow.holds Try.pinned (OpenSpec.ofChange evalColsSpec)

/-- ITS FALSE NEIGHBOUR: 'it returns false'. Refute it at one input. -/
def evalColsWrong : ChangeSpec := { name := "evalCols", fn := fun _ => fun
  | [d1, d2] => { results := [.lit (.bool false)], args := [d1, d2] }
  | _ => none }
def EvalColsWrongFalsely : Prop := evalColsRow.holds Try.pinned (OpenSpec.ofChange evalColsWrong)

/-- 'quarantinelaw12.RelSorts': WHATEVER THE INPUT: true; the input reads as it did. -/
def relSortsSpec : ChangeSpec := { name := "relSorts", fn := fun _ => fun
  | [d1, d2, d3] => { results := [.lit (.bool true)], args := [d1, d2, d3] }
  | _ => none }
def relSortsRow : OpenClaim := { program := "ytenpginanhnkbaa", sum := "55a1dddece4f8989b03fc5f6fc02a60f5002e31a4f61197f2ba904a1e59a3285", func := "quarantine/quarantinelaw12.RelSorts", spec := "relSorts", unfollowed := true, recurses := true, apart := false }
def RelSortsSaid : Prop := relSortsRow.holds Try.pinned (OpenSpec.ofChange relSortsSpec)

/-- ITS FALSE NEIGHBOUR: 'it returns false'. Refute it at one input. -/
def relSortsWrong : ChangeSpec := { name := "relSorts", fn := fun _ => fun
  | [d1, d2, d3] => { results := [.lit (.bool false)], args := [d1, d2, d3] }
  | _ => none }
def RelSortsWrongFalsely : Prop := relSortsRow.holds Try.pinned (OpenSpec.ofChange relSortsWrong)

/-- 'quarantinelaw12.RelCounts': WHATEVER THE INPUT: true; the input reads as it did. -/
def relCountsSpec : ChangeSpec := { name := "relCounts", fn := fun _ => fun
  | [d1, d2, d3] => { results := [.lit (.bool true)], args := [d1, d2, d3] }
  | _ => none }
def relCountsRow : OpenClaim := { program := "ytenpginanhnkbaa", sum := "55a1dddece4f8989b03fc5f6fc02a60f5002e31a4f61197f2ba904a1e59a3285", func := "quarantine/quarantinelaw12.RelCounts", spec := "relCounts", unfollowed := true, recurses := true, apart := false }
def RelCountsSaid : Prop := relCountsRow.holds Try.pinned (OpenSpec.ofChange relCountsSpec)

/-- ITS FALSE NEIGHBOUR: 'it returns false'. Refute it at one input. -/
def relCountsWrong : ChangeSpec := { name := "relCounts", fn := fun _ => fun
  | [d1, d2, d3] => { results := [.lit (.bool false)], args := [d1, d2, d3] }
  | _ => none }
def RelCountsWrongFalsely : Prop := relCountsRow.holds Try.pinned (OpenSpec.ofChange relCountsWrong)

/-- 'quarantinelaw12.RelOrders': WHATEVER THE INPUT: true; the input reads as it did. -/
def relOrdersSpec : ChangeSpec := { name := "relOrders", fn := fun _ => fun
  | [d1, d2, d3] => { results := [.lit (.bool true)], args := [d1, d2, d3] }
  | _ => none }
def relOrdersRow : OpenClaim := { program := "ytenpginanhnkbaa", sum := "55a1dddece4f8989b03fc5f6fc02a60f5002e31a4f61197f2ba904a1e59a3285", func := "quarantine/quarantinelaw12.RelOrders", spec := "relOrders", unfollowed := true, recurses := true, apart := false }
def RelOrdersSaid : Prop := relOrdersRow.holds Try.pinned (OpenSpec.ofChange relOrdersSpec)

/-- ITS FALSE NEIGHBOUR: 'it returns false'. Refute it at one input. -/
def relOrdersWrong : ChangeSpec := { name := "relOrders", fn := fun _ => fun
  | [d1, d2, d3] => { results := [.lit (.bool false)], args := [d1, d2, d3] }
  | _ => none }
def RelOrdersWrongFalsely : Prop := relOrdersRow.holds Try.pinned (OpenSpec.ofChange relOrdersWrong)

/-- 'quarantinelaw12.RelWhere': WHATEVER THE INPUT: true; the input reads as it did. -/
def relWhereSpec : ChangeSpec := { name := "relWhere", fn := fun _ => fun
  | [d1, d2, d3] => { results := [.lit (.bool true)], args := [d1, d2, d3] }
  | _ => none }
def relWhereRow : OpenClaim := { program := "ytenpginanhnkbaa", sum := "55a1dddece4f8989b03fc5f6fc02a60f5002e31a4f61197f2ba904a1e59a3285", func := "quarantine/quarantinelaw12.RelWhere", spec := "relWhere", unfollowed := true, recurses := true, apart := false }
def RelWhereSaid : Prop := relWhereRow.holds Try.pinned (OpenSpec.ofChange relWhereSpec)

/-- ITS FALSE NEIGHBOUR: 'it returns false'. Refute it at one input. -/
def relWhereWrong : ChangeSpec := { name := "relWhere", fn := fun _ => fun
  | [d1, d2, d3] => { results := [.lit (.bool false)], args := [d1, d2, d3] }
  | _ => none }
def RelWhereWrongFalsely : Prop := relWhereRow.holds Try.pinned (OpenSpec.ofChange relWhereWrong)

/-- 'quarantinelaw12.RelFolds': WHATEVER THE INPUT: true; the input reads as it did. -/
def relFoldsSpec : ChangeSpec := { name := "relFolds", fn := fun _ => fun
  | [d1, d2, d3] => { results := [.lit (.bool true)], args := [d1, d2, d3] }
  | _ => none }
def relFoldsRow : OpenClaim := { program := "ytenpginanhnkbaa", sum := "55a1dddece4f8989b03fc5f6fc02a60f5002e31a4f61197f2ba904a1e59a3285", func := "quarantine/quarantinelaw12.RelFolds", spec := "relFolds", unfollowed := true, recurses := true, apart := false }
def RelFoldsSaid : Prop := relFoldsRow.holds Try.pinned (OpenSpec.ofChange relFoldsSpec)

/-- ITS FALSE NEIGHBOUR: 'it returns false'. Refute it at one input. -/
def relFoldsWrong : ChangeSpec := { name := "relFolds", fn := fun _ => fun
  | [d1, d2, d3] => { results := [.lit (.bool false)], args := [d1, d2, d3] }
  | _ => none }
def RelFoldsWrongFalsely : Prop := relFoldsRow.holds Try.pinned (OpenSpec.ofChange relFoldsWrong)

/-- 'quarantinelaw12.RelPairs': WHATEVER THE INPUT: true; the input reads as it did. -/
def relPairsSpec : ChangeSpec := { name := "relPairs", fn := fun _ => fun
  | [d1, d2, d3] => { results := [.lit (.bool true)], args := [d1, d2, d3] }
  | _ => none }
def relPairsRow : OpenClaim := { program := "ytenpginanhnkbaa", sum := "55a1dddece4f8989b03fc5f6fc02a60f5002e31a4f61197f2ba904a1e59a3285", func := "quarantine/quarantinelaw12.RelPairs", spec := "relPairs", unfollowed := true, recurses := true, apart := false }
def RelPairsSaid : Prop := relPairsRow.holds Try.pinned (OpenSpec.ofChange relPairsSpec)

/-- ITS FALSE NEIGHBOUR: 'it returns false'. Refute it at one input. -/
def relPairsWrong : ChangeSpec := { name := "relPairs", fn := fun _ => fun
  | [d1, d2, d3] => { results := [.lit (.bool false)], args := [d1, d2, d3] }
  | _ => none }
def RelPairsWrongFalsely : Prop := relPairsRow.holds Try.pinned (OpenSpec.ofChange relPairsWrong)

/- THE SECOND FORM. 'bulk': how many values and letters a reading holds, each counted each time it is reached (what is shared counts as often as it is met; a slice's spare places count too). A statement '..UptoSaid' is the law's where the arguments, and the package variables that the reading takes, are together of bulk at most 1048576: NARROWER than '..Said'. Prove '..Said' where nothing that the law and all that it calls make is longer than what came in: it says more and counts as full. Else prove '..UptoSaid'. A law counts once. -/
mutual
def uptoBulk {H : Type} : DataW H → Nat
  | .lit (.string bytes) => bytes.length + 1
  | .lit _ => 1
  | .nil => 1
  | .ptr d => uptoBulk d + 1
  | .slice elems spare => uptoBulkAll elems + uptoBulkAll spare + 1
  | .agg parts => uptoBulkAll parts + 1
  | .iface _ d => uptoBulk d + 1
  | .map entries => uptoBulkEntries entries + 1
  | .held _ => 1
def uptoBulkAll {H : Type} : List (DataW H) → Nat
  | [] => 0
  | d :: r => uptoBulk d + uptoBulkAll r
def uptoBulkEntries {H : Type} : List (Lit × DataW H) → Nat
  | [] => 0
  | x :: r => uptoBulkEntry x + uptoBulkEntries r
def uptoBulkEntry {H : Type} : Lit × DataW H → Nat
  | (.string bytes, d) => bytes.length + uptoBulk d + 1
  | (_, d) => uptoBulk d + 1
 end
def uptoSmall : (H : Type) → List (DataW H) → Bool := fun _ ds => decide (uptoBulkAll ds ≤ 1048576)
def OpenSpec.upto (s : _root_.Go.ChangeSpec) : _root_.Go.OpenSpec := { _root_.Go.OpenSpec.ofChange s with cond := some uptoSmall }

/-- 'quarantinelaw11.EvalMade', WHERE WHAT IT READS IS OF BULK AT MOST 1048576: true; the input reads as it did. -/
def evalMadeUptoRow : OpenClaim := { program := "ytenpginanhnkbaa", sum := "55a1dddece4f8989b03fc5f6fc02a60f5002e31a4f61197f2ba904a1e59a3285", func := "quarantine/quarantinelaw11.EvalMade", spec := "evalMade", unfollowed := true, recurses := true, apart := false, narrowed := true }
def EvalMadeUptoSaid : Prop := evalMadeUptoRow.holds Try.pinned (OpenSpec.upto evalMadeSpec)

/-- 'quarantinelaw11.EvalNumbers', WHERE WHAT IT READS IS OF BULK AT MOST 1048576: true; the input reads as it did. -/
def evalNumbersUptoRow : OpenClaim := { program := "ytenpginanhnkbaa", sum := "55a1dddece4f8989b03fc5f6fc02a60f5002e31a4f61197f2ba904a1e59a3285", func := "quarantine/quarantinelaw11.EvalNumbers", spec := "evalNumbers", unfollowed := true, recurses := true, apart := false, narrowed := true }
def EvalNumbersUptoSaid : Prop := evalNumbersUptoRow.holds Try.pinned (OpenSpec.upto evalNumbersSpec)

/-- 'quarantinelaw11.EvalShort', WHERE WHAT IT READS IS OF BULK AT MOST 1048576: true; the input reads as it did. -/
def evalShortUptoRow : OpenClaim := { program := "ytenpginanhnkbaa", sum := "55a1dddece4f8989b03fc5f6fc02a60f5002e31a4f61197f2ba904a1e59a3285", func := "quarantine/quarantinelaw11.EvalShort", spec := "evalShort", unfollowed := true, recurses := true, apart := false, narrowed := true }
def EvalShortUptoSaid : Prop := evalShortUptoRow.holds Try.pinned (OpenSpec.upto evalShortSpec)

/-- 'quarantinelaw11.EvalCompares', WHERE WHAT IT READS IS OF BULK AT MOST 1048576: true; the input reads as it did. -/
def evalComparesUptoRow : OpenClaim := { program := "ytenpginanhnkbaa", sum := "55a1dddece4f8989b03fc5f6fc02a60f5002e31a4f61197f2ba904a1e59a3285", func := "quarantine/quarantinelaw11.EvalCompares", spec := "evalCompares", unfollowed := true, recurses := true, apart := false, narrowed := true }
def EvalComparesUptoSaid : Prop := evalComparesUptoRow.holds Try.pinned (OpenSpec.upto evalComparesSpec)

/-- 'quarantinelaw11.EvalCols', WHERE WHAT IT READS IS OF BULK AT MOST 1048576: true; the input reads as it did. -/
def evalColsUptoRow : OpenClaim := { program := "ytenpginanhnkbaa", sum := "55a1dddece4f8989b03fc5f6fc02a60f5002e31a4f61197f2ba904a1e59a3285", func := "quarantine/quarantinelaw11.EvalCols", spec := "evalCols", unfollowed := true, recurses := true, apart := false, narrowed := true }
def EvalColsUptoSaid : Prop := evalColsUptoRow.holds Try.pinned (OpenSpec.upto evalColsSpec)

/-- 'quarantinelaw12.RelSorts', WHERE WHAT IT READS IS OF BULK AT MOST 1048576: true; the input reads as it did. -/
def relSortsUptoRow : OpenClaim := { program := "ytenpginanhnkbaa", sum := "55a1dddece4f8989b03fc5f6fc02a60f5002e31a4f61197f2ba904a1e59a3285", func := "quarantine/quarantinelaw12.RelSorts", spec := "relSorts", unfollowed := true, recurses := true, apart := false, narrowed := true }
def RelSortsUptoSaid : Prop := relSortsUptoRow.holds Try.pinned (OpenSpec.upto relSortsSpec)

/-- 'quarantinelaw12.RelCounts', WHERE WHAT IT READS IS OF BULK AT MOST 1048576: true; the input reads as it did. -/
def relCountsUptoRow : OpenClaim := { program := "ytenpginanhnkbaa", sum := "55a1dddece4f8989b03fc5f6fc02a60f5002e31a4f61197f2ba904a1e59a3285", func := "quarantine/quarantinelaw12.RelCounts", spec := "relCounts", unfollowed := true, recurses := true, apart := false, narrowed := true }
def RelCountsUptoSaid : Prop := relCountsUptoRow.holds Try.pinned (OpenSpec.upto relCountsSpec)

/-- 'quarantinelaw12.RelOrders', WHERE WHAT IT READS IS OF BULK AT MOST 1048576: true; the input reads as it did. -/
def relOrdersUptoRow : OpenClaim := { program := "ytenpginanhnkbaa", sum := "55a1dddece4f8989b03fc5f6fc02a60f5002e31a4f61197f2ba904a1e59a3285", func := "quarantine/quarantinelaw12.RelOrders", spec := "relOrders", unfollowed := true, recurses := true, apart := false, narrowed := true }
def RelOrdersUptoSaid : Prop := relOrdersUptoRow.holds Try.pinned (OpenSpec.upto relOrdersSpec)

/-- 'quarantinelaw12.RelWhere', WHERE WHAT IT READS IS OF BULK AT MOST 1048576: true; the input reads as it did. -/
def relWhereUptoRow : OpenClaim := { program := "ytenpginanhnkbaa", sum := "55a1dddece4f8989b03fc5f6fc02a60f5002e31a4f61197f2ba904a1e59a3285", func := "quarantine/quarantinelaw12.RelWhere", spec := "relWhere", unfollowed := true, recurses := true, apart := false, narrowed := true }
def RelWhereUptoSaid : Prop := relWhereUptoRow.holds Try.pinned (OpenSpec.upto relWhereSpec)

/-- 'quarantinelaw12.RelFolds', WHERE WHAT IT READS IS OF BULK AT MOST 1048576: true; the input reads as it did. -/
def relFoldsUptoRow : OpenClaim := { program := "ytenpginanhnkbaa", sum := "55a1dddece4f8989b03fc5f6fc02a60f5002e31a4f61197f2ba904a1e59a3285", func := "quarantine/quarantinelaw12.RelFolds", spec := "relFolds", unfollowed := true, recurses := true, apart := false, narrowed := true }
def RelFoldsUptoSaid : Prop := relFoldsUptoRow.holds Try.pinned (OpenSpec.upto relFoldsSpec)

/-- 'quarantinelaw12.RelPairs', WHERE WHAT IT READS IS OF BULK AT MOST 1048576: true; the input reads as it did. -/
def relPairsUptoRow : OpenClaim := { program := "ytenpginanhnkbaa", sum := "55a1dddece4f8989b03fc5f6fc02a60f5002e31a4f61197f2ba904a1e59a3285", func := "quarantine/quarantinelaw12.RelPairs", spec := "relPairs", unfollowed := true, recurses := true, apart := false, narrowed := true }
def RelPairsUptoSaid : Prop := relPairsUptoRow.holds Try.pinned (OpenSpec.upto relPairsSpec)

end Rows
end Go.Proofs.Ytenpginanhnkbaa
