/- One part of a proof: an evaluator of the model, shown right, and contracts that it yields. No condition beyond those that each theorem names. -/
import Derived.Test.YtnhllgedoimhkaaGreatDoorSF
import Derived.Test.YtnhllgedoimhkaaGreatDoorFC
import Derived.Test.YtnhllgedoimhkaaGreatDoorZTC
import Derived.Test.YtnhllgedoimhkaaGreatDoorSJ
set_option linter.unusedSimpArgs false
set_option linter.unusedVariables false
set_option linter.unusedSectionVars false
set_option linter.deprecated false
section
namespace Go.Z
open Go.X Go.RowKit Go.Proofs Go.Proofs.LB
set_option maxRecDepth 100000
theorem begun30_spec (V : View) : PSpec 13 [] V (fun v _ => v = .bool true) :=
 pspec_of_calls (fun w => (calls_of_run (envB_ok (σ := sig0)) (v := .bool true) rfl begun30_run w).mono fun e W ⟨he, hk⟩ => ⟨he, ⟨hk.os, hk.tape, hk.output, hk.size, hk.block⟩⟩) V
theorem scriptbytes_said {bs : List UInt8} {base : Option Addr} {cap : Nat} {l : List Val} {lb : Option Addr} {lc : Nat} {W : World} (h : (entryV W).cells (.slice base bs.length cap) (u8L bs) ∧ bs.length ≤ cap) (hs : ValsAt (entryV W) l lb) :
  Calls Tryz.prog 4 #[.slice base bs.length cap, .slice lb l.length lc] W fun e w' => e = .returned (.bool true) ∧ Below W.heap.size W w' :=
 calls_of_law (scriptbytes_spec twin_ok begun30_spec bs base cap l lb lc _ h.1 h.2 hs)
end Go.Z
end
