/- One part of a proof: an evaluator of the model, shown right, and contracts that it yields. No condition beyond those that each theorem names. -/
import Derived.Test.YtnhllgedoimhkaaGreatDoorFA
import Derived.Test.YtnhllgedoimhkaaGreatDoorZTB
import Derived.Test.YtnhllgedoimhkaaGreatDoorXZ
set_option linter.unusedSimpArgs false
set_option linter.unusedVariables false
set_option linter.unusedSectionVars false
set_option linter.deprecated false
section
namespace Go.Z
open Go.X Go.RowKit Go.Proofs Go.Proofs.LB
set_option maxRecDepth 100000
theorem pspec_of_calls {f : FuncId} {v : Value} (h : ∀ w, Calls Tryz.prog f #[] w fun e w' => e = .returned v ∧ Below w.heap.size w w') (V : View) : PSpec f [] V (fun v' _ => v' = v) := fun w hp =>
 (h w).mono fun e w' ⟨he, hk⟩ => ⟨v, V, [], he, rfl, ⟨fun b o u hu => by rw [cell_keep (hk.block b (sub_lt hp.sub hu))]; exact hp.sub b o u hu, fun i r hr => by simp at hr, fun i j r r' b _ hr => by simp at hr⟩,
  ⟨hk.os, hk.tape, hk.output, hk.size, fun k hk' _ => hk.block k hk'⟩, ⟨View.le_refl _, fun _ _ _ h => .inl h⟩, fun b ⟨r, hr, _⟩ => by cases hr⟩
theorem calls_of_law {f : FuncId} {args : List Value} {v : Value} {W : World} (h : PSpec f args (entryV W) (fun v' _ => v' = v)) : Calls Tryz.prog f args.toArray W fun e w' => e = .returned v ∧ Below W.heap.size W w' :=
 (h W ⟨sub_entry W, fun i r hr => by simp at hr, fun i j r r' b _ hr => by simp at hr⟩).mono fun e w' ⟨v', V', bs, he, hv, _, hk, _⟩ => ⟨by rw [he, hv], ⟨hk.os, hk.tape, hk.output, hk.size, fun k hk' => hk.block k hk' fun ⟨r, hr, _⟩ => by cases hr⟩⟩
end Go.Z
end
