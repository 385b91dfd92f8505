/- One part of a proof: an evaluator of the model, shown right, and contracts that it yields. No condition beyond those that each theorem names. -/
import Derived.Test.YtbmfcghpppmfgaaGreatDoorZTC
import Derived.Test.YtbmfcghpppmfgaaGreatDoorZEC
section
set_option linter.unusedSimpArgs false
set_option linter.unusedVariables false
set_option linter.unusedSectionVars false
set_option linter.deprecated false
namespace Go.Z
open Go.X Go.RowKit Go.Proofs Go.Proofs.LB
open Go.Shelf
theorem at_below {a : Lab} {W W' : World} (h : a.at (viewOf W)) (hB : Below W.heap.size W W') : a.at (viewOf W') := by
 refine ⟨fun hne => ?_, h.num⟩
 obtain ⟨p, off, hb, hh⟩ := h.has hne
 refine ⟨p, off, hb, fun i v hi => ?_⟩
 have h1 : W.cell? ⟨p, off + i, none⟩ = some v := hh i v hi
 have hlt : p < W.heap.size := by
  by_cases hp : p < W.heap.size
  ·exact hp
  ·have : W.heap[p]? = none := Array.getElem?_eq_none (by omega)
   simp [World.cell?, this] at h1
 exact (World.cell?_of_block (a := ⟨p, off + i, none⟩) (hB.block p hlt)).trans h1
theorem sig_one : SigOk (sigOf [] [] 0) := sigOf_ok (k := 0) tags_nil tags_nil (by omega)
theorem begun_in (n : Nat) (w : World) : CallsIn Fence.wide n Tryz.prog 7 #[] w fun e w' => e = .returned (.bool true) ∧ Below w.heap.size w w' :=
 haveI := sig_one
 callsIn_wide.2 ((calls_of_run (envS_ok (σ := sigOf [] [] 0) paT_ok) (v := .bool true) rfl begun_run w).mono fun e W ⟨he, hk⟩ => ⟨he, ⟨hk.os, hk.tape, hk.output, hk.size, hk.block⟩⟩)
theorem may_in (n : Nat) (a : Lab) (w : World) (h : a.at (viewOf w)) : CallsIn Fence.wide n Tryz.prog 8 #[.slice a.base a.l.length a.cap] w fun e w' => ∃ b, e = .returned (.bool b) ∧ (b = true ↔ Rising a.l ∧ a.l.length ≤ 8) ∧ Below w.heap.size w w' :=
 callsIn_wide.2 ((calls_of_pspec (may_spec a (viewOf w) h)).mono fun e W ⟨v, he, ⟨_, b, hv, hb⟩, hB⟩ => ⟨b, by rw [he, hv], hb, hB⟩)
theorem may_no (n : Nat) (a : Lab) (w : World) (h : a.at (viewOf w)) (hno : ¬ (Rising a.l ∧ a.l.length ≤ 8)) : CallsIn Fence.wide n Tryz.prog 8 #[.slice a.base a.l.length a.cap] w fun e w' => e = .returned (.bool false) ∧ Below w.heap.size w w' :=
 (may_in n a w h).mono fun e W ⟨b, he, hb, hB⟩ => ⟨by cases b with | true => exact absurd (hb.1 rfl) hno | false => exact he, hB⟩
end Go.Z
end
