/- One part of a proof: an evaluator of the model, shown right, and contracts that it yields. No condition beyond those that each theorem names. -/
import Derived.Test.YtbmfcghpppmfgaaGreatDoorZTD
import Derived.Test.YtbmfcghpppmfgaaGreatDoorZEF
section
set_option linter.unusedSimpArgs false
set_option linter.unusedVariables false
set_option linter.unusedSectionVars false
set_option linter.deprecated false
/-! # DBWaits: its runs, and labels that may not be -/
namespace Go.Z
open Go.X Go.RowKit Go.Proofs Go.Proofs.LB
open Go.Shelf
attribute [local go_sem] Oper.semAt_some
set_option linter.unusedVariables false
theorem waits_of (runs : ∀ (m : Nat), m < 10 → ∀ (b : Bool), waitsQ m b = true) {W : World} {m : Nat} {u : Value} {a : List Int} (ha : ArgOf W m u a) (ta : Tags a) (b : Bool) :
    Calls Tryz.prog 5 #[u, .bool b] W fun e W' => e = .returned (.bool true) ∧ KeptZ W W' := by
  have em := ha.len'.1
  have hla := ta.len
  haveI := sigOf_ok (k := 0) ta tags_nil (by omega)
  have rA : RepTs (sig1 a 0) (cellsA m) a := by unfold cellsA; rw [em]; exact repA ta
  obtain ⟨ρ, hf, r1, hw⟩ := start1 ha rA
  exact calls_of_run_at (envT_ok (σ := sig1 a 0) paT_ok) (d := 80) (v := .bool true) rfl (says_le (runV_le (E := envT paT) stT 80 5 _ _ 2) (runs m (by omega) b)) hf (.cons r1 (.cons (.plain rfl) .nil)) hw
set_option maxRecDepth 100000 in
set_option maxHeartbeats 2000000 in
theorem waits_not (a : Lab) (b : Bool) (W : World) (ha : a.at (viewOf W)) (hno : ¬ (Rising a.l ∧ a.l.length ≤ 8)) :
    CallsIn Fence.wide 3 Tryz.prog 5 #[.slice a.base a.l.length a.cap, .bool b] W fun e W' => e = .returned (.bool true) ∧ Below W.heap.size W W' := by
  have h7 : Fence.wide.fn 7 := trivial
  have h8 : Fence.wide.fn 8 := trivial
  refine callsIn_of_wp Tryz.func5 rfl trivial ?_ rfl
  simp only [Tryz.ntmps5, List.size_toArray, List.length_cons, List.length_nil, Nat.reduceAdd, Nat.reduceSub, Array.replicate_succ, Array.replicate_zero, List.push_toArray, List.append_toArray, List.nil_append, List.cons_append]
  gi_wp2_with (first
    | (gi_at_call 7; refine (begun_in _ _).mono ?_; rintro e w1 ⟨rfl, hB1⟩)
    | (gi_at_call 8; refine (may_no _ a _ (at_below ha hB1) hno).mono ?_; rintro e w2 ⟨rfl, hB2⟩)
    | gi_in)
  go_ret
  exact ⟨rfl, hB1.trans (hB2.mono hB1.size)⟩
theorem waits_no (a : Lab) (b : Bool) (W : World) (ha : a.at (viewOf W)) (hno : ¬ (Rising a.l ∧ a.l.length ≤ 8)) :
    Calls Tryz.prog 5 #[a.slice, .bool b] W fun e W' => e = .returned (.bool true) ∧ Below W.heap.size W W' :=
  callsIn_wide.1 (waits_not a b W ha hno)
end Go.Z
end
