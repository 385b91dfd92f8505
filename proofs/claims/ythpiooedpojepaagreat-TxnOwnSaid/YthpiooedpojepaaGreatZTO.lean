/- One part of a proof: an evaluator of the model, shown right, and contracts that it yields. No condition beyond those that each theorem names. -/
import Derived.Test.YthpiooedpojepaaGreatZTC
section
set_option linter.unusedSimpArgs false
set_option linter.unusedVariables false
set_option linter.unusedSectionVars false
set_option linter.deprecated false
/-! # TxnOwn: its runs, and labels that may not be -/
namespace Go.Z
open Go.X Go.RowKit Go.Proofs Go.Proofs.LB
open Go.Shelf
attribute [local go_sem] Oper.semAt_some
set_option linter.unusedVariables false
noncomputable def ownQ (m : Nat) : Bool := says (runV envT mkT 80 5 [.complex .f64 784 4, labV 0 m] (heapA (cellsA m)) 2) (.bool true)
theorem own_of (runs : ∀ (m : Nat), m < 10 → ownQ m = true) {W : World} {m : Nat} {u : Value} {a : List Int} (ha : ArgOf W m u a) (ta : Tags a) {k : Int} (hk : -9223372036854775808 ≤ k ∧ k < 9223372036854775808) :
    Calls Tryz.prog 5 #[.int .i64 k, u] W fun e W' => e = .returned (.bool true) ∧ KeptZ W W' := by
  have em := ha.len'.1
  have hla := ta.len
  haveI := sigOf_ok (k := k) ta tags_nil hk
  have rA : RepTs (sig1 a k) (cellsA m) a := by unfold cellsA; rw [em]; exact repA ta
  obtain ⟨ρ, hf, r1, hw⟩ := start1 ha rA
  have r3 : Rep (sig1 a k) ρ (.complex .f64 784 4) (.int .i64 k) := by
    have := Rep.sym (σ := sig1 a k) (ρ := ρ) (i := 784) (j := 4) (rfl)
    exact this
  exact calls_of_run_at (envT_ok (σ := sig1 a k)) (d := 80) (v := .bool true) rfl (says_le (runV_le (E := envT) stT 80 5 _ _ 2) (runs m (by omega))) hf (.cons r3 (.cons r1 .nil)) hw
set_option maxRecDepth 100000 in
set_option maxHeartbeats 2000000 in
theorem own_not (a : Lab) (k : Int) (W : World) (ha : a.at (viewOf W)) (hno : ¬ (Rising a.l ∧ a.l.length ≤ 8)) :
    CallsIn Fence.wide 3 Tryz.prog 5 #[.int .i64 k, .slice a.base a.l.length a.cap] W fun e W' => e = .returned (.bool true) ∧ Below W.heap.size W W' := by
  have h7 : Fence.wide.fn 7 := trivial
  have h8 : Fence.wide.fn 8 := trivial
  refine callsIn_of_wp Tryz.func5 rfl trivial ?_ rfl
  simp only [Tryz.ntmps5, List.size_toArray, List.length_cons, List.length_nil, Nat.reduceAdd, Nat.reduceSub, Array.replicate_succ, Array.replicate_zero, List.push_toArray, List.append_toArray, List.nil_append, List.cons_append]
  gi_wp2_with (first
    | (gi_at_call 7; refine (begun_in _ _).mono ?_; rintro e w1 ⟨rfl, hB1⟩)
    | (gi_at_call 8; refine (may_no _ a _ (at_below ha hB1) hno).mono ?_; rintro e w2 ⟨rfl, hB2⟩)
    | gi_in)
  go_ret
  exact ⟨rfl, hB1.trans (hB2.mono hB1.size)⟩
theorem own_no (a : Lab) (k : Int) (W : World) (ha : a.at (viewOf W)) (hno : ¬ (Rising a.l ∧ a.l.length ≤ 8)) :
    Calls Tryz.prog 5 #[.int .i64 k, a.slice] W fun e W' => e = .returned (.bool true) ∧ Below W.heap.size W W' :=
  callsIn_wide.1 (own_not a k W ha hno)
end Go.Z
end
