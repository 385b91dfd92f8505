/- One part of a proof: an evaluator of the model, shown right, and contracts that it yields. No condition beyond those that each theorem names. -/
import Derived.Test.YthpiooedpojepaaGreatZTC
section
set_option linter.unusedSimpArgs false
set_option linter.unusedVariables false
set_option linter.unusedSectionVars false
set_option linter.deprecated false
/-! # TxnLow: its runs, and labels that may not be -/
namespace Go.Z
open Go.X Go.RowKit Go.Proofs Go.Proofs.LB
open Go.Shelf
attribute [local go_sem] Oper.semAt_some
set_option linter.unusedVariables false
noncomputable def lowQ (m r : Nat) : Bool := says (runV envT mkT 80 4 [labV 0 m, .complex .f64 784 (40 + r)] (heapA (cellsA m)) 2) (.bool true)
theorem low_of (runs : ∀ (m : Nat), m < 10 → ∀ (r : Nat), r < 9 → lowQ m r = true) {W : World} {m : Nat} {u : Value} {a : List Int} (ha : ArgOf W m u a) (ta : Tags a) {n : Int} (hn : 0 ≤ n ∧ n < 256) :
    Calls Tryz.prog 4 #[u, .int .u8 n] W fun e W' => e = .returned (.bool true) ∧ KeptZ W W' := by
  have em := ha.len'.1
  have hla := ta.len
  obtain ⟨q, r, hr, hq, rfl⟩ : ∃ q r : Nat, r < 9 ∧ q < 29 ∧ n = ((9 * q + r : Nat) : Int) := ⟨n.toNat / 9, n.toNat % 9, by omega, by omega, by omega⟩
  haveI := sigOf_ok (k := (q : Int)) ta tags_nil (by omega)
  have rA : RepTs (sig1 a (q : Int)) (cellsA m) a := by unfold cellsA; rw [em]; exact repA ta
  obtain ⟨ρ, hf, r1, hw⟩ := start1 ha rA
  have hs : sig1 a (q : Int) 784 (40 + r) = .int .u8 ((9 * q + r : Nat) : Int) := by
    show sval (Tof a [] 784) (Kof (q : Int) 784) (40 + r) = _
    rw [sval5 _ _ r hr, show Kof (q : Int) 784 = (q : Int) from rfl, Int.toNat_natCast, Nat.mod_eq_of_lt hq]
  have r3 : Rep (sig1 a (q : Int)) ρ (.complex .f64 784 (40 + r)) (.int .u8 ((9 * q + r : Nat) : Int)) := by
    have := Rep.sym (σ := sig1 a (q : Int)) (ρ := ρ) (i := 784) (j := 40 + r) (by rw [hs]; rfl)
    rwa [hs] at this
  exact calls_of_run_at (envT_ok (σ := sig1 a (q : Int))) (d := 80) (v := .bool true) rfl (says_le (runV_le (E := envT) stT 80 4 _ _ 2) (runs m (by omega) r hr)) hf (.cons r1 (.cons r3 .nil)) hw
set_option maxRecDepth 100000 in
set_option maxHeartbeats 2000000 in
theorem low_not (a : Lab) (n : Int) (W : World) (ha : a.at (viewOf W)) (hno : ¬ (Rising a.l ∧ a.l.length ≤ 8)) :
    CallsIn Fence.wide 3 Tryz.prog 4 #[.slice a.base a.l.length a.cap, .int .u8 n] W fun e W' => e = .returned (.bool true) ∧ Below W.heap.size W W' := by
  have h7 : Fence.wide.fn 7 := trivial
  have h8 : Fence.wide.fn 8 := trivial
  refine callsIn_of_wp Tryz.func4 rfl trivial ?_ rfl
  simp only [Tryz.ntmps4, List.size_toArray, List.length_cons, List.length_nil, Nat.reduceAdd, Nat.reduceSub, Array.replicate_succ, Array.replicate_zero, List.push_toArray, List.append_toArray, List.nil_append, List.cons_append]
  gi_wp2_with (first
    | (gi_at_call 7; refine (begun_in _ _).mono ?_; rintro e w1 ⟨rfl, hB1⟩)
    | (gi_at_call 8; refine (may_no _ a _ (at_below ha hB1) hno).mono ?_; rintro e w2 ⟨rfl, hB2⟩)
    | gi_in)
  go_ret
  exact ⟨rfl, hB1.trans (hB2.mono hB1.size)⟩
theorem low_no (a : Lab) (n : Int) (W : World) (ha : a.at (viewOf W)) (hno : ¬ (Rising a.l ∧ a.l.length ≤ 8)) :
    Calls Tryz.prog 4 #[a.slice, .int .u8 n] W fun e W' => e = .returned (.bool true) ∧ Below W.heap.size W W' :=
  callsIn_wide.1 (low_not a n W ha hno)
end Go.Z
end
