/- One part of a proof: an evaluator of the model, shown right, and contracts that it yields. No condition beyond those that each theorem names. -/
import Derived.Test.YtijfpknflhdemaaGreatZL
section
set_option linter.unusedSimpArgs false
set_option linter.unusedVariables false
set_option linter.unusedSectionVars false
set_option linter.deprecated false
/-! # KeysLeft at labels that may not be, or do not lie one above the other -/
namespace Go.Z
open Go.X Go.RowKit Go.Proofs Go.Proofs.LB
open Go.Shelf
attribute [local go_sem] Oper.semAt_some
theorem at_belowL {a : Lab} {W W' : World} (h : a.at (viewOf W)) (hB : Below W.heap.size W W') : a.at (viewOf W') := by
  refine ⟨fun hne => ?_, h.num⟩
  obtain ⟨p, off, hb, hh⟩ := h.has hne
  refine ⟨p, off, hb, fun i v hi => ?_⟩
  have h1 : W.cell? ⟨p, off + i, none⟩ = some v := hh i v hi
  have hlt : p < W.heap.size := by
    by_cases hp : p < W.heap.size
    · exact hp
    · have : W.heap[p]? = none := Array.getElem?_eq_none (by omega)
      simp [World.cell?, this] at h1
  exact (World.cell?_of_block (a := ⟨p, off + i, none⟩) (hB.block p hlt)).trans h1
theorem begun_inL (n : Nat) (w : World) : CallsIn Fence.wide n Tryz.prog 5 #[] w fun e w' => e = .returned (.bool true) ∧ Below w.heap.size w w' :=
  callsIn_wide.2 ((calls_of_run (envB_ok (σ := sig0) tab0_ok) (v := .bool true) rfl (says_le (runF_le 60 5 [] .nil 0) begun_says) w).mono fun e W ⟨he, hk⟩ => ⟨he, ⟨hk.os, hk.tape, hk.output, hk.size, hk.block⟩⟩)
theorem may_inL (n : Nat) (a : Lab) (w : World) (h : a.at (viewOf w)) : CallsIn Fence.wide n Tryz.prog 6 #[.slice a.base a.l.length a.cap] w fun e w' => ∃ b, e = .returned (.bool b) ∧ (b = true ↔ Rising a.l ∧ a.l.length ≤ 8) ∧ Below w.heap.size w w' :=
  callsIn_wide.2 ((calls_of_pspec (may_spec a (viewOf w) h)).mono fun e W ⟨v, he, ⟨_, b, hv, hb⟩, hB⟩ => ⟨b, by rw [he, hv], hb, hB⟩)
theorem may_noL (n : Nat) (a : Lab) (w : World) (h : a.at (viewOf w)) (hno : ¬ (Rising a.l ∧ a.l.length ≤ 8)) : CallsIn Fence.wide n Tryz.prog 6 #[.slice a.base a.l.length a.cap] w fun e w' => e = .returned (.bool false) ∧ Below w.heap.size w w' :=
  (may_inL n a w h).mono fun e W ⟨b, he, hb, hB⟩ => ⟨by cases b with | true => exact absurd (hb.1 rfl) hno | false => exact he, hB⟩
theorem may_yesL (n : Nat) (a : Lab) (w : World) (h : a.at (viewOf w)) (hyes : Rising a.l ∧ a.l.length ≤ 8) : CallsIn Fence.wide n Tryz.prog 6 #[.slice a.base a.l.length a.cap] w fun e w' => e = .returned (.bool true) ∧ Below w.heap.size w w' :=
  (may_inL n a w h).mono fun e W ⟨b, he, hb, hB⟩ => ⟨by cases b with | true => exact he | false => exact absurd (hb.2 hyes) (by simp), hB⟩
theorem above_noL (n : Nat) (a c : Lab) (w : World) (h : a.at (viewOf w)) (h' : c.at (viewOf w)) (hyes : Rising a.l ∧ a.l.length ≤ 8) (hyes2 : Rising c.l ∧ c.l.length ≤ 8) (hno : ¬ ((∀ x ∈ a.l, x ∈ c.l) ∧ cmpA a.l c.l ≠ 0)) :
    CallsIn Fence.wide n Tryz.prog 16 #[.slice a.base a.l.length a.cap, .slice c.base c.l.length c.cap] w fun e w' => e = .returned (.bool false) ∧ Below w.heap.size w w' :=
  callsIn_wide.2 ((calls_of_pspec (above_spec a c (viewOf w) h h' (by omega) (by omega))).mono fun e W ⟨v, he, ⟨_, b, hv, hb⟩, hB⟩ => by
    cases b with
    | true => exact absurd (hb.1 rfl) hno
    | false => exact ⟨by rw [he, hv], hB⟩)
set_option maxRecDepth 100000 in
set_option maxHeartbeats 2000000 in
theorem left_not1 (a : Lab) (v : Value) (k : Int) (p q r : Bool) (W : World) (ha : a.at (viewOf W)) (hno : ¬ (Rising a.l ∧ a.l.length ≤ 8)) :
    CallsIn Fence.wide 4 Tryz.prog 4 #[.slice a.base a.l.length a.cap, v, .int .i64 k, .bool p, .bool q, .bool r] W fun e W' => e = .returned (.bool true) ∧ Below W.heap.size W W' := by
  have h5 : Fence.wide.fn 5 := trivial
  have h6 : Fence.wide.fn 6 := trivial
  have h16 : Fence.wide.fn 16 := trivial
  refine callsIn_of_wp Tryz.func4 rfl trivial ?_ rfl
  simp only [Tryz.ntmps4, List.size_toArray, List.length_cons, List.length_nil, Nat.reduceAdd, Nat.reduceSub, Array.replicate_succ, Array.replicate_zero, List.push_toArray, List.append_toArray, List.nil_append, List.cons_append]
  gi_wp2_with (first
    | (gi_at_call 5; refine (begun_inL _ _).mono ?_; rintro e w1 ⟨rfl, hB1⟩)
    | (gi_at_call 6; refine (may_noL _ a _ (at_belowL ha hB1) hno).mono ?_; rintro e w2 ⟨rfl, hB2⟩)
    | gi_in)
  go_ret
  exact ⟨rfl, hB1.trans (hB2.mono hB1.size)⟩
set_option maxRecDepth 100000 in
set_option maxHeartbeats 2000000 in
theorem left_not2 (a c : Lab) (k : Int) (p q r : Bool) (W : World) (ha : a.at (viewOf W)) (hc : c.at (viewOf W)) (hyes : Rising a.l ∧ a.l.length ≤ 8) (hno : ¬ (Rising c.l ∧ c.l.length ≤ 8)) :
    CallsIn Fence.wide 4 Tryz.prog 4 #[.slice a.base a.l.length a.cap, .slice c.base c.l.length c.cap, .int .i64 k, .bool p, .bool q, .bool r] W fun e W' => e = .returned (.bool true) ∧ Below W.heap.size W W' := by
  have h5 : Fence.wide.fn 5 := trivial
  have h6 : Fence.wide.fn 6 := trivial
  have h16 : Fence.wide.fn 16 := trivial
  refine callsIn_of_wp Tryz.func4 rfl trivial ?_ rfl
  simp only [Tryz.ntmps4, List.size_toArray, List.length_cons, List.length_nil, Nat.reduceAdd, Nat.reduceSub, Array.replicate_succ, Array.replicate_zero, List.push_toArray, List.append_toArray, List.nil_append, List.cons_append]
  gi_wp2_with (first
    | (gi_at_call 5; refine (begun_inL _ _).mono ?_; rintro e w1 ⟨rfl, hB1⟩)
    | (gi_at_call 6; refine (may_noL _ c _ (at_belowL hc (hB1.trans (hB2.mono hB1.size))) hno).mono ?_; rintro e w3 ⟨rfl, hB3⟩)
    | (gi_at_call 6; refine (may_yesL _ a _ (at_belowL ha hB1) hyes).mono ?_; rintro e w2 ⟨rfl, hB2⟩)
    | gi_in)
  go_ret
  exact ⟨rfl, (hB1.trans (hB2.mono hB1.size)).trans (hB3.mono (hB1.trans (hB2.mono hB1.size)).size)⟩
set_option maxRecDepth 100000 in
set_option maxHeartbeats 2000000 in
theorem left_not3 (a c : Lab) (k : Int) (p q r : Bool) (W : World) (ha : a.at (viewOf W)) (hc : c.at (viewOf W)) (hyes : Rising a.l ∧ a.l.length ≤ 8) (hyes2 : Rising c.l ∧ c.l.length ≤ 8) (hno : ¬ ((∀ x ∈ a.l, x ∈ c.l) ∧ cmpA a.l c.l ≠ 0)) :
    CallsIn Fence.wide 4 Tryz.prog 4 #[.slice a.base a.l.length a.cap, .slice c.base c.l.length c.cap, .int .i64 k, .bool p, .bool q, .bool r] W fun e W' => e = .returned (.bool true) ∧ Below W.heap.size W W' := by
  have h5 : Fence.wide.fn 5 := trivial
  have h6 : Fence.wide.fn 6 := trivial
  have h16 : Fence.wide.fn 16 := trivial
  refine callsIn_of_wp Tryz.func4 rfl trivial ?_ rfl
  simp only [Tryz.ntmps4, List.size_toArray, List.length_cons, List.length_nil, Nat.reduceAdd, Nat.reduceSub, Array.replicate_succ, Array.replicate_zero, List.push_toArray, List.append_toArray, List.nil_append, List.cons_append]
  gi_wp2_with (first
    | (gi_at_call 5; refine (begun_inL _ _).mono ?_; rintro e w1 ⟨rfl, hB1⟩)
    | (gi_at_call 16; refine (above_noL _ a c _ (at_belowL ha ((hB1.trans (hB2.mono hB1.size)).trans (hB3.mono (hB1.trans (hB2.mono hB1.size)).size))) (at_belowL hc ((hB1.trans (hB2.mono hB1.size)).trans (hB3.mono (hB1.trans (hB2.mono hB1.size)).size))) hyes hyes2 hno).mono ?_; rintro e w4 ⟨rfl, hB4⟩)
    | (gi_at_call 6; refine (may_yesL _ c _ (at_belowL hc (hB1.trans (hB2.mono hB1.size))) hyes2).mono ?_; rintro e w3 ⟨rfl, hB3⟩)
    | (gi_at_call 6; refine (may_yesL _ a _ (at_belowL ha hB1) hyes).mono ?_; rintro e w2 ⟨rfl, hB2⟩)
    | gi_in)
  go_ret
  have h13 := (hB1.trans (hB2.mono hB1.size)).trans (hB3.mono (hB1.trans (hB2.mono hB1.size)).size)
  exact ⟨rfl, h13.trans (hB4.mono h13.size)⟩
theorem left_no (a c : Lab) (k : Int) (p q r : Bool) (W : World) (ha : a.at (viewOf W)) (hc : c.at (viewOf W)) (hno : ¬ ((Rising a.l ∧ a.l.length ≤ 8) ∧ (Rising c.l ∧ c.l.length ≤ 8) ∧ (∀ x ∈ a.l, x ∈ c.l) ∧ cmpA a.l c.l ≠ 0)) :
    Calls Tryz.prog 4 #[a.slice, c.slice, .int .i64 k, .bool p, .bool q, .bool r] W fun e W' => e = .returned (.bool true) ∧ Below W.heap.size W W' := by
  by_cases h : Rising a.l ∧ a.l.length ≤ 8
  · by_cases h2 : Rising c.l ∧ c.l.length ≤ 8
    · exact callsIn_wide.1 (left_not3 a c k p q r W ha hc h h2 fun h3 => hno ⟨h, h2, h3⟩)
    · exact callsIn_wide.1 (left_not2 a c k p q r W ha hc h h2)
  · exact callsIn_wide.1 (left_not1 a _ k p q r W ha h)
end Go.Z
end
