/- One part of a proof: an evaluator of the model, shown right, and contracts that it yields. No condition beyond those that each theorem names. -/
import Derived.Test.YtepojdlgfmmjgaaGreatJC
import Derived.Test.YtepojdlgfmmjgaaGreatZTB
import Derived.Test.YtepojdlgfmmjgaaGreatLP
section
set_option linter.unusedSimpArgs false
set_option linter.unusedVariables false
set_option linter.unusedSectionVars false
set_option linter.deprecated false
namespace Go.Z
open Go.X Go.RowKit Go.Proofs Go.Proofs.LB Go.Sort
set_option linter.unusedSectionVars false
set_option linter.unusedVariables false
set_option maxRecDepth 100000
theorem begun_calls (w : World) : Calls Tryz.prog 7 #[] w fun e w' => e = .returned (.bool true) ∧ Aside (Below w.heap.size w w') :=
 (calls_of_run (envS_ok (σ := sig0)) (v := .bool true) rfl begun_run w).mono fun e W ⟨he, hk⟩ => ⟨he, ⟨hk.os, hk.tape, hk.output, hk.size, hk.block⟩⟩
theorem may_calls {a : Lab} {w : World} (h : a.at (viewOf w)) {p : Bool} (hp : p = true ↔ Rising a.l ∧ a.l.length ≤ 8) : Calls Tryz.prog 8 #[a.slice] w fun e w' => e = .returned (.bool p) ∧ Aside (Below w.heap.size w w') :=
 (calls_of_pspec (may_spec a _ h)).mono fun e W ⟨v, he, ⟨_, b, hv, hb⟩, hB⟩ => ⟨by rw [he, hv, bool_eq hb hp], hB⟩
theorem lexS_self : ∀ l : List Int, lexS l l = 0
 | [] => rfl
 | x :: l => by rw [lexS, if_neg (by omega), if_neg (by omega)]; exact lexS_self l
theorem cmpA_self (l : List Int) : cmpA l l = 0 := by rw [cmpA, if_neg (by omega), if_neg (by omega)]; exact lexS_self l
theorem same_calls {a c : Lab} {w : World} (h : a.at (viewOf w)) (hc : c.at (viewOf w)) (h8 : a.l.length ≤ 1000) (he : a.l = c.l) : Calls Tryz.prog 11 #[a.slice, c.slice] w fun e w' => e = .returned (.bool true) ∧ Aside (Below w.heap.size w w') :=
 (calls_of_pspec (same_spec a c _ h hc h8)).mono fun e W ⟨v, hv, ⟨_, hb⟩, hB⟩ => ⟨by rw [hv, hb, he, cmpA_self]; rfl, hB⟩
theorem below_both {w w1 w2 : World} (h : Below w.heap.size w w1) (k : Below w1.heap.size w1 w2) : Below w.heap.size w w2 := h.trans (k.mono h.size)
set_option maxHeartbeats 2000000 in
theorem labels_not {a c : Lab} {w : World} (h : a.at (viewOf w)) (hc : c.at (viewOf w)) (hno : ¬ ((Rising a.l ∧ a.l.length ≤ 8) ∧ (Rising c.l ∧ c.l.length ≤ 8))) : Calls Tryz.prog 3 #[a.slice, c.slice] w fun e w' => e = .returned (.bool true) ∧ Below w.heap.size w w' := by
 have hb := begun_calls w
 by_cases hA : Rising a.l ∧ a.l.length ≤ 8
 ·have hC : ¬ (Rising c.l ∧ c.l.length ≤ 8) := fun hh => hno ⟨hA, hh⟩
  have hb := (begun_calls w).mono (R' := fun e w1 => e = .returned (.bool true) ∧ Calls Tryz.prog 8 #[a.slice] w1 fun e w2 => e = .returned (.bool true) ∧ Calls Tryz.prog 8 #[c.slice] w2 fun e w3 => e = .returned (.bool false) ∧ Aside (Below w.heap.size w w3)) fun e w1 ⟨he, hB1⟩ => ⟨he, (may_calls (p := true) (lab_below h hB1) (by simp [hA])).mono fun e w2 ⟨he, hB2⟩ => ⟨he, (may_calls (p := false) (lab_below hc (below_both hB1 hB2)) (by simp only [Bool.false_eq_true, false_iff]; exact hC)).mono fun e w3 ⟨he, hB3⟩ => ⟨he, below_both (below_both hB1 hB2) hB3⟩⟩⟩
  simp only [Lab.slice] at hb ⊢
  go_enter Tryz.func3, Tryz.ntmps3
  go_wp2_with (first
   | (go_at_call 7; refine hb.mono ?_; rintro e w1 ⟨rfl, h1⟩)
   | (go_at_call 8; refine h1.mono ?_; rintro e w2 ⟨rfl, h2⟩; clear h1)
   | (go_at_call 8; refine h2.mono ?_; rintro e w3 ⟨rfl, h3⟩))
  go_ret
  exact ⟨rfl, h3.out⟩
 ·have hb := (begun_calls w).mono (R' := fun e w1 => e = .returned (.bool true) ∧ Calls Tryz.prog 8 #[a.slice] w1 fun e w2 => e = .returned (.bool false) ∧ Aside (Below w.heap.size w w2)) fun e w1 ⟨he, hB1⟩ => ⟨he, (may_calls (p := false) (lab_below h hB1) (by simp only [Bool.false_eq_true, false_iff]; exact hA)).mono fun e w2 ⟨he, hB2⟩ => ⟨he, below_both hB1 hB2⟩⟩
  simp only [Lab.slice] at hb ⊢
  go_enter Tryz.func3, Tryz.ntmps3
  go_wp2_with (first
   | (go_at_call 7; refine hb.mono ?_; rintro e w1 ⟨rfl, h1⟩)
   | (go_at_call 8; refine h1.mono ?_; rintro e w2 ⟨rfl, h2⟩; clear h1))
  go_ret
  exact ⟨rfl, h2.out⟩
abbrev viewA (v : Value) : Value := .agg #[.string ⟨#[]⟩, v, .int .i64 0, .string ⟨#[]⟩, .string ⟨#[]⟩, .slice none 0 0, .slice none 0 0, .slice none 0 0, .slice none 0 0, .string ⟨#[]⟩, .slice none 0 0, .slice none 0 0, .slice none 0 0, .bool false, .slice none 0 0]
set_option maxHeartbeats 2000000 in
theorem labels_yes {a c : Lab} {w : World} (h : a.at (viewOf w)) (hc : c.at (viewOf w)) (hA : Rising a.l ∧ a.l.length ≤ 8) (hC : Rising c.l ∧ c.l.length ≤ 8) : Calls Tryz.prog 3 #[a.slice, c.slice] w fun e w' => e = .returned (.bool true) ∧ Below w.heap.size w w' := by
 have h16 : a.l.length + c.l.length ≤ 1000 := by have := hA.2; have := hC.2; omega
 have hN8 : (normL (a.l ++ c.l)).length ≤ 1000 := by have := normL_len (a.l ++ c.l); rw [List.length_append] at this; omega
 have hb := (begun_calls w).mono (R' := fun e w1 => e = .returned (.bool true) ∧ Calls Tryz.prog 8 #[a.slice] w1 fun e w2 => e = .returned (.bool true) ∧ Calls Tryz.prog 8 #[c.slice] w2 fun e w3 => e = .returned (.bool true) ∧
   Calls Tryz.prog 9 #[a.slice, viewA c.slice] w3 fun e w4 => ∃ b k, e = .returned (normV ⟨b, k, normL (a.l ++ c.l)⟩) ∧ Calls Tryz.prog 10 #[a.slice, c.slice] w4 fun e w5 => ∃ b2 k2, e = .returned (.slice b2 (normL (a.l ++ c.l)).length k2) ∧ Aside (Below w.heap.size w w5) ∧
   Calls Tryz.prog 11 #[.slice b (normL (a.l ++ c.l)).length k, .slice b2 (normL (a.l ++ c.l)).length k2] w5 fun e w6 => e = .returned (.bool true) ∧ Aside (Below w.heap.size w w6)) fun e w1 ⟨he, hB1⟩ => ⟨he, (may_calls (p := true) (lab_below h hB1) (by simp [hA])).mono fun e w2 ⟨he, hB2⟩ => ⟨he, (may_calls (p := true) (lab_below hc (below_both hB1 hB2)) (by simp [hC])).mono fun e w3 ⟨he, hB3⟩ => ⟨he, by
    have hB3 := below_both (below_both hB1 hB2) hB3
    refine (gatelabel_calls (lab_below h hB3) (lab_below hc hB3) h16 _ _ _ _ _ _ _ _ _ _ _ _ _ _).mono ?_
    rintro e w4 ⟨⟨b, k, l⟩, he, hl, ho⟩
    have hl : l = normL (a.l ++ c.l) := hl
    subst hl
    have hB4 := below_both hB3 ho.below
    refine ⟨b, k, he, (rjoin_calls (lab_below h hB4) (lab_below hc hB4) h16).mono ?_⟩
    rintro e w5 ⟨⟨b2, k2, l2⟩, he, hl2, ho2⟩
    have hl2 : l2 = normL (a.l ++ c.l) := hl2
    subst hl2
    have hB5 := below_both hB4 ho2.below
    refine ⟨b2, k2, he, hB5, (same_calls (a := ⟨b, k, normL (a.l ++ c.l)⟩) (c := ⟨b2, k2, normL (a.l ++ c.l)⟩) (lab_below ho.at ho2.below) ho2.at hN8 rfl).mono ?_⟩
    rintro e w6 ⟨he, hB6⟩
    exact ⟨he, below_both hB5 hB6⟩⟩⟩⟩
 clear h16
 generalize normL (a.l ++ c.l) = N at *
 obtain ⟨ab, ac, al⟩ := a
 obtain ⟨cb, cc, cl⟩ := c
 simp only [Lab.slice, normV] at hb ⊢
 by_cases h1 : 8 < N.length
 ·simp only [if_pos h1] at hb
  have h2 : decide ((8 : Int) < (N.length : Int)) = true := decide_eq_true (by omega)
  go_enter Tryz.func3, Tryz.ntmps3
  go_wp2_with (first
   | (go_at_call 7; refine hb.mono ?_; rintro e w1 ⟨rfl, h1⟩)
   | (go_at_call 8; refine h1.mono ?_; rintro e w2 ⟨rfl, h2⟩; clear h1)
   | (go_at_call 8; refine h2.mono ?_; rintro e w3 ⟨rfl, h3⟩)
   | (go_at_call 9; refine h3.mono ?_; rintro e w4 ⟨b, k, rfl, h4⟩)
   | (go_at_call 10; refine h4.mono ?_; rintro e w5 ⟨b2, k2, rfl, X, h5⟩))
  go_ret
  exact ⟨rfl, X.out⟩
 ·simp only [if_neg h1] at hb
  have h2 : decide ((8 : Int) < (N.length : Int)) = false := decide_eq_false (by omega)
  go_enter Tryz.func3, Tryz.ntmps3
  go_wp2_with (first
   | (go_at_call 7; refine hb.mono ?_; rintro e w1 ⟨rfl, h1⟩)
   | (go_at_call 8; refine h1.mono ?_; rintro e w2 ⟨rfl, h2⟩; clear h1)
   | (go_at_call 8; refine h2.mono ?_; rintro e w3 ⟨rfl, h3⟩)
   | (go_at_call 9; refine h3.mono ?_; rintro e w4 ⟨b, k, rfl, h4⟩)
   | (go_at_call 10; refine h4.mono ?_; rintro e w5 ⟨b2, k2, rfl, X, h5⟩)
   | (go_at_call 11; refine h5.mono ?_; rintro e w6 ⟨rfl, Y⟩))
  go_ret
  exact ⟨rfl, Y.out⟩
theorem labels_calls {a c : Lab} {w : World} (h : a.at (viewOf w)) (hc : c.at (viewOf w)) : Calls Tryz.prog 3 #[a.slice, c.slice] w fun e w' => e = .returned (.bool true) ∧ Below w.heap.size w w' := by
 by_cases hh : (Rising a.l ∧ a.l.length ≤ 8) ∧ (Rising c.l ∧ c.l.length ≤ 8)
 ·exact labels_yes h hc hh.1 hh.2
 ·exact labels_not h hc hh
theorem labels_said {a c : Lab} {W : World} {m n : Nat} (ha : a.at (viewOf W)) (_ : ArgOf W m a.slice a.l) (hc : c.at (viewOf W)) (_ : ArgOf W n c.slice c.l) : Calls Tryz.prog 3 #[a.slice, c.slice] W fun e w' => e = .returned (.bool true) ∧ Below W.heap.size W w' := labels_calls ha hc
end Go.Z
end
