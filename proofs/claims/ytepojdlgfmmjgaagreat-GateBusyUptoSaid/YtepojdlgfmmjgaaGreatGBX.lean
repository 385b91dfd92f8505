/- One part of a proof: an evaluator of the model, shown right, and contracts that it yields. No condition beyond those that each theorem names. -/
import Derived.Test.YtepojdlgfmmjgaaGreatGO
set_option linter.unusedSimpArgs false
set_option linter.unusedVariables false
set_option linter.unusedSectionVars false
set_option linter.deprecated false
section
namespace Go.Z
open Go.X Go.RowKit Go.Proofs Go.Proofs.LB
set_option maxRecDepth 100000
noncomputable section
def symL (g : Nat) : Nat → Nat → List Value
 | 0, _ => []
 | n + 1, p => .complex .f64 (g * 16 + p) 0 :: symL g n (p + 1)
def labB (g : Nat) : Bool := Nat.ble g 1
def ownB (a b : Nat) : Option Nat := match a, b with
 | 1, 1 => some 0
 | _, _ => none
def normB (g : Nat) : Option Nat := match g with
 | 1 => some 1
 | _ => none
def joinB (m : Nat) (a b : Nat) : Option (List Value) := match a, b with
 | 0, 1 => some (symL (16 + m) m 0)
 | _, _ => none
def primB (m : Nat) (f : FuncId) : Option Prim := match f with
 | 7 => some fBegun
 | 8 => some (mayG labB)
 | 185 => some (ownG ownB)
 | 187 => some (normG normB)
 | 24 => some (joinG (joinB m))
 | 10 => some (joinG (joinB m))
 | 34 => some (orP cloneG (runP envS 20 34))
 | 108 => some (orP cloneG (runP envS 20 108))
 | f => primS f
@[reducible] def envB (m : Nat) : Env := { P := Tryz.prog, ext := extT, prim := primB m }
def busyQ (m : Nat) (r v : Bool) : Bool := says (runV (envB m) mkT 80 6 [gval 0 0, gval 2 1, .bool r, .bool v] heapG 4) (.bool true)
end
section
variable {σ : Nat → Nat → Value} [SigOk σ]
structure BusyHyp (σ : Nat → Nat → Value) (m : Nat) : Prop where
 may : ∀ g, g ≤ 1 → Rising (gtags σ g) ∧ (gtags σ g).length ≤ 8
 join : RepTs σ (symL (16 + m) m 0) (normL (gtags σ 0 ++ gtags σ 1))
theorem norm_self {l : List Int} (h : Rising l) : normL l = l := (normL_ok l).unique (NormOf.self h)
theorem primB_ok {m : Nat} (H : BusyHyp σ m) (g : FuncId) (f : Prim) (hg : primB m g = some f) : PrimOk σ g f := by
 unfold primB at hg
 have hs := H.may 1 (Nat.le_refl _)
 have hown : ∀ a b q, ownB a b = some q → ownE (gtags σ a) (normL (gtags σ b)) = q := fun a b q h => by
  unfold ownB at h
  split at h
  ·cases h
   rw [norm_self hs.1, ownE, if_neg (by omega), if_pos (fun x hx => hx)]; rfl
  ·cases h
 have hjoin : ∀ a b l, joinB m a b = some l → RepTs σ l (normL (gtags σ a ++ gtags σ b)) := fun a b l h => by
  unfold joinB at h
  split at h
  ·cases h; exact H.join
  ·cases h
 split at hg
 ·cases hg; exact begun_ok
 ·cases hg
  exact mayG_ok fun g h => H.may g (Nat.le_of_ble_eq_true h)
 ·cases hg; exact ownmay_ok hown
 ·cases hg
  exact normG_ok fun g g2 h => by
   unfold normB at h
   split at h
   ·cases h; exact ⟨norm_self hs.1, hs.2⟩
   ·cases h
 ·cases hg; exact joinG_of hjoin (fun h hc h8 => ljoin_calls h hc h8) (fun _ _ ea ec => ljoin0_calls ea ec)
 ·cases hg; exact joinG_of hjoin (fun h hc h8 => rjoin_calls h hc (by omega)) (fun h hc ea ec => rjoin0_calls h hc ea ec)
 ·cases hg; exact orP_ok (cloneG_of cloneL_calls) (runP_ok envS_ok rfl)
 ·cases hg; exact orP_ok (cloneG_of clone_calls) (runP_ok envS_ok rfl)
 ·exact primS_ok _ f hg
theorem envB_ok {m : Nat} (H : BusyHyp σ m) : EnvOk (envB m) σ := ⟨extT_ok, primB_ok H, LB.mixed⟩
end
theorem symL_reps {σ : Nat → Nat → Value} {g : Nat} : ∀ (l : List Int) (p : Nat), (∀ (j : Nat) (x : Int), l[j]? = some x → σ (g * 16 + (p + j)) 0 = .int .u16 x ∧ 0 ≤ x ∧ x < 65536) → RepTs σ (symL g l.length p) l
 | [], _, _ => .nil
 | x :: l, p, h => by
  refine .cons ?_ (symL_reps l (p + 1) fun j y hj => ?_)
  ·obtain ⟨h1, h2⟩ := h 0 x rfl
   exact .sym h1 h2
  ·have := h (j + 1) y (by simpa using hj)
   rwa [show p + (j + 1) = p + 1 + j by omega] at this
theorem rep_up {up : List Int} {G : Nat → List Int} (hn : ∀ x ∈ up, 0 ≤ x ∧ x < 65536) (h8 : up.length ≤ 8) : RepTs (sigG up G) (symL (16 + up.length) up.length 0) up := by
 refine symL_reps up 0 fun j x hj => ?_
 have hlt := (List.getElem?_eq_some_iff.1 hj).1
 refine ⟨?_, hn x (List.mem_of_getElem? hj)⟩
 show sval (Tgh up G _) _ 0 = _
 have : Tgh up G ((16 + up.length) * 16 + (0 + j)) = tagN up j := by
  unfold Tgh
  rw [if_pos (by omega), if_pos (by omega)]
  congr 1
  omega
 rw [this]
 show Value.int .u16 (tagN up j : Nat) = _
 rw [tagN_eq hn hj]
theorem busy_yes (runs : ∀ m, m < 9 → ∀ r v : Bool, busyQ m r v = true) {a c : Lab} {W : World} {m n : Nat} (ha : a.at (viewOf W)) (qa : ArgOf W m a.slice a.l) (hc : c.at (viewOf W)) (qc : ArgOf W n c.slice c.l) (hA : Rising a.l ∧ a.l.length ≤ 8) (hC : Rising c.l ∧ c.l.length ≤ 8) (hU : (normL (a.l ++ c.l)).length ≤ 8) (r v : Bool) :
  Calls Tryz.prog 6 #[a.slice, c.slice, .bool r, .bool v] W fun e w' => e = .returned (.bool true) ∧ Below W.heap.size W w' := by
 obtain ⟨p0, q0, g0⟩ := garg_of qa
 obtain ⟨p1, q1, g1⟩ := garg_of qc
 have hN := normL_ok (a.l ++ c.l)
 have hNn := hN.num (fun x hx => (List.mem_append.1 hx).elim (ha.num x) (hc.num x))
 have hG := ghosts_ok (a := a.l) (c := c.l) (n := []) ⟨ha.num, by omega⟩ ⟨hc.num, by omega⟩ ⟨fun x hx => (by cases hx), Nat.zero_le _⟩
 haveI := sigG_ok (up := normL (a.l ++ c.l)) (G := ghosts a.l c.l []) hN.rise hNn hU hG
 have e0 : gtags (sigG (normL (a.l ++ c.l)) (ghosts a.l c.l [])) 0 = a.l := gtags_eq hG 0
 have e1 : gtags (sigG (normL (a.l ++ c.l)) (ghosts a.l c.l [])) 1 = c.l := gtags_eq hG 1
 obtain ⟨hf, r0, r1, hw⟩ := startG g0 g1 e0 e1 ha.num hc.num
 have H : BusyHyp (sigG (normL (a.l ++ c.l)) (ghosts a.l c.l [])) (normL (a.l ++ c.l)).length := ⟨fun g hg => by
  match g, hg with
  | 0, _ => rw [e0]; exact hA
  | 1, _ => rw [e1]; exact hC, by rw [e0, e1]; exact rep_up hNn hU⟩
 have hq := runs (normL (a.l ++ c.l)).length (by omega) r v
 exact (calls_of_run_at (envB_ok H) (d := 80) (v := .bool true) rfl (says_le (runV_le (E := envB _) stT 80 6 _ _ 4) hq) hf (.cons r0 (.cons r1 (.cons (.plain rfl) (.cons (.plain rfl) .nil)))) hw).mono fun e W' ⟨he, hz⟩ => ⟨he, ⟨hz.os, hz.tape, hz.output, hz.size, hz.block⟩⟩
set_option maxHeartbeats 2000000 in
theorem busy_not {a c : Lab} {w : World} (h : a.at (viewOf w)) (hc : c.at (viewOf w)) (hL : a.l.length + c.l.length ≤ 1100000) (hno : ¬ ((Rising a.l ∧ a.l.length ≤ 8) ∧ (Rising c.l ∧ c.l.length ≤ 8) ∧ (normL (a.l ++ c.l)).length ≤ 8)) (r v : Bool) : Calls Tryz.prog 6 #[a.slice, c.slice, .bool r, .bool v] w fun e w' => e = .returned (.bool true) ∧ Below w.heap.size w w' := by
 have hlen := normL_len (a.l ++ c.l)
 rw [List.length_append] at hlen
 have hj : ∀ {w1 : World}, Below w.heap.size w w1 → Calls Tryz.prog 10 #[a.slice, c.slice] w1 fun e w2 => ∃ b k, e = .returned (.slice b (normL (a.l ++ c.l)).length k) ∧ Below w.heap.size w w2 := fun {w1} hB => (rjoin_calls (lab_below h hB) (lab_below hc hB) hL).mono fun e w2 ⟨⟨b, k, l⟩, he, hl, ho⟩ => by
  have hl : l = normL (a.l ++ c.l) := hl
  subst hl
  exact ⟨b, k, he, below_both hB ho.below⟩
 by_cases hA : Rising a.l ∧ a.l.length ≤ 8
 ·by_cases hC : Rising c.l ∧ c.l.length ≤ 8
  ·have hU : 8 < (normL (a.l ++ c.l)).length := Classical.byContradiction fun hh => hno ⟨hA, hC, by omega⟩
   have hb := (begun_calls w).mono (R' := fun e w1 => e = .returned (.bool true) ∧ Calls Tryz.prog 10 #[a.slice, c.slice] w1 fun e w2 => ∃ b k, e = .returned (.slice b (normL (a.l ++ c.l)).length k) ∧ Calls Tryz.prog 8 #[a.slice] w2 fun e w3 => e = .returned (.bool true) ∧ Calls Tryz.prog 8 #[c.slice] w3 fun e w4 => e = .returned (.bool true) ∧ Aside (Below w.heap.size w w4)) fun e w1 ⟨he, hB1⟩ => ⟨he, (hj hB1).mono fun e w2 ⟨b, k, he, hB2⟩ => ⟨b, k, he, (may_calls (p := true) (lab_below h hB2) (by simp [hA])).mono fun e w3 ⟨he, hB3⟩ => ⟨he, (may_calls (p := true) (lab_below hc (below_both hB2 hB3)) (by simp [hC])).mono fun e w4 ⟨he, hB4⟩ => ⟨he, below_both (below_both hB2 hB3) hB4⟩⟩⟩⟩
   have hd : decide ((8 : Int) < ((normL (a.l ++ c.l)).length : Int)) = true := decide_eq_true (by omega)
   generalize normL (a.l ++ c.l) = N at *
   clear hj
   simp only [Lab.slice] at hb ⊢
   go_enter Tryz.func6, Tryz.ntmps6
   go_wp2_with (first
    | (go_at_call 7; refine hb.mono ?_; rintro e w1 ⟨rfl, h1⟩)
    | (go_at_call 10; refine h1.mono ?_; rintro e w2 ⟨b, k, rfl, h2⟩; clear h1)
    | (go_at_call 8; refine h2.mono ?_; rintro e w3 ⟨rfl, h3⟩; clear h2)
    | (go_at_call 8; refine h3.mono ?_; rintro e w4 ⟨rfl, h4⟩))
   go_ret
   exact ⟨rfl, h4.out⟩
  ·have hb := (begun_calls w).mono (R' := fun e w1 => e = .returned (.bool true) ∧ Calls Tryz.prog 10 #[a.slice, c.slice] w1 fun e w2 => ∃ b k n, e = .returned (.slice b n k) ∧ Calls Tryz.prog 8 #[a.slice] w2 fun e w3 => e = .returned (.bool true) ∧ Calls Tryz.prog 8 #[c.slice] w3 fun e w4 => e = .returned (.bool false) ∧ Aside (Below w.heap.size w w4)) fun e w1 ⟨he, hB1⟩ => ⟨he, (hj hB1).mono fun e w2 ⟨b, k, he, hB2⟩ => ⟨b, k, _, he, (may_calls (p := true) (lab_below h hB2) (by simp [hA])).mono fun e w3 ⟨he, hB3⟩ => ⟨he, (may_calls (p := false) (lab_below hc (below_both hB2 hB3)) (by simp only [Bool.false_eq_true, false_iff]; exact hC)).mono fun e w4 ⟨he, hB4⟩ => ⟨he, below_both (below_both hB2 hB3) hB4⟩⟩⟩⟩
   clear hj
   simp only [Lab.slice] at hb ⊢
   go_enter Tryz.func6, Tryz.ntmps6
   go_wp2_with (first
    | (go_at_call 7; refine hb.mono ?_; rintro e w1 ⟨rfl, h1⟩)
    | (go_at_call 10; refine h1.mono ?_; rintro e w2 ⟨b, k, n, rfl, h2⟩; clear h1)
    | (go_at_call 8; refine h2.mono ?_; rintro e w3 ⟨rfl, h3⟩; clear h2)
    | (go_at_call 8; refine h3.mono ?_; rintro e w4 ⟨rfl, h4⟩))
   go_ret
   exact ⟨rfl, h4.out⟩
 ·have hb := (begun_calls w).mono (R' := fun e w1 => e = .returned (.bool true) ∧ Calls Tryz.prog 10 #[a.slice, c.slice] w1 fun e w2 => ∃ b k n, e = .returned (.slice b n k) ∧ Calls Tryz.prog 8 #[a.slice] w2 fun e w3 => e = .returned (.bool false) ∧ Aside (Below w.heap.size w w3)) fun e w1 ⟨he, hB1⟩ => ⟨he, (hj hB1).mono fun e w2 ⟨b, k, he, hB2⟩ => ⟨b, k, _, he, (may_calls (p := false) (lab_below h hB2) (by simp only [Bool.false_eq_true, false_iff]; exact hA)).mono fun e w3 ⟨he, hB3⟩ => ⟨he, below_both hB2 hB3⟩⟩⟩
  clear hj
  simp only [Lab.slice] at hb ⊢
  go_enter Tryz.func6, Tryz.ntmps6
  go_wp2_with (first
   | (go_at_call 7; refine hb.mono ?_; rintro e w1 ⟨rfl, h1⟩)
   | (go_at_call 10; refine h1.mono ?_; rintro e w2 ⟨b, k, n, rfl, h2⟩; clear h1)
   | (go_at_call 8; refine h2.mono ?_; rintro e w3 ⟨rfl, h3⟩))
  go_ret
  exact ⟨rfl, h3.out⟩
end Go.Z
end
