/- One part of a proof: an evaluator of the model, shown right, and contracts that it yields. No condition beyond those that each theorem names. -/
import Derived.Test.YtepojdlgfmmjgaaGreatJB
import Derived.TacticsInMore
section
set_option linter.unusedSimpArgs false
set_option linter.unusedVariables false
set_option linter.unusedSectionVars false
set_option linter.deprecated false
namespace Go.Proofs.LB
open Go.X
set_option maxRecDepth 100000
end Go.Proofs.LB
namespace Go.Z
open Go.X Go.RowKit Go.Proofs Go.Proofs.LB Go.Sort
set_option linter.unusedSectionVars false
set_option linter.unusedVariables false
set_option maxRecDepth 100000
theorem alloc_size' (w : World) (O : Obj) : (w.alloc O).heap.size = w.heap.size + 1 := Array.size_push _
theorem below_alloc (w : World) (O : Obj) : Below w.heap.size w (w.alloc O) := ⟨rfl, rfl, rfl, Nat.le_of_lt (by rw [alloc_size']; exact Nat.lt_succ_self _), fun k hk => alloc_old w O hk⟩
end Go.Z
end

section
set_option linter.unusedSimpArgs false
set_option linter.unusedVariables false
set_option linter.unusedSectionVars false
set_option linter.deprecated false
namespace Go.Proofs.LB
open Go.X
set_option maxRecDepth 100000
theorem rises_spec (a : Lab) (V : View) (h : a.at V) : PSpec 60 [a.slice] V (fun v _ => ∃ b, v = .bool b ∧ (b = true ↔ Rising a.l)) := by
 obtain ⟨base, cap, l⟩ := a
 show PSpec _ [.slice base l.length cap] V (fun v _ => ∃ b, v = .bool b ∧ (b = true ↔ Rising l))
 refine does_of_zfun [(4, [(0, []), (1, []), (2, []), (3, []), (4, []), (5, []), (6, []), (7, []), (8, []), (9, [])])] mixed (args := [.v _]) (ms := []) Tryz.func60 (by kernel_rfl) rfl ?_; conv => whnf
 repeat' ((first | refine br_t rfl ?_ | refine br_f rfl ?_ | refine IdxN.lit rfl rfl ?_ | intro _); conv => whnf)
 refine loopz (σ := Nat) (fun i => [(0, .v (.slice base l.length cap)), (3, .v (.int .i64 ((i : Int) + 1)))]) (fun _ => [])
  (fun j i V' => V.le V' ∧ (i ≤ l.length) ∧ l.length - i = j ∧ ∀ (k : Nat) (x y : Int), k < i → l[k]? = some x → l[k + 1]? = some y → x < y) l.length 0 ?_ ?_ ?_ ?_
 ·repeat' (first | exact sees_nil | refine sees_cons rfl rfl rfl ?_)
 ·exact keeps_nil
 ·exact ⟨View.le_refl _, Nat.zero_le _, Nat.sub_zero _, fun k x y hk => absurd hk (Nat.not_lt_zero _)⟩
 rintro j i V' ⟨hV, hi, hj, hr⟩
 conv => whnf
 apply br <;> intro h3 <;> conv => whnf
 ·have h3 : i + 1 < l.length := by have := of_decide_eq_true h3; omega
  obtain ⟨p, off, x, hb, hx, hax, hx0, hx1⟩ := h.get (i := i) (by show i < l.length; omega)
  obtain ⟨p', off', y, hb', hy, hay, hy0, hy1⟩ := h.get (i := i + 1) (by show i + 1 < l.length; omega)
  simp only at hb hb' hx hy
  subst hb
  cases hb'
  have hge := rise_ge h.num i x hr hx
  have hw : IntKind.i64.wrap ((i : Int) + 1 - 1) = (i : Int) := by rw [wrapE]; omega
  rw [hw]
  refine IdxN.of (by omega) (by omega) ?_; conv => whnf
  refine LoadN.of (hax.mono le_auto) 0 rfl rfl ?_; conv => whnf
  refine IdxN.of (by omega) (by omega) ?_; conv => whnf
  refine LoadN.of (hay.mono le_auto) 0 rfl rfl ?_; conv => whnf
  repeat' ((first | refine br_t rfl ?_ | refine br_f rfl ?_ | refine IdxN.lit rfl rfl ?_ | intro _); conv => whnf)
  apply br <;> intro h4 <;> conv => whnf
  ·have h4 : y ≤ x := of_decide_eq_true h4
   refine ret_pure ⟨_, rfl, ?_⟩
   constructor
   ·intro e; cases e
   ·intro hr
    have := hr i x y hx hy
    omega
  ·have h4 : ¬ y ≤ x := of_decide_eq_false h4
   have hw : IntKind.i64.wrap ((i : Int) + 1 + 1) = ((i + 1 : Nat) : Int) + 1 := by rw [wrapE]; omega
   rw [hw]
   refine ⟨j - 1, i + 1, by omega, ?_, ?_, hV, by omega, by omega, fun k u v hk hu hv => ?_⟩
   ·repeat' (first | exact sees_nil | refine sees_cons rfl rfl rfl ?_)
   ·exact keeps_nil
   ·by_cases hki : k < i
    ·exact hr k u v hki hu hv
    ·obtain rfl : k = i := by omega
     rw [hx] at hu; rw [hy] at hv
     cases hu; cases hv
     omega
 ·have h3 : ¬ i + 1 < l.length := by have := of_decide_eq_false h3; omega
  repeat' ((first | refine br_t rfl ?_ | refine br_f rfl ?_ | refine IdxN.lit rfl rfl ?_ | intro _); conv => whnf)
  refine ret_pure ⟨_, rfl, ?_⟩
  have hrise : Rising l := fun k x y hx hy => hr k x y (by have := (List.getElem?_eq_some_iff.1 hy).1; omega) hx hy
  exact ⟨fun _ => hrise, fun _ => rfl⟩
theorem lmay_spec (a : Lab) (V : View) (h : a.at V) (h8 : a.l.length ≤ 1000) : PSpec 25 [a.slice] V (fun v _ => ∃ b, v = .bool b ∧ (b = true ↔ Rising a.l ∧ a.l.length ≤ 8)) := by
 refine does_of_zfun [] mixed (args := [.v _]) (ms := []) Tryz.func25 (by kernel_rfl) rfl ?_; conv => whnf
 repeat' ((first | refine br_t rfl ?_ | refine br_f rfl ?_ | refine IdxN.lit rfl rfl ?_ | intro _); conv => whnf)
 apply br <;> intro h1 <;> conv => whnf
 ·have h2 : a.l.length ≤ 8 := by have := of_decide_eq_true h1; omega
  repeat (refine br_t h1 ?_; conv => whnf)
  refine CallN.pure (rises_spec a _ (h.mono le_auto)) fun v V1 _ hV1 ⟨b, hv, hb⟩ => ?_
  subst hv
  try refine Prot.refl ?_
  conv => whnf
  repeat (refine br_t h1 ?_; conv => whnf)
  repeat' ((first | refine br_t rfl ?_ | refine br_f rfl ?_ | refine IdxN.lit rfl rfl ?_ | intro _); conv => whnf)
  refine ret_pure ⟨_, rfl, ?_⟩
  rw [hb]
  exact ⟨fun h => ⟨h, h2⟩, fun h => h.1⟩
 ·have h2 : ¬ a.l.length ≤ 8 := by have := of_decide_eq_false h1; omega
  repeat (refine br_f h1 ?_; conv => whnf)
  repeat' ((first | refine br_t rfl ?_ | refine br_f rfl ?_ | refine IdxN.lit rfl rfl ?_ | intro _); conv => whnf)
  refine ret_pure ⟨_, rfl, ?_⟩
  exact ⟨fun h => (by cases h), fun h => absurd h.2 h2⟩
end Go.Proofs.LB
namespace Go.Z
open Go.X Go.RowKit Go.Proofs Go.Proofs.LB Go.Sort
set_option linter.unusedSectionVars false
set_option linter.unusedVariables false
set_option maxRecDepth 100000
theorem Owned.later {w w1 w' : World} {r : Lab} (h : Owned w1 w' r) (hB : Below w.heap.size w w1) : Owned w w' r := by
 refine ⟨h.num, fun hn => ?_, hB.trans (h.below.mono hB.size)⟩
 rcases h.own hn with ⟨h0, h1 | ⟨g, cap, cur, e, h2, h3⟩⟩
 ·exact ⟨h0, .inl h1⟩
 ·exact ⟨h0, .inr ⟨g, cap, cur, e, Nat.le_trans hB.size h2, h3⟩⟩
set_option maxHeartbeats 1000000 in
theorem ljoin_calls {a c : Lab} {w : World} (h : a.at (viewOf w)) (hc : c.at (viewOf w)) (h8 : a.l.length + c.l.length ≤ 1000) : Calls Tryz.prog 24 #[a.slice, c.slice] w fun e w' => ∃ r : Lab, e = .returned r.slice ∧ r.l = normL (a.l ++ c.l) ∧ Owned w w' r := by
 have hB0 := below_alloc w (.cells #[a.slice, c.slice] 23)
 have hcell : (viewOf (w.alloc (.cells #[a.slice, c.slice] 23))).has w.heap.size 0 [a.slice, c.slice] := fun i v hi => by
  show (w.alloc _).cell? _ = _
  rw [World.cell?, heap_alloc_new]
  match i, hi with
  | 0, hi => exact hi
  | 1, hi => exact hi
 have hs := (calls_of_row (concat_spec a c w.heap.size _ hcell (lab_below h hB0) (lab_below hc hB0) h8)).mono (R' := fun e w' => ∃ b k n, e = .returned (.slice b n k) ∧ Calls Tryz.prog 58 #[.slice b n k] w' fun e w2 => ∃ b2 k2 m, e = .returned (.slice b2 m k2) ∧ Aside (m = (normL (a.l ++ c.l)).length ∧ Owned w w2 ⟨b2, k2, normL (a.l ++ c.l)⟩)) fun e w' ⟨r, he, hr, ho⟩ => by
  obtain ⟨b, k, l⟩ := r
  have hr : l = a.l ++ c.l := hr
  subst hr
  refine ⟨b, k, _, he, (sorted_calls ho.at (by show (a.l ++ c.l).length ≤ 1000; rw [List.length_append]; exact h8)).mono ?_⟩
  rintro e w2 ⟨b2, k2, he, ho2⟩
  exact ⟨b2, k2, _, he, rfl, ho2.later (hB0.trans (ho.below.mono hB0.size))⟩
 generalize normL (a.l ++ c.l) = N at *
 obtain ⟨ab, ac, al⟩ := a
 obtain ⟨cb, cc, cl⟩ := c
 simp only [Lab.slice] at hs ⊢
 clear hcell hB0
 go_enter Tryz.func24, Tryz.ntmps24
 go_wp2_with (first
  | (go_at_call 59; refine hs.mono ?_; rintro e w1 ⟨b, k, n, rfl, hs2⟩)
  | (go_at_call 58; refine hs2.mono ?_; rintro e w2 ⟨b2, k2, m, rfl, X⟩))
 go_ret
 obtain ⟨rfl, ho⟩ := X.out
 exact ⟨⟨b2, k2, N⟩, rfl, rfl, ho⟩
theorem lmay_calls {a : Lab} {w : World} (h : a.at (viewOf w)) (h8 : a.l.length ≤ 1000) : Calls Tryz.prog 25 #[a.slice] w fun e w' => ∃ b, e = .returned (.bool b) ∧ (b = true ↔ Rising a.l ∧ a.l.length ≤ 8) ∧ Below w.heap.size w w' :=
 (calls_of_pspec (lmay_spec a _ h h8)).mono fun e W ⟨v, he, ⟨_, b, hv, hb⟩, hB⟩ => ⟨b, by rw [he, hv], hb, hB⟩
end Go.Z
end

section
set_option linter.unusedSimpArgs false
set_option linter.unusedVariables false
set_option linter.unusedSectionVars false
set_option linter.deprecated false
namespace Go.Z
open Go.X Go.RowKit Go.Proofs Go.Proofs.LB Go.Sort
set_option linter.unusedSectionVars false
set_option linter.unusedVariables false
set_option maxRecDepth 100000
theorem eitherL (q : Bool) (x y : Value) (w : World) : Calls Tryz.prog 26 #[.bool q, x, y] w fun e w' => e = .returned (cond q x y) ∧ w' = w := by
 cases q
 ·go_enter Tryz.func26, Tryz.ntmps26
  go_wp2
  go_ret
  exact ⟨rfl, rfl⟩
 ·go_enter Tryz.func26, Tryz.ntmps26
  go_wp2
  go_ret
  exact ⟨rfl, rfl⟩
theorem eitherE (q : Bool) (x y : Value) (w : World) : Calls Tryz.prog 27 #[.bool q, x, y] w fun e w' => e = .returned (cond q x y) ∧ w' = w := by
 cases q
 ·go_enter Tryz.func27, Tryz.ntmps27
  go_wp2
  go_ret
  exact ⟨rfl, rfl⟩
 ·go_enter Tryz.func27, Tryz.ntmps27
  go_wp2
  go_ret
  exact ⟨rfl, rfl⟩
set_option maxHeartbeats 1000000 in
theorem gatelabel_calls {a c : Lab} {w : World} (h : a.at (viewOf w)) (hc : c.at (viewOf w)) (h8 : a.l.length + c.l.length ≤ 1000) (x0 x2 x3 x4 x5 x6 x7 x8 x9 x10 x11 x12 x13 x14 : Value) : Calls Tryz.prog 9 #[a.slice, .agg #[x0, c.slice, x2, x3, x4, x5, x6, x7, x8, x9, x10, x11, x12, x13, x14]] w fun e w' => ∃ r : Lab, e = .returned (normV r) ∧ r.l = normL (a.l ++ c.l) ∧ Owned w w' r := by
 have hB0 := below_alloc w (.cells #[x0, c.slice, x2, x3, x4, x5, x6, x7, x8, x9, x10, x11, x12, x13, x14] 36)
 have hs := (ljoin_calls (lab_below h hB0) (lab_below hc hB0) h8).mono (R' := fun e w' => ∃ b k n, e = .returned (.slice b n k) ∧ Calls Tryz.prog 25 #[.slice b n k] w' fun e w2 => ∃ q, e = .returned (.bool q) ∧ Aside (n = (normL (a.l ++ c.l)).length ∧ (q = true ↔ ¬ 8 < n) ∧ Owned w w2 ⟨b, k, normL (a.l ++ c.l)⟩)) fun e w' ⟨r, he, hr, ho⟩ => by
  obtain ⟨b, k, l⟩ := r
  have hr : l = normL (a.l ++ c.l) := hr
  subst hr
  refine ⟨b, k, _, he, (lmay_calls ho.at (by have := normL_len (a.l ++ c.l); rw [List.length_append] at this; show (normL (a.l ++ c.l)).length ≤ 1000; omega)).mono ?_⟩
  rintro e w2 ⟨q, he, hq, hB⟩
  refine ⟨q, he, rfl, ?_, ?_⟩
  ·rw [hq]
   show _ ↔ ¬ 8 < (normL (a.l ++ c.l)).length
   exact ⟨fun hh => by have : (normL (a.l ++ c.l)).length ≤ 8 := hh.2; omega, fun hh => ⟨(normL_ok _).rise, by show (normL (a.l ++ c.l)).length ≤ 8; omega⟩⟩
  ·have ho2 := ho.later hB0
   refine ⟨ho2.num, fun hn => ?_, ho2.below.trans (hB.mono ho2.below.size)⟩
   obtain ⟨h0, h1⟩ := ho2.own hn
   refine ⟨h0, ?_⟩
   rcases h1 with h1 | ⟨g, cap, cur, e, h2, h3, h4⟩
   ·exact .inl h1
   ·exact .inr ⟨g, cap, cur, e, h2, (hB.block g (Array.getElem?_eq_some_iff.1 h3).1).trans h3, h4⟩
 generalize normL (a.l ++ c.l) = N at *
 obtain ⟨ab, ac, al⟩ := a
 obtain ⟨cb, cc, cl⟩ := c
 simp only [Lab.slice] at hs ⊢
 clear hB0
 go_enter Tryz.func9, Tryz.ntmps9
 go_wp2_with (first
  | (go_at_call 24; refine hs.mono ?_; rintro e w1 ⟨b, k, n, rfl, hs2⟩)
  | (go_at_call 25; refine hs2.mono ?_; rintro e w2 ⟨q, rfl, X⟩)
  | (go_at_call 26; refine (eitherL q _ _ _).mono ?_; rintro e w3 ⟨rfl, rfl⟩)
  | (go_at_call 27; refine (eitherE q _ _ _).mono ?_; rintro e w4 ⟨rfl, rfl⟩))
 go_ret2
 cases q
 ·obtain ⟨rfl, hq, ho⟩ := X.out
  have h1 : 8 < N.length := Classical.byContradiction fun hh => by have := hq.2 hh; cases this
  exact ⟨⟨b, k, N⟩, by rw [normV, if_pos h1]; rfl, rfl, ho⟩
 ·obtain ⟨rfl, hq, ho⟩ := X.out
  have h1 : ¬ 8 < N.length := hq.1 (by trivial)
  exact ⟨⟨b, k, N⟩, by rw [normV, if_neg h1]; rfl, rfl, ho⟩
end Go.Z
end
