/- One part of a proof: an evaluator of the model, shown right, and contracts that it yields. No condition beyond those that each theorem names. -/
import Derived.Test.YtepojdlgfmmjgaaGreatJB
import Derived.TacticsInMore
set_option linter.unusedSimpArgs false
set_option linter.unusedVariables false
set_option linter.unusedSectionVars false
set_option linter.deprecated false
section
namespace Go.Proofs.LB
open Go.X
set_option maxRecDepth 100000
theorem may1_spec (a : Lab) (x : Int) (p : Nat) (V : View) (hx : 0 ≤ x ∧ x < 65536) (hp : V.has p 0 [a.slice]) (h : a.at V) (h8 : a.l.length ≤ 1000) : PSpec 260 [.int .u16 x, .pointer (some ⟨p, 0, none⟩)] V (fun v _ => ∃ b, v = .bool b ∧ (b = true ↔ x ∈ a.l)) := by
 refine does_of_zfun [] mixed (args := [.v _, .v _]) (ms := []) Tryz.func260 (by kernel_rfl) rfl ?_; conv => whnf
 repeat' ((first | refine br_t rfl ?_ | refine br_f rfl ?_ | refine IdxN.lit rfl rfl ?_ | intro _); conv => whnf)
 rename_i b1 V1 hV1 h1
 refine LoadN.of (hp.mono le_auto) 0 rfl rfl ?_; conv => whnf
 repeat' ((first | refine br_t rfl ?_ | refine br_f rfl ?_ | refine IdxN.lit rfl rfl ?_ | intro _); conv => whnf)
 refine CallN.pure (lflows_spec ⟨some ⟨b1, 0, none⟩, 1, [x]⟩ a _ ⟨fun _ => ⟨b1, 0, rfl, (h1.mono le_auto)⟩, fun y hy => by rw [List.mem_singleton] at hy; subst hy; exact hx⟩ (h.mono le_auto) (by show 1 ≤ 1000; omega) h8) fun v V2 _ hV2 ⟨b, hv, hb⟩ => ?_
 subst hv; conv => whnf
 repeat' ((first | refine br_t rfl ?_ | refine br_f rfl ?_ | refine IdxN.lit rfl rfl ?_ | intro _); conv => whnf)
 refine ret_pure ⟨_, rfl, ?_⟩
 rw [hb]
 simp
theorem all_spec (r a : Lab) (p : Nat) (V : View) (hp : V.has p 0 [a.slice]) (hr : r.at V) (h : a.at V) (h8 : a.l.length ≤ 1000) (h9 : r.l.length ≤ 1000) :
  PSpec 259 [r.slice, .func (.func 260) #[] #[.pointer (some ⟨p, 0, none⟩)]] V (fun v _ => ∃ b, v = .bool b ∧ (b = true ↔ ∀ x ∈ r.l, x ∈ a.l)) := by
 obtain ⟨base, cap, l⟩ := r
 show PSpec _ [.slice base l.length cap, _] V (fun v _ => ∃ b, v = .bool b ∧ (b = true ↔ ∀ x ∈ l, x ∈ a.l))
 replace h9 : l.length ≤ 1000 := h9
 refine does_of_zfun [] mixed (args := [.v _, .v _]) (ms := []) Tryz.func259 (by kernel_rfl) rfl ?_; conv => whnf
 repeat' ((first | refine br_t rfl ?_ | refine br_f rfl ?_ | refine IdxN.lit rfl rfl ?_ | intro _); conv => whnf)
 refine loopz (σ := Nat) (fun i => [(0, .v (.slice base l.length cap)), (1, .v (.func (.func 260) #[] #[.pointer (some ⟨p, 0, none⟩)])), (7, .v (.slice base l.length cap)), (8, .v (.int .i64 (l.length : Int))), (9, .v (.int .i64 (i : Int)))]) (fun _ => [])
  (fun j i V' => V.le V' ∧ (i ≤ l.length) ∧ l.length - i = j ∧ ∀ x ∈ l.take i, x ∈ a.l) l.length 0 ?_ ?_ ?_ ?_
 ·repeat' (first | exact sees_nil | refine sees_cons rfl rfl rfl ?_)
 ·exact keeps_nil
 ·exact ⟨View.le_refl _, Nat.zero_le _, Nat.sub_zero _, by simp⟩
 rintro j i V' ⟨hV, hi, hj, hin⟩
 conv => whnf
 apply br <;> intro h3 <;> conv => whnf
 ·have h3 : i < l.length := by have := of_decide_eq_true h3; omega
  obtain ⟨q, off, y, hb, hy, hay, hy0, hy1⟩ := hr.get (i := i) h3
  simp only at hb hy
  subst hb
  refine IdxN.of (by omega) (by omega) ?_; conv => whnf
  refine LoadN.of (hay.mono le_auto) 0 rfl rfl ?_; conv => whnf
  repeat' ((first | refine br_t rfl ?_ | refine br_f rfl ?_ | refine IdxN.lit rfl rfl ?_ | intro _); conv => whnf)
  refine CallN.pure (may1_spec a y p _ ⟨hy0, hy1⟩ (hp.mono le_auto) (h.mono le_auto) h8) fun v V1 _ hV1 ⟨b, hv, hb⟩ => ?_
  subst hv; conv => whnf
  apply br <;> intro h4 <;> conv => whnf
  ·have h4 : b = false := by simpa using h4
   refine ret_pure ⟨_, rfl, ?_⟩
   subst h4
   constructor
   ·intro e; cases e
   ·intro hall
    exact hb.2 (hall y (List.mem_of_getElem? hy))
  ·have h4 : b = true := by simpa using h4
   have hw := wrap_nat (i := i) (by omega)
   repeat' ((first | refine br_t rfl ?_ | refine br_f rfl ?_ | refine IdxN.lit rfl rfl ?_ | intro _); conv => whnf)
   rw [hw]
   refine ⟨j - 1, i + 1, by omega, ?_, ?_, View.le_trans hV hV1, by omega, by omega, ?_⟩
   ·repeat' (first | exact sees_nil | refine sees_cons rfl rfl rfl ?_)
   ·exact keeps_nil
   ·intro x hx
    rcases (mem_take_step hy).1 hx with h5 | h5
    ·exact hin x h5
    ·subst h5; exact hb.1 h4
 ·have h3 : ¬ i < l.length := by have := of_decide_eq_false h3; omega
  repeat' ((first | refine br_t rfl ?_ | refine br_f rfl ?_ | refine IdxN.lit rfl rfl ?_ | intro _); conv => whnf)
  refine ret_pure ⟨_, rfl, ?_⟩
  rw [take_all h3] at hin
  exact ⟨fun _ => hin, fun _ => rfl⟩
end Go.Proofs.LB
namespace Go.Z
open Go.X Go.RowKit Go.Proofs Go.Proofs.LB Go.Sort
set_option maxRecDepth 100000
theorem norm_calls {a : Lab} {w : World} (h : a.at (viewOf w)) (h8 : a.l.length ≤ 1000) : Calls Tryz.prog 187 #[a.slice] w fun e w' => ∃ b c, Owned w w' ⟨b, c, normL a.l⟩ ∧ e = .returned (normV ⟨b, c, normL a.l⟩) := by
 have hs := sorted_calls h h8
 have hn := normL_len a.l
 generalize a.slice = arg at hs
 generalize normL a.l = N at *
 by_cases h1 : 8 < N.length
 ·go_enter Tryz.func187, Tryz.ntmps187
  go_wp2_with (first
   | (go_at_call 58; refine hs.mono ?_; rintro e w1 ⟨b, c, rfl, ho⟩))
  go_ret2
  exact ⟨b, c, ho, by rw [normV, if_pos h1]; rfl⟩
 ·go_enter Tryz.func187, Tryz.ntmps187
  go_wp2_with (first
   | (go_at_call 58; refine hs.mono ?_; rintro e w1 ⟨b, c, rfl, ho⟩))
  go_ret2
  exact ⟨b, c, ho, by rw [normV, if_neg h1]; rfl⟩
theorem calls_all (r a : Lab) (p : Nat) {w : World} (hp : w.cell? ⟨p, 0, none⟩ = some a.slice) (hr : r.at (viewOf w)) (h : a.at (viewOf w)) (h8 : a.l.length ≤ 1000) (h9 : r.l.length ≤ 1000) :
  Calls Tryz.prog 259 #[r.slice, .func (.func 260) #[] #[.pointer (some ⟨p, 0, none⟩)]] w fun e w' => ∃ b, e = .returned (.bool b) ∧ (b = true ↔ ∀ x ∈ r.l, x ∈ a.l) ∧ Below w.heap.size w w' :=
 (calls_of_pspec (LB.all_spec r a p _ (fun i v hi => by
  cases i with
  | zero => simp only [List.getElem?_cons_zero, Option.some.injEq] at hi; subst hi; exact hp
  | succ i => simp at hi) hr h h8 h9)).mono fun e W ⟨v, he, ⟨_, b, hv, hb⟩, hB⟩ => ⟨b, by rw [he, hv], hb, hB⟩
theorem alloc_size' (w : World) (O : Obj) : (w.alloc O).heap.size = w.heap.size + 1 := Array.size_push _
theorem below_alloc (w : World) (O : Obj) : Below w.heap.size w (w.alloc O) := ⟨rfl, rfl, rfl, Nat.le_of_lt (by rw [alloc_size']; exact Nat.lt_succ_self _), fun k hk => alloc_old w O hk⟩
set_option maxHeartbeats 1000000 in
theorem ownmay_calls {a c : Lab} {w : World} (h : a.at (viewOf w)) (hc : c.at (viewOf w)) (h8 : a.l.length ≤ 1000) (h9 : c.l.length ≤ 1000) : Calls Tryz.prog 185 #[a.slice, c.slice] w fun e w' => e = .returned (.int .i64 (ownE a.l (normL c.l))) ∧ Below w.heap.size w w' := by
 have hlen := normL_len c.l
 have hB0 := below_alloc w (.cells #[a.slice] 23)
 have hs := norm_calls (lab_below hc hB0) h9
 have hcell : (w.alloc (.cells #[a.slice] 23)).cell? ⟨w.heap.size, 0, none⟩ = some a.slice := by rw [World.cell?, heap_alloc_new]; rfl
 have haa := lab_below h hB0
 have hsz : (w.alloc (.cells #[a.slice] 23)).heap.size = w.heap.size + 1 := alloc_size' _ _
 generalize c.slice = arg at hs
 generalize normL c.l = N at *
 obtain ⟨ab, ac, al⟩ := a
 simp only [Lab.slice] at *
 by_cases h1 : 8 < N.length
 ·have hs2 : Calls Tryz.prog 187 #[arg] (w.alloc (.cells #[.slice ab al.length ac] 23)) fun e w' => e = .returned (.tuple #[.slice none 0 0, .int .i64 7]) ∧ Aside (Below w.heap.size w w') := hs.mono fun e w' ⟨b, c, ho, he⟩ => ⟨by rw [he, normV, if_pos h1], hB0.trans (ho.below.mono hB0.size)⟩
  clear hs
  go_enter Tryz.func185, Tryz.ntmps185
  go_wp2_with (first
   | (go_at_call 187; refine hs2.mono ?_; rintro e w1 ⟨rfl, X⟩))
  go_ret
  exact ⟨by rw [ownE, if_pos h1]; rfl, X.out⟩
 ·have hs2 : Calls Tryz.prog 187 #[arg] (w.alloc (.cells #[.slice ab al.length ac] 23)) fun e w' => ∃ b c, e = .returned (.tuple #[.slice b N.length c, .int .i64 0]) ∧ Aside (Below w.heap.size w w') ∧
    Calls Tryz.prog 259 #[.slice b N.length c, .func (.func 260) #[] #[.pointer (some ⟨w.heap.size, 0, none⟩)]] w' fun e w2 => ∃ q, e = .returned (.bool q) ∧ Aside ((q = true ↔ ∀ x ∈ N, x ∈ al) ∧ Below w.heap.size w w2) := hs.mono fun e w' ⟨b, c, ho, he⟩ => by
   refine ⟨b, c, by rw [he, normV, if_neg h1]; rfl, hB0.trans (ho.below.mono hB0.size), ?_⟩
   have hc2 : w'.cell? ⟨w.heap.size, 0, none⟩ = some (.slice ab al.length ac) := (World.cell?_of_block (a := ⟨w.heap.size, 0, none⟩) (ho.below.block w.heap.size (by rw [hsz]; omega))).trans hcell
   refine (calls_all ⟨b, c, N⟩ ⟨ab, ac, al⟩ w.heap.size hc2 ho.at (lab_below haa ho.below) h8 (by show N.length ≤ 1000; omega)).mono ?_
   rintro e w2 ⟨q, he, hq, hB⟩
   have hle : w.heap.size ≤ w'.heap.size := by have := ho.below.size; rw [hsz] at this; omega
   exact ⟨q, he, hq, (hB0.trans (ho.below.mono hB0.size)).trans (hB.mono hle)⟩
  clear hs
  go_enter Tryz.func185, Tryz.ntmps185
  go_wp2_with (first
   | (go_at_call 187; refine hs2.mono ?_; rintro e w1 ⟨b, c, rfl, X, hall⟩)
   | (go_at_call 259; refine hall.mono ?_; rintro e w2 ⟨q, rfl, Y⟩; cases q))
  ·go_ret
   refine ⟨?_, Y.out.2⟩
   have hn : ¬ ∀ x ∈ N, x ∈ al := fun hh => by have := Y.out.1.2 hh; cases this
   rw [ownE, if_neg h1, if_neg hn]; rfl
  ·go_ret
   refine ⟨?_, Y.out.2⟩
   have hn : ∀ x ∈ N, x ∈ al := Y.out.1.1 (by trivial)
   rw [ownE, if_neg h1, if_pos hn]; rfl
end Go.Z
end

section
namespace Go.Proofs.LB
open Go.X
set_option maxRecDepth 100000
end Go.Proofs.LB
namespace Go.Z
open Go.X Go.RowKit Go.Proofs Go.Proofs.LB Go.Sort
set_option maxRecDepth 100000
theorem Owned.later {w w1 w' : World} {r : Lab} (h : Owned w1 w' r) (hB : Below w.heap.size w w1) : Owned w w' r := by
 refine ⟨h.num, fun hn => ?_, hB.trans (h.below.mono hB.size)⟩
 rcases h.own hn with ⟨h0, h1 | ⟨g, cap, cur, e, h2, h3⟩⟩
 ·exact ⟨h0, .inl h1⟩
 ·exact ⟨h0, .inr ⟨g, cap, cur, e, Nat.le_trans hB.size h2, h3⟩⟩
set_option maxHeartbeats 1000000 in
theorem ljoin_calls {a c : Lab} {w : World} (h : a.at (viewOf w)) (hc : c.at (viewOf w)) (h8 : a.l.length + c.l.length ≤ 1000) : Calls Tryz.prog 24 #[a.slice, c.slice] w fun e w' => ∃ r : Lab, e = .returned r.slice ∧ r.l = normL (a.l ++ c.l) ∧ Owned w w' r := by
 have hB0 := below_alloc w (.cells #[a.slice, c.slice] 23)
 have hcell : (viewOf (w.alloc (.cells #[a.slice, c.slice] 23))).has w.heap.size 0 [a.slice, c.slice] := fun i v hi => by
  show (w.alloc _).cell? _ = _
  rw [World.cell?, heap_alloc_new]
  match i, hi with
  | 0, hi => exact hi
  | 1, hi => exact hi
 have hs := (calls_of_row (concat_spec a c w.heap.size _ hcell (lab_below h hB0) (lab_below hc hB0) h8)).mono (R' := fun e w' => ∃ b k n, e = .returned (.slice b n k) ∧ Calls Tryz.prog 58 #[.slice b n k] w' fun e w2 => ∃ b2 k2 m, e = .returned (.slice b2 m k2) ∧ Aside (m = (normL (a.l ++ c.l)).length ∧ Owned w w2 ⟨b2, k2, normL (a.l ++ c.l)⟩)) fun e w' ⟨r, he, hr, ho⟩ => by
  obtain ⟨b, k, l⟩ := r
  have hr : l = a.l ++ c.l := hr
  subst hr
  refine ⟨b, k, _, he, (sorted_calls ho.at (by show (a.l ++ c.l).length ≤ 1000; rw [List.length_append]; exact h8)).mono ?_⟩
  rintro e w2 ⟨b2, k2, he, ho2⟩
  exact ⟨b2, k2, _, he, rfl, ho2.later (hB0.trans (ho.below.mono hB0.size))⟩
 generalize normL (a.l ++ c.l) = N at *
 obtain ⟨ab, ac, al⟩ := a
 obtain ⟨cb, cc, cl⟩ := c
 simp only [Lab.slice] at hs ⊢
 clear hcell hB0
 go_enter Tryz.func24, Tryz.ntmps24
 go_wp2_with (first
  | (go_at_call 59; refine hs.mono ?_; rintro e w1 ⟨b, k, n, rfl, hs2⟩)
  | (go_at_call 58; refine hs2.mono ?_; rintro e w2 ⟨b2, k2, m, rfl, X⟩))
 go_ret
 obtain ⟨rfl, ho⟩ := X.out
 exact ⟨⟨b2, k2, N⟩, rfl, rfl, ho⟩
end Go.Z
end
