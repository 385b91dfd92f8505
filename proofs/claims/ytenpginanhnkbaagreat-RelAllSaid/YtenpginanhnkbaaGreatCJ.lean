/- One part of a proof: an evaluator of the model, shown right, and contracts that it yields. No condition beyond those that each theorem names. -/
import Derived.Test.YtenpginanhnkbaaGreatCI
import Derived.Test.YtenpginanhnkbaaGreatCH
import Derived.Test.YtenpginanhnkbaaGreatCD
import Derived.Test.YtenpginanhnkbaaGreatXY
section
set_option linter.unusedSimpArgs false
set_option linter.unusedVariables false
namespace Go.Proofs.YtenpginanhnkbaaGreat
open Go.X
set_option maxRecDepth 100000
theorem findA_range (tb nm : ByteArray) : ∀ (its : List Item) (i : Nat) (k r : Int), findA tb nm i k its = some r → r = k ∨ ((i : Int) ≤ r ∧ r < ((i + its.length : Nat) : Int))
 | [], i, k, r, h => by
  unfold findA at h
  exact .inl (Option.some.inj h).symm
 | x :: l, i, k, r, h => by
  unfold findA at h
  split at h
  ·split at h
   ·cases h
   ·rcases findA_range tb nm l (i + 1) i r h with h1 | h1
    ·exact .inr (by rw [List.length_cons]; omega)
    ·exact .inr (by rw [List.length_cons]; omega)
  ·rcases findA_range tb nm l (i + 1) k r h with h1 | h1
   ·exact .inl h1
   ·exact .inr (by rw [List.length_cons]; omega)
theorem xcells_inj {x y : XC} (h : xcells x = xcells y) : x = y := by
 obtain ⟨o1, ⟨a1, b1, c1⟩, d1, e1, f1, g1, h1⟩ := x
 obtain ⟨o2, ⟨a2, b2, c2⟩, d2, e2, f2, g2, h2⟩ := y
 simp only [xcells, List.cons.injEq, Value.int.injEq, Value.string.injEq, Value.slice.injEq, true_and, and_true] at h
 obtain ⟨rfl, rfl, rfl, rfl, rfl, rfl, rfl, rfl, rfl⟩ := h
 rfl
theorem RepX.un {V : View} {op : Int} {a : E} {x : XC} (h : RepX V (.un op a) x) : x.op = op ∧ (op = 3 ∨ op = 4) ∧ x.len = 1 ∧ ∃ p off xa, x.base = some ⟨p, off, none⟩ ∧ V.has p off (xcells xa) ∧ RepX V a xa := by
 obtain ⟨⟨h1, h2, h3, p, off, xa, h4, h5, h6⟩, _, p', off', xa', h4', h5', h6'⟩ := h
 rw [h4] at h4'
 simp only [Option.some.injEq, Addr.mk.injEq, and_true] at h4'
 obtain ⟨rfl, rfl⟩ := h4'
 obtain rfl := xcells_inj (has_det h5 h5' rfl)
 exact ⟨h1, h2, h3, p, off, xa, h4, h5, h6, h6'⟩
theorem RepX.bin {V : View} {op : Int} {a b : E} {x : XC} (h : RepX V (.bin op a b) x) : x.op = op ∧ (5 ≤ op ∧ op ≤ 15) ∧ x.len = 2 ∧ ∃ p off xa xb, x.base = some ⟨p, off, none⟩ ∧ V.has p off (xcells xa) ∧ V.has p (off + 7) (xcells xb) ∧ RepX V a xa ∧ RepX V b xb := by
 obtain ⟨⟨h1, h2, h3, p, off, xa, xb, h4, h5, h6, h7⟩, _, p', off', xa', xb', h4', h5', h6', h7'⟩ := h
 rw [h4] at h4'
 simp only [Option.some.injEq, Addr.mk.injEq, and_true] at h4'
 obtain ⟨rfl, rfl⟩ := h4'
 have e := has_det h5 h5' rfl
 have e1 : xcells xa = xcells xa' := (List.append_inj e rfl).1
 have e2 : xcells xb = xcells xb' := (List.append_inj e rfl).2
 obtain rfl := xcells_inj e1
 obtain rfl := xcells_inj e2
 refine ⟨h1, h2, h3, p, off, xa, xb, h4, fun i v hi => h5 i v ?_, fun i v hi => ?_, ⟨h6, h6'⟩, ⟨h7, h7'⟩⟩
 ·rw [List.getElem?_append_left (List.getElem?_eq_some_iff.1 hi).1]; exact hi
 ·have := h5 (7 + i) v (by rw [List.getElem?_append_right (by show 7 ≤ 7 + i; omega)]; rw [show 7 + i - (xcells xa).length = i by show 7 + i - 7 = i; omega]; exact hi)
  rw [Nat.add_assoc]; exact this
theorem atA_range {tb nm : ByteArray} {its : List Item} (h : (atA tb nm its).2 = 0) : 0 ≤ (atA tb nm its).1 ∧ (atA tb nm its).1 < its.length := by
 unfold atA at *
 split
 ·rename_i h0; rw [h0] at h; simp at h
 ·rename_i k h0
  rw [h0] at h
  simp only at h
  split
  ·rename_i hk; rw [if_pos hk] at h; simp at h
  ·rename_i hk
   rcases findA_range tb nm its 0 (-1) k h0 with h1 | h1
   ·omega
   ·exact ⟨by show 0 ≤ k; omega, by show k < _; omega⟩
/-- a kind, or an error -/
def KindR (v : Value) : Prop := ∃ k e, v = .tuple #[.int .i64 k, .int .i64 e]
set_option maxHeartbeats 4000000 in
theorem kind_spec (its : List Item) (kinds : List Int) (p off c q off2 d n m : Nat) (hn : n = its.length) (hm : m = its.length) : ∀ (e : E) (x : XC) (V : View), ColsAt V its kinds p off q off2 → RepX V e x → 
  PSpec 71 [.slice (some ⟨p, off, none⟩) n c, .slice (some ⟨q, off2, none⟩) m d, xagg x] V (fun v _ => KindR v)
 | .lit v, x, V, h, hx => by
  subst hn; subst hm
  obtain ⟨⟨hop, hv⟩, hl⟩ := hx
  obtain ⟨xop, xv, xtb, xnm, xbase, xlen, xcap⟩ := x
  have hl : xlen = 0 := hl
  have hop : xop = 1 := hop
  subst hop; subst hl
  refine does_of_zfun [] mixed (args := [.v _, .v _, .v _]) (ms := []) Tryz.func71 (by kernel_rfl) rfl ?_; conv => whnf
  repeat' ((first | refine br_t rfl ?_ | refine br_f rfl ?_ | refine IdxN.lit rfl rfl ?_ | intro _); conv => whnf)
  exact ret_pure ⟨_, _, rfl⟩
 | .col tb nm, x, V, h, hx => by
  subst hn; subst hm
  obtain ⟨⟨hop, hv⟩, hl⟩ := hx
  obtain ⟨xop, xv, xtb, xnm, xbase, xlen, xcap⟩ := x
  have hl : xlen = 0 := hl
  have hop : xop = 2 := hop
  subst hop; subst hl
  have hsm := h.small
  refine does_of_zfun [] mixed (args := [.v _, .v _, .v _]) (ms := []) Tryz.func71 (by kernel_rfl) rfl ?_; conv => whnf
  repeat' ((first | refine br_t rfl ?_ | refine br_f rfl ?_ | refine IdxN.lit rfl rfl ?_ | intro _); conv => whnf)
  refine CallN.pure (at_spec its its.length p c off ⟨2, xv, xtb, xnm, xbase, 0, xcap⟩ _ (h.hasI.mono le_auto) (by omega) (by omega)) fun v V1 _ hV1 hv => ?_
  subst hv; conv => whnf
  apply br <;> intro g1 <;> conv => whnf
  ·repeat' ((first | refine br_t rfl ?_ | refine br_f rfl ?_ | refine IdxN.lit rfl rfl ?_ | intro _); conv => whnf)
   exact ret_pure ⟨_, _, rfl⟩
  rw [List.take_length] at g1 ⊢
  have g1 : (atA xtb xnm its).2 = 0 := by simpa using g1
  obtain ⟨h0, h1⟩ := atA_range g1
  obtain ⟨kk, hkk⟩ := Int.eq_ofNat_of_zero_le h0
  have hlen := h.len
  obtain ⟨kv, hkv⟩ : ∃ y, kinds[kk]? = some y := ⟨_, List.getElem?_eq_getElem (by omega)⟩
  have hone := has_one h.hasK (i := kk) (c := .int .i64 kv) (by rw [List.getElem?_map, hkv]; rfl)
  refine IdxN.of (by show 0 ≤ (atA xtb xnm its).1; omega) (by show (atA xtb xnm its).1 < (its.length : Int); omega) ?_; conv => whnf
  refine LoadN.of (hone.mono le_auto) 0 (by show off2 + ((atA xtb xnm its).1).toNat * 1 = off2 + kk + 0; rw [hkk]; omega) rfl ?_; conv => whnf
  repeat' ((first | refine br_t rfl ?_ | refine br_f rfl ?_ | refine IdxN.lit rfl rfl ?_ | intro _); conv => whnf)
  exact ret_pure ⟨_, _, rfl⟩
 | .un op a, x, V, h, hx => by
  have ih := kind_spec its kinds p off c q off2 d n m hn hm a
  subst hn; subst hm
  obtain ⟨hop, ho, hl, p2, o2, xa, hb, hxa, hra⟩ := hx.un
  obtain ⟨xop, xv, xtb, xnm, xbase, xlen, xcap⟩ := x
  simp only at hop hl hb
  subst hop; subst hl; subst hb
  refine does_of_zfun [] mixed (args := [.v _, .v _, .v _]) (ms := []) Tryz.func71 (by kernel_rfl) rfl ?_
  obtain ⟨ya, yv, ytb, ynm, ybase, ylen, ycap⟩ := xa
  rcases ho with rfl | rfl
  ·conv => whnf
   repeat' ((first | refine br_t rfl ?_ | refine br_f rfl ?_ | refine IdxN.lit rfl rfl ?_ | intro _); conv => whnf)
   refine unrollz 2 ?_; conv => whnf
   repeat' ((first | refine br_t rfl ?_ | refine br_f rfl ?_ | refine IdxN.lit rfl rfl ?_ | intro _); conv => whnf)
   refine LoadN.of (hxa.mono le_auto) 0 rfl rfl ?_; conv => whnf
   refine CallN.pure (ih ⟨ya, yv, ytb, ynm, ybase, ylen, ycap⟩ _ (h.mono le_auto) (hra.mono le_auto)) fun v V1 _ hV1 ⟨k1, e1, hv⟩ => ?_
   subst hv; conv => whnf
   apply br <;> intro g1 <;> conv => whnf
   ·repeat' ((first | refine br_t rfl ?_ | refine br_f rfl ?_ | refine IdxN.lit rfl rfl ?_ | intro _); conv => whnf)
    exact ret_pure ⟨_, _, rfl⟩
   repeat' ((first | refine br_t rfl ?_ | refine br_f rfl ?_ | refine IdxN.lit rfl rfl ?_ | intro _); conv => whnf)
   rename_i lb Vl hVl lk
   refine AppN.to 1 rfl [] [.int .i64 k1] rfl rfl lk rfl rfl (by decide) (by decide) fun base' cap' V3 hV3 hc3 => ?_; conv => whnf
   obtain ⟨pl, ol, hbl, hll⟩ := cells_some hc3 (by intro h; cases h)
   subst hbl
   repeat' ((first | refine br_t rfl ?_ | refine br_f rfl ?_ | refine IdxN.lit rfl rfl ?_ | intro _); conv => whnf)
   refine unrollz 2 ?_; conv => whnf
   repeat' ((first | refine br_t rfl ?_ | refine br_f rfl ?_ | refine IdxN.lit rfl rfl ?_ | intro _); conv => whnf)
   refine LoadN.of (hll.mono le_auto) 0 rfl rfl ?_; conv => whnf
   apply br <;> intro g2 <;> conv => whnf
   ·repeat' ((first | refine br_t rfl ?_ | refine br_f rfl ?_ | refine IdxN.lit rfl rfl ?_ | intro _); conv => whnf)
    exact ret_pure ⟨_, _, rfl⟩
   repeat' ((first | refine br_t rfl ?_ | refine br_f rfl ?_ | refine IdxN.lit rfl rfl ?_ | intro _); conv => whnf)
   exact ret_pure ⟨_, _, rfl⟩
  ·conv => whnf
   repeat' ((first | refine br_t rfl ?_ | refine br_f rfl ?_ | refine IdxN.lit rfl rfl ?_ | intro _); conv => whnf)
   refine unrollz 2 ?_; conv => whnf
   repeat' ((first | refine br_t rfl ?_ | refine br_f rfl ?_ | refine IdxN.lit rfl rfl ?_ | intro _); conv => whnf)
   refine LoadN.of (hxa.mono le_auto) 0 rfl rfl ?_; conv => whnf
   refine CallN.pure (ih ⟨ya, yv, ytb, ynm, ybase, ylen, ycap⟩ _ (h.mono le_auto) (hra.mono le_auto)) fun v V1 _ hV1 ⟨k1, e1, hv⟩ => ?_
   subst hv; conv => whnf
   apply br <;> intro g1 <;> conv => whnf
   ·repeat' ((first | refine br_t rfl ?_ | refine br_f rfl ?_ | refine IdxN.lit rfl rfl ?_ | intro _); conv => whnf)
    exact ret_pure ⟨_, _, rfl⟩
   repeat' ((first | refine br_t rfl ?_ | refine br_f rfl ?_ | refine IdxN.lit rfl rfl ?_ | intro _); conv => whnf)
   rename_i lb Vl hVl lk
   refine AppN.to 1 rfl [] [.int .i64 k1] rfl rfl lk rfl rfl (by decide) (by decide) fun base' cap' V3 hV3 hc3 => ?_; conv => whnf
   obtain ⟨pl, ol, hbl, hll⟩ := cells_some hc3 (by intro h; cases h)
   subst hbl
   repeat' ((first | refine br_t rfl ?_ | refine br_f rfl ?_ | refine IdxN.lit rfl rfl ?_ | intro _); conv => whnf)
   refine unrollz 2 ?_; conv => whnf
   repeat' ((first | refine br_t rfl ?_ | refine br_f rfl ?_ | refine IdxN.lit rfl rfl ?_ | intro _); conv => whnf)
   refine LoadN.of (hll.mono le_auto) 0 rfl rfl ?_; conv => whnf
   apply br <;> intro g2 <;> conv => whnf
   ·repeat' ((first | refine br_t rfl ?_ | refine br_f rfl ?_ | refine IdxN.lit rfl rfl ?_ | intro _); conv => whnf)
    exact ret_pure ⟨_, _, rfl⟩
   repeat' ((first | refine br_t rfl ?_ | refine br_f rfl ?_ | refine IdxN.lit rfl rfl ?_ | intro _); conv => whnf)
   exact ret_pure ⟨_, _, rfl⟩
 | .bin op a b, x, V, h, hx => by
  have ih1 := kind_spec its kinds p off c q off2 d n m hn hm a
  have ih2 := kind_spec its kinds p off c q off2 d n m hn hm b
  subst hn; subst hm
  obtain ⟨hop, ho, hl, p2, o2, xa, xb, hb, hxa, hxb, hra, hrb⟩ := hx.bin
  obtain ⟨xop, xv, xtb, xnm, xbase, xlen, xcap⟩ := x
  simp only at hop hl hb
  subst hop; subst hl; subst hb
  refine does_of_zfun [] mixed (args := [.v _, .v _, .v _]) (ms := []) Tryz.func71 (by kernel_rfl) rfl ?_
  obtain ⟨ya, yv, ytb, ynm, ybase, ylen, ycap⟩ := xa
  obtain ⟨za, zv, ztb, znm, zbase, zlen, zcap⟩ := xb
  have f1 : (xop == 1) = false := by simp; omega
  have f2 : (xop == 2) = false := by simp; omega
  have f3 : (xop == 3) = false := by simp; omega
  have f4 : (xop == 4) = false := by simp; omega
  have f5 : decide (xop < 1) = false := decide_eq_false (by omega)
  have f6 : decide (xop > 15) = false := decide_eq_false (by omega)
  conv => whnf
  repeat (first | (intro _; conv => whnf) | (refine br_t rfl ?_; conv => whnf) | (refine br_f rfl ?_; conv => whnf) | (refine IdxN.lit rfl rfl ?_; conv => whnf) | (refine br_f f1 ?_; conv => whnf) | (refine br_f f2 ?_; conv => whnf) | (refine br_f f3 ?_; conv => whnf) | (refine br_f f4 ?_; conv => whnf) | (refine br_f f5 ?_; conv => whnf) | (refine br_f f6 ?_; conv => whnf))
  refine unrollz 3 ?_; conv => whnf
  repeat (first | (intro _; conv => whnf) | (refine br_t rfl ?_; conv => whnf) | (refine br_f rfl ?_; conv => whnf) | (refine IdxN.lit rfl rfl ?_; conv => whnf) | (refine br_f f1 ?_; conv => whnf) | (refine br_f f2 ?_; conv => whnf) | (refine br_f f3 ?_; conv => whnf) | (refine br_f f4 ?_; conv => whnf) | (refine br_f f5 ?_; conv => whnf) | (refine br_f f6 ?_; conv => whnf))
  refine LoadN.of (hxa.mono le_auto) 0 rfl rfl ?_; conv => whnf
  refine CallN.pure (ih1 ⟨ya, yv, ytb, ynm, ybase, ylen, ycap⟩ _ (h.mono le_auto) (hra.mono le_auto)) fun v V1 _ hV1 ⟨k1, e1, hv⟩ => ?_
  subst hv; conv => whnf
  apply br <;> intro g1 <;> conv => whnf
  ·repeat' ((first | refine br_t rfl ?_ | refine br_f rfl ?_ | refine IdxN.lit rfl rfl ?_ | intro _); conv => whnf)
   exact ret_pure ⟨_, _, rfl⟩
  repeat (first | (intro _; conv => whnf) | (refine br_t rfl ?_; conv => whnf) | (refine br_f rfl ?_; conv => whnf) | (refine IdxN.lit rfl rfl ?_; conv => whnf) | (refine br_f f1 ?_; conv => whnf) | (refine br_f f2 ?_; conv => whnf) | (refine br_f f3 ?_; conv => whnf) | (refine br_f f4 ?_; conv => whnf) | (refine br_f f5 ?_; conv => whnf) | (refine br_f f6 ?_; conv => whnf))
  rename_i lb Vl hVl lk
  refine AppN.to 1 rfl [] [.int .i64 k1] rfl rfl lk rfl rfl (by decide) (by decide) fun base' cap' V3 hV3 hc3 => ?_; conv => whnf
  repeat (first | (intro _; conv => whnf) | (refine br_t rfl ?_; conv => whnf) | (refine br_f rfl ?_; conv => whnf) | (refine IdxN.lit rfl rfl ?_; conv => whnf) | (refine br_f f1 ?_; conv => whnf) | (refine br_f f2 ?_; conv => whnf) | (refine br_f f3 ?_; conv => whnf) | (refine br_f f4 ?_; conv => whnf) | (refine br_f f5 ?_; conv => whnf) | (refine br_f f6 ?_; conv => whnf))
  refine LoadN.of (hxb.mono le_auto) 0 rfl rfl ?_; conv => whnf
  refine CallN.pure (ih2 ⟨za, zv, ztb, znm, zbase, zlen, zcap⟩ _ (h.mono le_auto) (hrb.mono le_auto)) fun v V4 _ hV4 ⟨k2, e2, hv⟩ => ?_
  subst hv; conv => whnf
  apply br <;> intro g2 <;> conv => whnf
  ·repeat' ((first | refine br_t rfl ?_ | refine br_f rfl ?_ | refine IdxN.lit rfl rfl ?_ | intro _); conv => whnf)
   exact ret_pure ⟨_, _, rfl⟩
  repeat (first | (intro _; conv => whnf) | (refine br_t rfl ?_; conv => whnf) | (refine br_f rfl ?_; conv => whnf) | (refine IdxN.lit rfl rfl ?_; conv => whnf) | (refine br_f f1 ?_; conv => whnf) | (refine br_f f2 ?_; conv => whnf) | (refine br_f f3 ?_; conv => whnf) | (refine br_f f4 ?_; conv => whnf) | (refine br_f f5 ?_; conv => whnf) | (refine br_f f6 ?_; conv => whnf))
  rename_i lb2 Vl2 hVl2 lk2
  refine AppN.to 2 rfl [.int .i64 k1] [.int .i64 k2] (hc3.mono le_auto) rfl lk2 rfl rfl (by decide) (by decide) fun base2 cap2 V5 hV5 hc5 => ?_; conv => whnf
  obtain ⟨pl, ol, hbl, hll⟩ := cells_some hc5 (by intro h; cases h)
  subst hbl
  repeat (first | (intro _; conv => whnf) | (refine br_t rfl ?_; conv => whnf) | (refine br_f rfl ?_; conv => whnf) | (refine IdxN.lit rfl rfl ?_; conv => whnf) | (refine br_f f1 ?_; conv => whnf) | (refine br_f f2 ?_; conv => whnf) | (refine br_f f3 ?_; conv => whnf) | (refine br_f f4 ?_; conv => whnf) | (refine br_f f5 ?_; conv => whnf) | (refine br_f f6 ?_; conv => whnf))
  apply br <;> intro g14 <;> conv => whnf
  ·repeat (first | (intro _; conv => whnf) | (refine br_t rfl ?_; conv => whnf) | (refine br_f rfl ?_; conv => whnf) | (refine IdxN.lit rfl rfl ?_; conv => whnf) | (refine br_f f1 ?_; conv => whnf) | (refine br_f f2 ?_; conv => whnf) | (refine br_f f3 ?_; conv => whnf) | (refine br_f f4 ?_; conv => whnf) | (refine br_f f5 ?_; conv => whnf) | (refine br_f f6 ?_; conv => whnf))
   refine unrollz 3 ?_; conv => whnf
   repeat (first | (intro _; conv => whnf) | (refine br_t rfl ?_; conv => whnf) | (refine br_f rfl ?_; conv => whnf) | (refine IdxN.lit rfl rfl ?_; conv => whnf) | (refine br_f f1 ?_; conv => whnf) | (refine br_f f2 ?_; conv => whnf) | (refine br_f f3 ?_; conv => whnf) | (refine br_f f4 ?_; conv => whnf) | (refine br_f f5 ?_; conv => whnf) | (refine br_f f6 ?_; conv => whnf))
   refine LoadN.of (hll.mono le_auto) 0 rfl rfl ?_; conv => whnf
   apply br <;> intro c1 <;> conv => whnf
   ·repeat' ((first | refine br_t rfl ?_ | refine br_f rfl ?_ | refine IdxN.lit rfl rfl ?_ | intro _); conv => whnf)
    exact ret_pure ⟨_, _, rfl⟩
   repeat (first | (intro _; conv => whnf) | (refine br_t rfl ?_; conv => whnf) | (refine br_f rfl ?_; conv => whnf) | (refine IdxN.lit rfl rfl ?_; conv => whnf) | (refine br_f f1 ?_; conv => whnf) | (refine br_f f2 ?_; conv => whnf) | (refine br_f f3 ?_; conv => whnf) | (refine br_f f4 ?_; conv => whnf) | (refine br_f f5 ?_; conv => whnf) | (refine br_f f6 ?_; conv => whnf))
   refine LoadN.of (hll.mono le_auto) 1 rfl rfl ?_; conv => whnf
   apply br <;> intro c2 <;> conv => whnf
   ·repeat' ((first | refine br_t rfl ?_ | refine br_f rfl ?_ | refine IdxN.lit rfl rfl ?_ | intro _); conv => whnf)
    exact ret_pure ⟨_, _, rfl⟩
   repeat (first | (intro _; conv => whnf) | (refine br_t rfl ?_; conv => whnf) | (refine br_f rfl ?_; conv => whnf) | (refine IdxN.lit rfl rfl ?_; conv => whnf) | (refine br_f f1 ?_; conv => whnf) | (refine br_f f2 ?_; conv => whnf) | (refine br_f f3 ?_; conv => whnf) | (refine br_f f4 ?_; conv => whnf) | (refine br_f f5 ?_; conv => whnf) | (refine br_f f6 ?_; conv => whnf))
   exact ret_pure ⟨_, _, rfl⟩
  ·repeat (first | (intro _; conv => whnf) | (refine br_t rfl ?_; conv => whnf) | (refine br_f rfl ?_; conv => whnf) | (refine IdxN.lit rfl rfl ?_; conv => whnf) | (refine br_f f1 ?_; conv => whnf) | (refine br_f f2 ?_; conv => whnf) | (refine br_f f3 ?_; conv => whnf) | (refine br_f f4 ?_; conv => whnf) | (refine br_f f5 ?_; conv => whnf) | (refine br_f f6 ?_; conv => whnf))
   apply br <;> intro g8 <;> conv => whnf
   ·repeat (first | (intro _; conv => whnf) | (refine br_t rfl ?_; conv => whnf) | (refine br_f rfl ?_; conv => whnf) | (refine IdxN.lit rfl rfl ?_; conv => whnf) | (refine br_f f1 ?_; conv => whnf) | (refine br_f f2 ?_; conv => whnf) | (refine br_f f3 ?_; conv => whnf) | (refine br_f f4 ?_; conv => whnf) | (refine br_f f5 ?_; conv => whnf) | (refine br_f f6 ?_; conv => whnf))
    refine LoadN.of (hll.mono le_auto) 0 rfl rfl ?_; conv => whnf
    repeat (first | (intro _; conv => whnf) | (refine br_t rfl ?_; conv => whnf) | (refine br_f rfl ?_; conv => whnf) | (refine IdxN.lit rfl rfl ?_; conv => whnf) | (refine br_f f1 ?_; conv => whnf) | (refine br_f f2 ?_; conv => whnf) | (refine br_f f3 ?_; conv => whnf) | (refine br_f f4 ?_; conv => whnf) | (refine br_f f5 ?_; conv => whnf) | (refine br_f f6 ?_; conv => whnf))
    apply br <;> intro g9 <;> conv => whnf
    ·repeat (first | (intro _; conv => whnf) | (refine br_t rfl ?_; conv => whnf) | (refine br_f rfl ?_; conv => whnf) | (refine IdxN.lit rfl rfl ?_; conv => whnf) | (refine br_f f1 ?_; conv => whnf) | (refine br_f f2 ?_; conv => whnf) | (refine br_f f3 ?_; conv => whnf) | (refine br_f f4 ?_; conv => whnf) | (refine br_f f5 ?_; conv => whnf) | (refine br_f f6 ?_; conv => whnf))
     apply br <;> intro g10 <;> conv => whnf
     ·repeat (first | (intro _; conv => whnf) | (refine br_t rfl ?_; conv => whnf) | (refine br_f rfl ?_; conv => whnf) | (refine IdxN.lit rfl rfl ?_; conv => whnf) | (refine br_f f1 ?_; conv => whnf) | (refine br_f f2 ?_; conv => whnf) | (refine br_f f3 ?_; conv => whnf) | (refine br_f f4 ?_; conv => whnf) | (refine br_f f5 ?_; conv => whnf) | (refine br_f f6 ?_; conv => whnf))
      exact ret_pure ⟨_, _, rfl⟩
     ·repeat (first | (intro _; conv => whnf) | (refine br_t rfl ?_; conv => whnf) | (refine br_f rfl ?_; conv => whnf) | (refine IdxN.lit rfl rfl ?_; conv => whnf) | (refine br_f f1 ?_; conv => whnf) | (refine br_f f2 ?_; conv => whnf) | (refine br_f f3 ?_; conv => whnf) | (refine br_f f4 ?_; conv => whnf) | (refine br_f f5 ?_; conv => whnf) | (refine br_f f6 ?_; conv => whnf))
      refine unrollz 3 ?_; conv => whnf
      repeat (first | (intro _; conv => whnf) | (refine br_t rfl ?_; conv => whnf) | (refine br_f rfl ?_; conv => whnf) | (refine IdxN.lit rfl rfl ?_; conv => whnf) | (refine br_f f1 ?_; conv => whnf) | (refine br_f f2 ?_; conv => whnf) | (refine br_f f3 ?_; conv => whnf) | (refine br_f f4 ?_; conv => whnf) | (refine br_f f5 ?_; conv => whnf) | (refine br_f f6 ?_; conv => whnf))
      refine LoadN.of (hll.mono le_auto) 0 rfl rfl ?_; conv => whnf
      apply br <;> intro c1 <;> conv => whnf
      ·repeat' ((first | refine br_t rfl ?_ | refine br_f rfl ?_ | refine IdxN.lit rfl rfl ?_ | intro _); conv => whnf)
       exact ret_pure ⟨_, _, rfl⟩
      repeat (first | (intro _; conv => whnf) | (refine br_t rfl ?_; conv => whnf) | (refine br_f rfl ?_; conv => whnf) | (refine IdxN.lit rfl rfl ?_; conv => whnf) | (refine br_f f1 ?_; conv => whnf) | (refine br_f f2 ?_; conv => whnf) | (refine br_f f3 ?_; conv => whnf) | (refine br_f f4 ?_; conv => whnf) | (refine br_f f5 ?_; conv => whnf) | (refine br_f f6 ?_; conv => whnf))
      refine LoadN.of (hll.mono le_auto) 1 rfl rfl ?_; conv => whnf
      apply br <;> intro c2 <;> conv => whnf
      ·repeat' ((first | refine br_t rfl ?_ | refine br_f rfl ?_ | refine IdxN.lit rfl rfl ?_ | intro _); conv => whnf)
       exact ret_pure ⟨_, _, rfl⟩
      repeat (first | (intro _; conv => whnf) | (refine br_t rfl ?_; conv => whnf) | (refine br_f rfl ?_; conv => whnf) | (refine IdxN.lit rfl rfl ?_; conv => whnf) | (refine br_f f1 ?_; conv => whnf) | (refine br_f f2 ?_; conv => whnf) | (refine br_f f3 ?_; conv => whnf) | (refine br_f f4 ?_; conv => whnf) | (refine br_f f5 ?_; conv => whnf) | (refine br_f f6 ?_; conv => whnf))
      exact ret_pure ⟨_, _, rfl⟩
    ·repeat (first | (intro _; conv => whnf) | (refine br_t rfl ?_; conv => whnf) | (refine br_f rfl ?_; conv => whnf) | (refine IdxN.lit rfl rfl ?_; conv => whnf) | (refine br_f f1 ?_; conv => whnf) | (refine br_f f2 ?_; conv => whnf) | (refine br_f f3 ?_; conv => whnf) | (refine br_f f4 ?_; conv => whnf) | (refine br_f f5 ?_; conv => whnf) | (refine br_f f6 ?_; conv => whnf))
     refine unrollz 3 ?_; conv => whnf
     repeat (first | (intro _; conv => whnf) | (refine br_t rfl ?_; conv => whnf) | (refine br_f rfl ?_; conv => whnf) | (refine IdxN.lit rfl rfl ?_; conv => whnf) | (refine br_f f1 ?_; conv => whnf) | (refine br_f f2 ?_; conv => whnf) | (refine br_f f3 ?_; conv => whnf) | (refine br_f f4 ?_; conv => whnf) | (refine br_f f5 ?_; conv => whnf) | (refine br_f f6 ?_; conv => whnf))
     refine LoadN.of (hll.mono le_auto) 0 rfl rfl ?_; conv => whnf
     apply br <;> intro c1 <;> conv => whnf
     ·repeat' ((first | refine br_t rfl ?_ | refine br_f rfl ?_ | refine IdxN.lit rfl rfl ?_ | intro _); conv => whnf)
      exact ret_pure ⟨_, _, rfl⟩
     repeat (first | (intro _; conv => whnf) | (refine br_t rfl ?_; conv => whnf) | (refine br_f rfl ?_; conv => whnf) | (refine IdxN.lit rfl rfl ?_; conv => whnf) | (refine br_f f1 ?_; conv => whnf) | (refine br_f f2 ?_; conv => whnf) | (refine br_f f3 ?_; conv => whnf) | (refine br_f f4 ?_; conv => whnf) | (refine br_f f5 ?_; conv => whnf) | (refine br_f f6 ?_; conv => whnf))
     refine LoadN.of (hll.mono le_auto) 1 rfl rfl ?_; conv => whnf
     apply br <;> intro c2 <;> conv => whnf
     ·repeat' ((first | refine br_t rfl ?_ | refine br_f rfl ?_ | refine IdxN.lit rfl rfl ?_ | intro _); conv => whnf)
      exact ret_pure ⟨_, _, rfl⟩
     repeat (first | (intro _; conv => whnf) | (refine br_t rfl ?_; conv => whnf) | (refine br_f rfl ?_; conv => whnf) | (refine IdxN.lit rfl rfl ?_; conv => whnf) | (refine br_f f1 ?_; conv => whnf) | (refine br_f f2 ?_; conv => whnf) | (refine br_f f3 ?_; conv => whnf) | (refine br_f f4 ?_; conv => whnf) | (refine br_f f5 ?_; conv => whnf) | (refine br_f f6 ?_; conv => whnf))
     exact ret_pure ⟨_, _, rfl⟩
   ·repeat (first | (intro _; conv => whnf) | (refine br_t rfl ?_; conv => whnf) | (refine br_f rfl ?_; conv => whnf) | (refine IdxN.lit rfl rfl ?_; conv => whnf) | (refine br_f f1 ?_; conv => whnf) | (refine br_f f2 ?_; conv => whnf) | (refine br_f f3 ?_; conv => whnf) | (refine br_f f4 ?_; conv => whnf) | (refine br_f f5 ?_; conv => whnf) | (refine br_f f6 ?_; conv => whnf))
    refine unrollz 3 ?_; conv => whnf
    repeat (first | (intro _; conv => whnf) | (refine br_t rfl ?_; conv => whnf) | (refine br_f rfl ?_; conv => whnf) | (refine IdxN.lit rfl rfl ?_; conv => whnf) | (refine br_f f1 ?_; conv => whnf) | (refine br_f f2 ?_; conv => whnf) | (refine br_f f3 ?_; conv => whnf) | (refine br_f f4 ?_; conv => whnf) | (refine br_f f5 ?_; conv => whnf) | (refine br_f f6 ?_; conv => whnf))
    refine LoadN.of (hll.mono le_auto) 0 rfl rfl ?_; conv => whnf
    apply br <;> intro c1 <;> conv => whnf
    ·repeat' ((first | refine br_t rfl ?_ | refine br_f rfl ?_ | refine IdxN.lit rfl rfl ?_ | intro _); conv => whnf)
     exact ret_pure ⟨_, _, rfl⟩
    repeat (first | (intro _; conv => whnf) | (refine br_t rfl ?_; conv => whnf) | (refine br_f rfl ?_; conv => whnf) | (refine IdxN.lit rfl rfl ?_; conv => whnf) | (refine br_f f1 ?_; conv => whnf) | (refine br_f f2 ?_; conv => whnf) | (refine br_f f3 ?_; conv => whnf) | (refine br_f f4 ?_; conv => whnf) | (refine br_f f5 ?_; conv => whnf) | (refine br_f f6 ?_; conv => whnf))
    refine LoadN.of (hll.mono le_auto) 1 rfl rfl ?_; conv => whnf
    apply br <;> intro c2 <;> conv => whnf
    ·repeat' ((first | refine br_t rfl ?_ | refine br_f rfl ?_ | refine IdxN.lit rfl rfl ?_ | intro _); conv => whnf)
     exact ret_pure ⟨_, _, rfl⟩
    repeat (first | (intro _; conv => whnf) | (refine br_t rfl ?_; conv => whnf) | (refine br_f rfl ?_; conv => whnf) | (refine IdxN.lit rfl rfl ?_; conv => whnf) | (refine br_f f1 ?_; conv => whnf) | (refine br_f f2 ?_; conv => whnf) | (refine br_f f3 ?_; conv => whnf) | (refine br_f f4 ?_; conv => whnf) | (refine br_f f5 ?_; conv => whnf) | (refine br_f f6 ?_; conv => whnf))
    exact ret_pure ⟨_, _, rfl⟩
theorem hitA_I (tb nm : ByteArray) (x : Item) : hitA tb nm x = hitI tb nm x := by
 unfold hitA hitI
 rw [show (tb.toList == x.tb.toList) = (x.tb.toList == tb.toList) from Bool.beq_comm]
theorem find_none (tb nm : ByteArray) : ∀ (its : List Item) (i : Nat) (k r : Int), 0 ≤ k → findA tb nm i k its = some r → r = k
 | [], i, k, r, h0, h => by
  unfold findA at h
  exact (Option.some.inj h).symm
 | x :: l, i, k, r, h0, h => by
  unfold findA at h
  split at h
  ·simp [h0] at h
  ·exact find_none tb nm l (i + 1) k r h0 h
theorem find_place (tb nm : ByteArray) : ∀ (its : List Item) (i : Nat) (r : Int), findA tb nm i (-1) its = some r → 0 ≤ r → placeOf (hitI tb nm) its i = r
 | [], i, r, h, h0 => by
  unfold findA at h
  have := Option.some.inj h
  omega
 | x :: l, i, r, h, h0 => by
  unfold findA at h
  rw [hitA_I] at h
  rw [placeOf]
  split at h
  ·rename_i hx
   rw [if_pos hx]
   rw [if_neg (by omega)] at h
   exact (find_none tb nm l (i + 1) i r (by omega) h).symm
  ·rename_i hx
   rw [if_neg hx]
   exact find_place tb nm l (i + 1) r h h0
/-- where the document finds one column, the program finds it -/
theorem place_at {tb nm : ByteArray} {its : List Item} (h : (atA tb nm its).2 = 0) : ∃ k : Nat, placeOf (hitI tb nm) its 0 = k ∧ (atA tb nm its).1 = k ∧ k < its.length := by
 have hr := atA_range h
 unfold atA at *
 split at h
 ·cases h
 ·rename_i r hf
  split at h
  ·cases h
  ·rename_i hk
   simp only [hf, if_neg hk] at hr ⊢
   exact ⟨r.toNat, by rw [find_place tb nm its 0 r hf hr.1]; omega, by omega, by omega⟩
theorem vals_cons {k : Nat} {r : List Val} {l : List (List Val)} {v : Val} (h : r[k]? = some v) : valsOf (k : Int) (r :: l) = v :: valsOf (k : Int) l := by
 rw [valsOf, if_pos (by omega), Int.toNat_natCast, h]; rfl
theorem oneP_at {its : List Item} {r : List Val} {x : Item} {k : Nat} {v : Val} (h : placeOf (hitI x.tb x.nm) its 0 = k) (hv : r[k]? = some v) : oneP its r x = [v] := by
 unfold oneP; rw [h, if_pos (by omega), Int.toNat_natCast, hv]
set_option maxHeartbeats 4000000 in
theorem folded_spec (s : StV) (its : List Item) (p o1 c : Nat) (rows : List (List Val)) (rb : Option Addr) (rc : Nat) (l : List Item) (V : View) (hc : V.has p o1 (its.flatMap icells)) (his : its.length ≤ 1000) (hr : RowsAt V rows rb) (hs : rows.length ≤ 1000)
  (hir : ∀ r ∈ rows, ∀ v ∈ r, InR v.n) (hw : ∀ r ∈ rows, r.length = its.length) (htd : ∀ r ∈ rows, ∀ v ∈ r, Tidy v) (htx : ∀ r ∈ rows, ∀ v ∈ r, (v.t.size : Int) ≤ 9223372036854775807)
  (hin : s.items.2.1 = l.length) (hx : V.cells (.slice s.items.1 s.items.2.1 s.items.2.2) (l.flatMap icells)) (hxl : l.length ≤ 1000) (hag : ∀ x ∈ l, x.agg = 1 ∨ ((x.agg = 2 ∨ x.agg = 3 ∨ x.agg = 4) ∧ (atA x.tb x.nm its).2 = 0)) :
  PSpec 28 [stv s, .slice (some ⟨p, o1, none⟩) its.length c, .slice rb rows.length rc] V (fun v V' => ∃ x, v = .tuple #[x, .int .i64 (oneX its rows l).2] ∧ ((oneX its rows l).2 = 0 → RowsV V' [(oneX its rows l).1] x) ∧ ((oneX its rows l).2 ≠ 0 → x = .slice none 0 0)) := by
 obtain ⟨skind, stb, snm, s3, s4, s5, sit, sjoin, son, swh, sord, sdesc, sinn⟩ := s
 obtain ⟨itb, itn, itc⟩ := sit
 simp only at hin hx
 subst hin
 refine does_of_zfun [(25, [(0, []), (1, []), (2, []), (3, []), (4, []), (5, []), (6, []), (7, []), (8, []), (9, [])])] mixed (args := [.v _, .v _, .v _]) (ms := []) Tryz.func28 (by kernel_rfl) rfl ?_; conv => whnf
 repeat' ((first | refine br_t rfl ?_ | refine br_f rfl ?_ | refine IdxN.lit rfl rfl ?_ | intro _); conv => whnf)
 rename_i b3
 refine loopzR (σ := Nat × Option Addr × Nat × List Val)
  (fun z => [(1, .v (.slice (some ⟨p, o1, none⟩) its.length c)), (2, .v (.slice rb rows.length rc)), (3, .own 3 0), (6, .v (.slice none 0 0)), (7, .v (.int .i64 0)), (8, .row 40), (9, .v (.int .i64 z.1))])
  (fun z => [(3, .box b3 30 [.int .i64 skind, .string stb, .string snm, .slice s3.1 s3.2.1 s3.2.2, .slice s4.1 s4.2.1 s4.2.2, .slice s5.1 s5.2.1 s5.2.2, .slice itb l.length itc, .string sjoin, .slice son.1 son.2.1 son.2.2, .slice swh.1 swh.2.1 swh.2.2, .slice sord.1 sord.2.1 sord.2.2, .bool sdesc, .slice sinn.1 sinn.2.1 sinn.2.2]),
   (40, .row (.slice z.2.1 z.2.2.2.length z.2.2.1) 44 3 z.2.2.2.length)])
  (fun j z V' => V.le V' ∧ z.1 ≤ l.length ∧ l.length - z.1 = j ∧ z.2.2.2.length ≤ z.1 ∧ V'.cells (.slice z.2.1 z.2.2.2.length z.2.2.1) (z.2.2.2.flatMap vcells) ∧
   (oneX its rows l).2 = (oneX its rows (l.drop z.1)).2 ∧ ((oneX its rows l).2 = 0 → (oneX its rows l).1 = z.2.2.2 ++ (oneX its rows (l.drop z.1)).1))
  l.length (0, none, 0, []) ?_ ?_ ?_ ?_
 ·repeat' (first | exact sees_nil | refine sees_cons rfl rfl rfl ?_)
 ·repeat' (first | exact keeps_nil | refine keeps_cons rfl ?_ | refine keeps_free ?_)
 ·exact ⟨View.le_refl _, Nat.zero_le _, by simp, Nat.le_refl _, rfl, rfl, fun _ => rfl⟩
 rintro j ⟨i, base, cp, acc⟩ V' ⟨hV, hi, hj, hlen, hcl, h1, h2⟩
 simp only at hi hj hlen hcl h1 h2
 conv => whnf
 apply br <;> intro g1 <;> conv => whnf
 ·have hi1 : i < l.length := by have := of_decide_eq_true g1; omega
  obtain ⟨x, hx1⟩ : ∃ x, l[i]? = some x := ⟨_, List.getElem?_eq_getElem hi1⟩
  have hdrop : l.drop i = x :: l.drop (i + 1) := by
   rw [List.drop_eq_getElem_cons hi1]
   have e1 : l[i] = x := by rw [List.getElem?_eq_getElem hi1] at hx1; exact Option.some.inj hx1
   rw [e1]
  rw [hdrop, oneX] at h1 h2
  have hgx := hag x (List.mem_of_getElem? hx1)
  obtain ⟨ib, io, hib, hxx⟩ := cells_some hx (by
   obtain ⟨y, l', rfl⟩ := List.exists_cons_of_ne_nil (fun e : l = [] => by rw [e] at hi1; cases hi1)
   intro h; cases h)
  subst hib
  have hxc := has_flat (n := 3) (fun _ => rfl) l io hxx i x hx1
  have hwi := wrap_nat (i := i) (by omega)
  obtain ⟨xa, xt, xn⟩ := x
  refine IdxN.of (by omega) (by omega) ?_; conv => whnf
  refine LoadN.of (hxc.mono le_auto) 0 rfl rfl ?_; conv => whnf
  repeat' ((first | refine br_t rfl ?_ | refine br_f rfl ?_ | refine IdxN.lit rfl rfl ?_ | intro _); conv => whnf)
  rename_i b10
  apply br <;> intro g2 <;> conv => whnf
  ·have g2 : xa = 1 := by simpa using g2
   subst g2
   have ha : aggX its rows ⟨1, xt, xn⟩ = (⟨1, rows.length, noText⟩, 0) := rfl
   rw [ha] at h1 h2
   simp only [ne_eq, not_true_eq_false, if_false] at h1 h2
   intro lb Vl hVl hln
   conv => whnf
   refine AppN.to (acc.length + 1) rfl (acc.flatMap vcells) (vcells (⟨1, rows.length, noText⟩ : Val)) (hcl.mono le_auto) (by rw [flat_len (f := vcells) (n := 3) (fun _ => rfl)]; rfl) hln rfl rfl (by omega) (by decide) fun base' cap' Vm hVm hcm => ?_; conv => whnf
   have hcm : Vm.cells (.slice base' (acc ++ [(⟨1, rows.length, noText⟩ : Val)]).length cap') ((acc ++ [(⟨1, rows.length, noText⟩ : Val)]).flatMap vcells) := by
    rw [List.flatMap_append, List.length_append]
    simpa using hcm
   repeat' ((first | refine br_t rfl ?_ | refine br_f rfl ?_ | refine IdxN.lit rfl rfl ?_ | intro _); conv => whnf)
   refine ⟨40, 40, j - 1, (i + 1, base', cap', acc ++ [(⟨1, rows.length, noText⟩ : Val)]), by omega, ?_, ?_, View.le_trans hV le_auto, hi1, by show _ - (i + 1) = _; omega, by show (acc ++ [(⟨1, rows.length, noText⟩ : Val)]).length ≤ i + 1; simp only [List.length_append, List.length_cons, List.length_nil]; omega, hcm, h1, fun h => ?_⟩
   ·repeat' (first | exact sees_nil | refine sees_cons rfl rfl (by simp only [List.length_append, List.length_cons, List.length_nil]; rfl) ?_ | refine sees_cons rfl rfl rfl ?_ | refine sees_cons rfl rfl (by rw [← hwi]; rfl) ?_)
   ·repeat' (first | exact keepsR_nil | refine keepsR_cons rfl ?_ | refine keepsR_cons (by simp only [List.length_append, List.length_cons, List.length_nil]; rfl) ?_ | refine keepsR_free ?_)
   ·rw [h2 h]; simp
  ·have g2 : ¬ xa = 1 := by simpa using g2
   obtain ⟨hxa, hat⟩ := hgx.resolve_left g2
   obtain ⟨k, hpl, hak, hkl⟩ := place_at hat
   simp only at hxa hpl hak hat
   refine CallN.pure (at_spec its its.length p c o1 ⟨0, v0, xt, xn, none, 0, 0⟩ _ (hc.mono le_auto) (by omega) (by omega)) fun v V1 _ hV1 hv => ?_
   subst hv
   simp only [List.take_length]
   rw [hak, hat]
   have hav : aggX its rows ⟨xa, xt, xn⟩ = if xa = 3 then bestX (-1) (valsOf k rows) else if xa = 4 then bestX 1 (valsOf k rows) else sumX 0 (valsOf k rows) := by
    unfold aggX
    rw [if_neg g2]
    simp only [hpl]
   rw [hav] at h1 h2
   have hcol : ∀ m r, rows[m]? = some r → ∃ v, r[k]? = some v := fun m r hm => ⟨_, List.getElem?_eq_getElem (by rw [hw r (List.mem_of_getElem? hm)]; exact hkl)⟩
   conv => whnf
   repeat' ((first | refine br_t rfl ?_ | refine br_f rfl ?_ | refine IdxN.lit rfl rfl ?_ | intro _); conv => whnf)
   apply br <;> intro g3 <;> conv => whnf
   ·have g3 : xa = 2 := by simpa using g3
    subst g3
    simp only [show ¬ (2 : Int) = 3 by decide, show ¬ (2 : Int) = 4 by decide, if_false] at h1 h2
    repeat' ((first | refine br_t rfl ?_ | refine br_f rfl ?_ | refine IdxN.lit rfl rfl ?_ | intro _); conv => whnf)
    refine loopz (σ := Nat × Int)
     (fun z => [(1, .v (.slice (some ⟨p, o1, none⟩) its.length c)), (2, .v (.slice rb rows.length rc)), (3, .own 3 0), (6, .v (.slice none 0 0)), (7, .v (.int .i64 0)), (8, .row 40), (9, .v (.int .i64 i)), (11, .v (.int .i64 k)), (13, .v (.int .i64 z.2)), (14, .v (.int .i64 z.1))])
     (fun _ => [(3, .box b3 30 [.int .i64 skind, .string stb, .string snm, .slice s3.1 s3.2.1 s3.2.2, .slice s4.1 s4.2.1 s4.2.2, .slice s5.1 s5.2.1 s5.2.2, .slice (some ⟨ib, io, none⟩) l.length itc, .string sjoin, .slice son.1 son.2.1 son.2.2, .slice swh.1 swh.2.1 swh.2.2, .slice sord.1 sord.2.1 sord.2.2, .bool sdesc, .slice sinn.1 sinn.2.1 sinn.2.2]),
      (40, .row (.slice base acc.length cp) 44 3 acc.length)])
     (fun j z V2 => V'.le V2 ∧ z.1 ≤ rows.length ∧ rows.length - z.1 = j ∧ InR z.2 ∧ sumX z.2 (valsOf k (rows.drop z.1)) = sumX 0 (valsOf k rows)) rows.length (0, 0) ?_ ?_ ?_ ?_
    ·repeat' (first | exact sees_nil | refine sees_cons rfl rfl rfl ?_)
    ·repeat' (first | exact keeps_nil | refine keeps_cons rfl ?_ | refine keeps_free ?_)
    ·exact ⟨le_auto, Nat.zero_le _, by simp, ⟨by decide, by decide⟩, rfl⟩
    rintro j2 ⟨m, a⟩ V2 ⟨hV2, hm, hj2, ha, hsum⟩
    simp only at hm hj2 ha hsum
    have hwm := wrap_nat (i := m) (by omega)
    conv => whnf
    apply br <;> intro g4 <;> conv => whnf
    ·have hm1 : m < rows.length := by have := of_decide_eq_true g4; omega
     obtain ⟨r, hr1⟩ : ∃ r, rows[m]? = some r := ⟨_, List.getElem?_eq_getElem hm1⟩
     obtain ⟨u, hu⟩ := hcol m r hr1
     have hdr : rows.drop m = r :: rows.drop (m + 1) := by
      rw [List.drop_eq_getElem_cons hm1]
      have e1 : rows[m] = r := by rw [List.getElem?_eq_getElem hm1] at hr1; exact Option.some.inj hr1
      rw [e1]
     rw [hdr, vals_cons hu, sumX] at hsum
     obtain ⟨p2, off2, cv, rfl, hcell, hrow⟩ := hr.at hr1
     obtain ⟨rbase, rcap, rfl, hrp, hrva⟩ := hrow
     obtain ⟨q, off3, rfl, hval⟩ := hrva.at hu
     have hkr : k < r.length := (List.getElem?_eq_some_iff.1 hu).1
     refine IdxN.of (by omega) (by omega) ?_; conv => whnf
     refine LoadN.of (hcell.mono le_auto) 0 (by show off2 + m * 1 = off2 + m + 0; omega) rfl ?_; conv => whnf
     refine IdxN.of (by omega) (by omega) ?_; conv => whnf
     refine LoadN.of (hval.mono le_auto) 1 rfl rfl ?_; conv => whnf
     refine CallN.pure (radd_spec a u.n ha (hir r (List.mem_of_getElem? hr1) u (List.mem_of_getElem? hu)) _) fun v V3 _ hV3 hv => ?_
     subst hv
     have hf := fits_inR (a + u.n)
     generalize fits (a + u.n) = F at *
     obtain ⟨f1, f2⟩ := F
     simp only at hsum hf
     conv => whnf
     repeat' ((first | refine br_t rfl ?_ | refine br_f rfl ?_ | refine IdxN.lit rfl rfl ?_ | intro _); conv => whnf)
     apply br <;> intro h6 <;> conv => whnf
     ·have h6 : f2 ≠ 0 := by simpa using h6
      rw [if_pos h6] at hsum
      rw [← hsum, if_pos h6] at h1
      have h1 : (oneX its rows l).2 = f2 := h1
      repeat' ((first | refine br_t rfl ?_ | refine br_f rfl ?_ | refine IdxN.lit rfl rfl ?_ | intro _); conv => whnf)
      exact ret_pure ⟨_, by rw [h1]; rfl, fun h => absurd (h1 ▸ h) h6, fun _ => rfl⟩
     ·have h6 : f2 = 0 := by simpa using h6
      rw [if_neg (fun h => h h6)] at hsum
      repeat' ((first | refine br_t rfl ?_ | refine br_f rfl ?_ | refine IdxN.lit rfl rfl ?_ | intro _); conv => whnf)
      refine ⟨j2 - 1, (m + 1, f1), by omega, ?_, ?_, View.le_trans hV2 hV3, hm1, by show _ - (m + 1) = _; omega, hf, hsum⟩
      ·repeat' (first | exact sees_nil | refine sees_cons rfl rfl rfl ?_ | refine sees_cons rfl rfl (by rw [← hwm]; rfl) ?_)
      ·repeat' (first | exact keeps_nil | refine keeps_cons rfl ?_ | refine keeps_free ?_)
    ·have hm1 : ¬ m < rows.length := by have := of_decide_eq_false g4; omega
     rw [List.drop_eq_nil_of_le (by omega), valsOf, sumX] at hsum
     rw [← hsum] at h1 h2
     simp only [ne_eq, not_true_eq_false, if_false] at h1 h2
     have hV := View.le_trans hV hV2
     have hcl := hcl.mono hV2
     intro lb Vl hVl hln
     conv => whnf
     refine AppN.to (acc.length + 1) rfl (acc.flatMap vcells) (vcells (⟨1, a, noText⟩ : Val)) (hcl.mono le_auto) (by rw [flat_len (f := vcells) (n := 3) (fun _ => rfl)]; rfl) hln rfl rfl (by omega) (by decide) fun base' cap' Vm hVm hcm => ?_; conv => whnf
     have hcm : Vm.cells (.slice base' (acc ++ [(⟨1, a, noText⟩ : Val)]).length cap') ((acc ++ [(⟨1, a, noText⟩ : Val)]).flatMap vcells) := by
      rw [List.flatMap_append, List.length_append]
      simpa using hcm
     repeat' ((first | refine br_t rfl ?_ | refine br_f rfl ?_ | refine IdxN.lit rfl rfl ?_ | intro _); conv => whnf)
     refine ⟨40, 83, j - 1, (i + 1, base', cap', acc ++ [(⟨1, a, noText⟩ : Val)]), by omega, ?_, ?_, View.le_trans hV le_auto, hi1, by show _ - (i + 1) = _; omega, by show (acc ++ [(⟨1, a, noText⟩ : Val)]).length ≤ i + 1; simp only [List.length_append, List.length_cons, List.length_nil]; omega, hcm, h1, fun h => ?_⟩
     ·repeat' (first | exact sees_nil | refine sees_cons rfl rfl (by simp only [List.length_append, List.length_cons, List.length_nil]; rfl) ?_ | refine sees_cons rfl rfl rfl ?_ | refine sees_cons rfl rfl (by rw [← hwi]; rfl) ?_)
     ·repeat' (first | exact keepsR_nil | refine keepsR_cons rfl ?_ | refine keepsR_cons (by simp only [List.length_append, List.length_cons, List.length_nil]; rfl) ?_ | refine keepsR_free ?_)
     ·rw [h2 h]; simp
   ·have g3 : ¬ xa = 2 := by simpa using g3
    repeat' ((first | refine br_t rfl ?_ | refine br_f rfl ?_ | refine IdxN.lit rfl rfl ?_ | intro _); conv => whnf)
    rcases hxa.resolve_left g3 with rfl | rfl
    ·simp only [if_true] at h1 h2
     apply br <;> intro g4 <;> conv => whnf
     ·have hr0 : rows = [] := List.eq_nil_of_length_eq_zero (by simpa using g4)
      have hb0 : bestX (-1) (valsOf k rows) = (v0, 23) := by rw [hr0]; rfl
      rw [hb0] at h1
      have h1 : (oneX its rows l).2 = 23 := h1
      repeat' ((first | refine br_t rfl ?_ | refine br_f rfl ?_ | refine IdxN.lit rfl rfl ?_ | intro _); conv => whnf)
      exact ret_pure ⟨_, by rw [h1]; rfl, fun h => absurd (h1.symm.trans h) (by decide), fun _ => rfl⟩
     have hrn : rows ≠ [] := fun e => by rw [e] at g4; simp at g4
     have hlen0 : 0 < rows.length := List.length_pos_iff.2 hrn
     obtain ⟨r0, hr0⟩ : ∃ r, rows[0]? = some r := ⟨_, List.getElem?_eq_getElem hlen0⟩
     obtain ⟨u0, hu0⟩ := hcol 0 r0 hr0
     have hd0 : rows = r0 :: rows.drop 1 := by
      obtain ⟨y, l', rfl⟩ := List.exists_cons_of_ne_nil hrn
      simp only [List.getElem?_cons_zero, Option.some.injEq] at hr0
      rw [hr0]; rfl
     have hb0 : bestX (-1) (valsOf k rows) = (maxF (-1) u0 (valsOf k (rows.drop 1)), 0) := by
      have : valsOf k rows = u0 :: valsOf k (rows.drop 1) := by
       conv => lhs; rw [hd0]
       exact vals_cons hu0
      rw [this]; rfl
     rw [hb0] at h1 h2
     simp only [ne_eq, not_true_eq_false, if_false] at h1 h2
     obtain ⟨p2, off2, cv, hrb, hcell, hrow⟩ := hr.at hr0
     obtain ⟨rbase, rcap, hrv, hrp, hrva⟩ := hrow
     obtain ⟨q, off3, hqb, hval⟩ := hrva.at hu0
     subst hrb; subst hrv; subst hqb
     have hkr0 : k < r0.length := (List.getElem?_eq_some_iff.1 hu0).1
     refine IdxN.of (by omega) (by omega) ?_; conv => whnf
     refine LoadN.of (hcell.mono le_auto) 0 (by show off2 + 0 * 1 = off2 + 0 + 0; omega) rfl ?_; conv => whnf
     refine IdxN.of (by omega) (by omega) ?_; conv => whnf
     refine LoadN.of (hval.mono le_auto) 0 rfl rfl ?_; conv => whnf
     repeat' ((first | refine br_t rfl ?_ | refine br_f rfl ?_ | refine IdxN.lit rfl rfl ?_ | intro _); conv => whnf)
     rename_i b17
     refine loopz (σ := Nat × Val)
      (fun z => [(1, .v (.slice (some ⟨p, o1, none⟩) its.length c)), (2, .v (.slice (some ⟨p2, off2, none⟩) rows.length rc)), (3, .own 3 0), (6, .v (.slice none 0 0)), (7, .v (.int .i64 0)), (8, .row 40), (9, .v (.int .i64 i)), (10, .own 10 0), (11, .v (.int .i64 k)), (17, .own 17 0), (18, .v (.int .i64 z.1))])
      (fun z => [(3, .box b3 30 [.int .i64 skind, .string stb, .string snm, .slice s3.1 s3.2.1 s3.2.2, .slice s4.1 s4.2.1 s4.2.2, .slice s5.1 s5.2.1 s5.2.2, .slice (some ⟨ib, io, none⟩) l.length itc, .string sjoin, .slice son.1 son.2.1 son.2.2, .slice swh.1 swh.2.1 swh.2.2, .slice sord.1 sord.2.1 sord.2.2, .bool sdesc, .slice sinn.1 sinn.2.1 sinn.2.2]),
       (10, .box b10 68 [.int .i64 3, .string xt, .string xn]), (17, .box b17 44 [.int .i64 z.2.k, .int .i64 z.2.n, .string z.2.t]), (40, .row (.slice base acc.length cp) 44 3 acc.length)])
      (fun j z V2 => V'.le V2 ∧ z.1 ≤ rows.length ∧ rows.length - z.1 = j ∧ Tidy z.2 ∧ maxF (-1) z.2 (valsOf k (rows.drop z.1)) = maxF (-1) u0 (valsOf k (rows.drop 1))) (rows.length - 1) (1, u0) ?_ ?_ ?_ ?_
     ·repeat' (first | exact sees_nil | refine sees_cons rfl rfl rfl ?_)
     ·repeat' (first | exact keeps_nil | refine keeps_cons rfl ?_ | refine keeps_free ?_)
     ·exact ⟨le_auto, hlen0, rfl, htd r0 (List.mem_of_getElem? hr0) u0 (List.mem_of_getElem? hu0), rfl⟩
     rintro j2 ⟨m, bv⟩ V2 ⟨hV2, hm, hj2, hbt, hmx⟩
     simp only at hm hj2 hbt hmx
     have hwm := wrap_nat (i := m) (by omega)
     conv => whnf
     apply br <;> intro g5 <;> conv => whnf
     ·have hm1 : m < rows.length := by have := of_decide_eq_true g5; omega
      obtain ⟨r, hr1⟩ : ∃ r, rows[m]? = some r := ⟨_, List.getElem?_eq_getElem hm1⟩
      obtain ⟨u, hu⟩ := hcol m r hr1
      have hdr : rows.drop m = r :: rows.drop (m + 1) := by
       rw [List.drop_eq_getElem_cons hm1]
       have e1 : rows[m] = r := by rw [List.getElem?_eq_getElem hm1] at hr1; exact Option.some.inj hr1
       rw [e1]
      rw [hdr, vals_cons hu, maxF] at hmx
      obtain ⟨p4, off4, cv4, hrb4, hcell4, hrow4⟩ := hr.at hr1
      obtain ⟨rbase4, rcap4, hrv4, hrp4, hrva4⟩ := hrow4
      obtain ⟨q4, off5, hqb4, hval4⟩ := hrva4.at hu
      simp only [Option.some.injEq, Addr.mk.injEq] at hrb4
      obtain ⟨rfl, rfl, _⟩ := hrb4
      subst hrv4; subst hqb4
      have hkr : k < r.length := (List.getElem?_eq_some_iff.1 hu).1
      have hut := htd r (List.mem_of_getElem? hr1) u (List.mem_of_getElem? hu)
      have hux := htx r (List.mem_of_getElem? hr1) u (List.mem_of_getElem? hu)
      refine IdxN.of (by omega) (by omega) ?_; conv => whnf
      refine LoadN.of (hcell4.mono le_auto) 0 (by show off2 + m * 1 = off2 + m + 0; omega) rfl ?_; conv => whnf
      refine IdxN.of (by omega) (by omega) ?_; conv => whnf
      refine LoadN.of (hval4.mono le_auto) 0 rfl rfl ?_; conv => whnf
      refine CallN.pure (rcmpv_spec u bv hux _) fun v V3 _ hV3 hv => ?_
      subst hv
      rw [tidy_cmp hut hbt]
      refine Prot.refl ?_; conv => whnf
      repeat' ((first | refine br_t rfl ?_ | refine br_f rfl ?_ | refine IdxN.lit rfl rfl ?_ | intro _); conv => whnf)
      apply br <;> intro g6 <;> conv => whnf
      ·have hc6 := of_decide_eq_true g6
       rw [if_pos (by omega)] at hmx
       repeat (first | (refine br_t g6 ?_; conv => whnf) | (refine br_t rfl ?_; conv => whnf) | (refine br_f rfl ?_; conv => whnf))
       refine IdxN.of (by omega) (by omega) ?_; conv => whnf
       refine LoadN.of (hcell4.mono le_auto) 0 (by show off2 + m * 1 = off2 + m + 0; omega) rfl ?_; conv => whnf
       refine IdxN.of (by omega) (by omega) ?_; conv => whnf
       refine LoadN.of (hval4.mono le_auto) 0 rfl rfl ?_; conv => whnf
       refine ⟨j2 - 1, (m + 1, u), by omega, ?_, ?_, View.le_trans hV2 le_auto, hm1, by show _ - (m + 1) = _; omega, by assumption, hmx⟩
       ·repeat' (first | exact sees_nil | refine sees_cons rfl rfl rfl ?_ | refine sees_cons rfl rfl (by rw [← hwm]; rfl) ?_)
       ·repeat' (first | exact keeps_nil | refine keeps_cons rfl ?_ | refine keeps_free ?_)
      ·have hc6 := of_decide_eq_false g6
       rw [if_neg (by omega)] at hmx
       repeat (first | (refine br_f g6 ?_; conv => whnf) | (refine br_t rfl ?_; conv => whnf) | (refine br_f rfl ?_; conv => whnf))
       refine ⟨j2 - 1, (m + 1, bv), by omega, ?_, ?_, View.le_trans hV2 le_auto, hm1, by show _ - (m + 1) = _; omega, by assumption, hmx⟩
       ·repeat' (first | exact sees_nil | refine sees_cons rfl rfl rfl ?_ | refine sees_cons rfl rfl (by rw [← hwm]; rfl) ?_)
       ·repeat' (first | exact keeps_nil | refine keeps_cons rfl ?_ | refine keeps_free ?_)
     ·have hm1 : ¬ m < rows.length := by have := of_decide_eq_false g5; omega
      rw [List.drop_eq_nil_of_le (by omega), valsOf, maxF] at hmx
      rw [← hmx] at h2
      have hV := View.le_trans hV hV2
      have hcl := hcl.mono hV2
      intro lb Vl hVl hln
      conv => whnf
      refine AppN.to (acc.length + 1) rfl (acc.flatMap vcells) (vcells bv) (hcl.mono le_auto) (by rw [flat_len (f := vcells) (n := 3) (fun _ => rfl)]; rfl) hln rfl rfl (by omega) (by decide) fun base' cap' Vm hVm hcm => ?_; conv => whnf
      have hcm : Vm.cells (.slice base' (acc ++ [bv]).length cap') ((acc ++ [bv]).flatMap vcells) := by
       rw [List.flatMap_append, List.length_append]
       simpa using hcm
      repeat' ((first | refine br_t rfl ?_ | refine br_f rfl ?_ | refine IdxN.lit rfl rfl ?_ | intro _); conv => whnf)
      refine ⟨40, 134, j - 1, (i + 1, base', cap', acc ++ [bv]), by omega, ?_, ?_, View.le_trans hV le_auto, hi1, by show _ - (i + 1) = _; omega, by show (acc ++ [bv]).length ≤ i + 1; simp only [List.length_append, List.length_cons, List.length_nil]; omega, hcm, h1, fun h => ?_⟩
      ·repeat' (first | exact sees_nil | refine sees_cons rfl rfl (by simp only [List.length_append, List.length_cons, List.length_nil]; rfl) ?_ | refine sees_cons rfl rfl rfl ?_ | refine sees_cons rfl rfl (by rw [← hwi]; rfl) ?_)
      ·repeat' (first | exact keepsR_nil | refine keepsR_cons rfl ?_ | refine keepsR_cons (by simp only [List.length_append, List.length_cons, List.length_nil]; rfl) ?_ | refine keepsR_free ?_)
      ·rw [h2 h]; simp
    ·simp only [show ¬ (4 : Int) = 3 by decide, if_false, if_true] at h1 h2
     apply br <;> intro g4 <;> conv => whnf
     ·have hr0 : rows = [] := List.eq_nil_of_length_eq_zero (by simpa using g4)
      have hb0 : bestX (1) (valsOf k rows) = (v0, 23) := by rw [hr0]; rfl
      rw [hb0] at h1
      have h1 : (oneX its rows l).2 = 23 := h1
      repeat' ((first | refine br_t rfl ?_ | refine br_f rfl ?_ | refine IdxN.lit rfl rfl ?_ | intro _); conv => whnf)
      exact ret_pure ⟨_, by rw [h1]; rfl, fun h => absurd (h1.symm.trans h) (by decide), fun _ => rfl⟩
     have hrn : rows ≠ [] := fun e => by rw [e] at g4; simp at g4
     have hlen0 : 0 < rows.length := List.length_pos_iff.2 hrn
     obtain ⟨r0, hr0⟩ : ∃ r, rows[0]? = some r := ⟨_, List.getElem?_eq_getElem hlen0⟩
     obtain ⟨u0, hu0⟩ := hcol 0 r0 hr0
     have hd0 : rows = r0 :: rows.drop 1 := by
      obtain ⟨y, l', rfl⟩ := List.exists_cons_of_ne_nil hrn
      simp only [List.getElem?_cons_zero, Option.some.injEq] at hr0
      rw [hr0]; rfl
     have hb0 : bestX (1) (valsOf k rows) = (maxF (1) u0 (valsOf k (rows.drop 1)), 0) := by
      have : valsOf k rows = u0 :: valsOf k (rows.drop 1) := by
       conv => lhs; rw [hd0]
       exact vals_cons hu0
      rw [this]; rfl
     rw [hb0] at h1 h2
     simp only [ne_eq, not_true_eq_false, if_false] at h1 h2
     obtain ⟨p2, off2, cv, hrb, hcell, hrow⟩ := hr.at hr0
     obtain ⟨rbase, rcap, hrv, hrp, hrva⟩ := hrow
     obtain ⟨q, off3, hqb, hval⟩ := hrva.at hu0
     subst hrb; subst hrv; subst hqb
     have hkr0 : k < r0.length := (List.getElem?_eq_some_iff.1 hu0).1
     refine IdxN.of (by omega) (by omega) ?_; conv => whnf
     refine LoadN.of (hcell.mono le_auto) 0 (by show off2 + 0 * 1 = off2 + 0 + 0; omega) rfl ?_; conv => whnf
     refine IdxN.of (by omega) (by omega) ?_; conv => whnf
     refine LoadN.of (hval.mono le_auto) 0 rfl rfl ?_; conv => whnf
     repeat' ((first | refine br_t rfl ?_ | refine br_f rfl ?_ | refine IdxN.lit rfl rfl ?_ | intro _); conv => whnf)
     rename_i b17
     refine loopz (σ := Nat × Val)
      (fun z => [(1, .v (.slice (some ⟨p, o1, none⟩) its.length c)), (2, .v (.slice (some ⟨p2, off2, none⟩) rows.length rc)), (3, .own 3 0), (6, .v (.slice none 0 0)), (7, .v (.int .i64 0)), (8, .row 40), (9, .v (.int .i64 i)), (10, .own 10 0), (11, .v (.int .i64 k)), (17, .own 17 0), (18, .v (.int .i64 z.1))])
      (fun z => [(3, .box b3 30 [.int .i64 skind, .string stb, .string snm, .slice s3.1 s3.2.1 s3.2.2, .slice s4.1 s4.2.1 s4.2.2, .slice s5.1 s5.2.1 s5.2.2, .slice (some ⟨ib, io, none⟩) l.length itc, .string sjoin, .slice son.1 son.2.1 son.2.2, .slice swh.1 swh.2.1 swh.2.2, .slice sord.1 sord.2.1 sord.2.2, .bool sdesc, .slice sinn.1 sinn.2.1 sinn.2.2]),
       (10, .box b10 68 [.int .i64 4, .string xt, .string xn]), (17, .box b17 44 [.int .i64 z.2.k, .int .i64 z.2.n, .string z.2.t]), (40, .row (.slice base acc.length cp) 44 3 acc.length)])
      (fun j z V2 => V'.le V2 ∧ z.1 ≤ rows.length ∧ rows.length - z.1 = j ∧ Tidy z.2 ∧ maxF (1) z.2 (valsOf k (rows.drop z.1)) = maxF (1) u0 (valsOf k (rows.drop 1))) (rows.length - 1) (1, u0) ?_ ?_ ?_ ?_
     ·repeat' (first | exact sees_nil | refine sees_cons rfl rfl rfl ?_)
     ·repeat' (first | exact keeps_nil | refine keeps_cons rfl ?_ | refine keeps_free ?_)
     ·exact ⟨le_auto, hlen0, rfl, htd r0 (List.mem_of_getElem? hr0) u0 (List.mem_of_getElem? hu0), rfl⟩
     rintro j2 ⟨m, bv⟩ V2 ⟨hV2, hm, hj2, hbt, hmx⟩
     simp only at hm hj2 hbt hmx
     have hwm := wrap_nat (i := m) (by omega)
     conv => whnf
     apply br <;> intro g5 <;> conv => whnf
     ·have hm1 : m < rows.length := by have := of_decide_eq_true g5; omega
      obtain ⟨r, hr1⟩ : ∃ r, rows[m]? = some r := ⟨_, List.getElem?_eq_getElem hm1⟩
      obtain ⟨u, hu⟩ := hcol m r hr1
      have hdr : rows.drop m = r :: rows.drop (m + 1) := by
       rw [List.drop_eq_getElem_cons hm1]
       have e1 : rows[m] = r := by rw [List.getElem?_eq_getElem hm1] at hr1; exact Option.some.inj hr1
       rw [e1]
      rw [hdr, vals_cons hu, maxF] at hmx
      obtain ⟨p4, off4, cv4, hrb4, hcell4, hrow4⟩ := hr.at hr1
      obtain ⟨rbase4, rcap4, hrv4, hrp4, hrva4⟩ := hrow4
      obtain ⟨q4, off5, hqb4, hval4⟩ := hrva4.at hu
      simp only [Option.some.injEq, Addr.mk.injEq] at hrb4
      obtain ⟨rfl, rfl, _⟩ := hrb4
      subst hrv4; subst hqb4
      have hkr : k < r.length := (List.getElem?_eq_some_iff.1 hu).1
      have hut := htd r (List.mem_of_getElem? hr1) u (List.mem_of_getElem? hu)
      have hux := htx r (List.mem_of_getElem? hr1) u (List.mem_of_getElem? hu)
      refine IdxN.of (by omega) (by omega) ?_; conv => whnf
      refine LoadN.of (hcell4.mono le_auto) 0 (by show off2 + m * 1 = off2 + m + 0; omega) rfl ?_; conv => whnf
      refine IdxN.of (by omega) (by omega) ?_; conv => whnf
      refine LoadN.of (hval4.mono le_auto) 0 rfl rfl ?_; conv => whnf
      refine CallN.pure (rcmpv_spec u bv hux _) fun v V3 _ hV3 hv => ?_
      subst hv
      rw [tidy_cmp hut hbt]
      refine Prot.refl ?_; conv => whnf
      repeat' ((first | refine br_t rfl ?_ | refine br_f rfl ?_ | refine IdxN.lit rfl rfl ?_ | intro _); conv => whnf)
      apply br <;> intro g6 <;> conv => whnf
      ·have hc6 := of_decide_eq_true g6
       rw [if_pos (by omega)] at hmx
       repeat (first | (refine br_t g6 ?_; conv => whnf) | (refine br_t rfl ?_; conv => whnf) | (refine br_f rfl ?_; conv => whnf))
       refine IdxN.of (by omega) (by omega) ?_; conv => whnf
       refine LoadN.of (hcell4.mono le_auto) 0 (by show off2 + m * 1 = off2 + m + 0; omega) rfl ?_; conv => whnf
       refine IdxN.of (by omega) (by omega) ?_; conv => whnf
       refine LoadN.of (hval4.mono le_auto) 0 rfl rfl ?_; conv => whnf
       refine ⟨j2 - 1, (m + 1, u), by omega, ?_, ?_, View.le_trans hV2 le_auto, hm1, by show _ - (m + 1) = _; omega, by assumption, hmx⟩
       ·repeat' (first | exact sees_nil | refine sees_cons rfl rfl rfl ?_ | refine sees_cons rfl rfl (by rw [← hwm]; rfl) ?_)
       ·repeat' (first | exact keeps_nil | refine keeps_cons rfl ?_ | refine keeps_free ?_)
      ·have hc6 := of_decide_eq_false g6
       rw [if_neg (by omega)] at hmx
       repeat (first | (refine br_f g6 ?_; conv => whnf) | (refine br_t rfl ?_; conv => whnf) | (refine br_f rfl ?_; conv => whnf))
       refine ⟨j2 - 1, (m + 1, bv), by omega, ?_, ?_, View.le_trans hV2 le_auto, hm1, by show _ - (m + 1) = _; omega, by assumption, hmx⟩
       ·repeat' (first | exact sees_nil | refine sees_cons rfl rfl rfl ?_ | refine sees_cons rfl rfl (by rw [← hwm]; rfl) ?_)
       ·repeat' (first | exact keeps_nil | refine keeps_cons rfl ?_ | refine keeps_free ?_)
     ·have hm1 : ¬ m < rows.length := by have := of_decide_eq_false g5; omega
      rw [List.drop_eq_nil_of_le (by omega), valsOf, maxF] at hmx
      rw [← hmx] at h2
      have hV := View.le_trans hV hV2
      have hcl := hcl.mono hV2
      intro lb Vl hVl hln
      conv => whnf
      refine AppN.to (acc.length + 1) rfl (acc.flatMap vcells) (vcells bv) (hcl.mono le_auto) (by rw [flat_len (f := vcells) (n := 3) (fun _ => rfl)]; rfl) hln rfl rfl (by omega) (by decide) fun base' cap' Vm hVm hcm => ?_; conv => whnf
      have hcm : Vm.cells (.slice base' (acc ++ [bv]).length cap') ((acc ++ [bv]).flatMap vcells) := by
       rw [List.flatMap_append, List.length_append]
       simpa using hcm
      repeat' ((first | refine br_t rfl ?_ | refine br_f rfl ?_ | refine IdxN.lit rfl rfl ?_ | intro _); conv => whnf)
      refine ⟨40, 134, j - 1, (i + 1, base', cap', acc ++ [bv]), by omega, ?_, ?_, View.le_trans hV le_auto, hi1, by show _ - (i + 1) = _; omega, by show (acc ++ [bv]).length ≤ i + 1; simp only [List.length_append, List.length_cons, List.length_nil]; omega, hcm, h1, fun h => ?_⟩
      ·repeat' (first | exact sees_nil | refine sees_cons rfl rfl (by simp only [List.length_append, List.length_cons, List.length_nil]; rfl) ?_ | refine sees_cons rfl rfl rfl ?_ | refine sees_cons rfl rfl (by rw [← hwi]; rfl) ?_)
      ·repeat' (first | exact keepsR_nil | refine keepsR_cons rfl ?_ | refine keepsR_cons (by simp only [List.length_append, List.length_cons, List.length_nil]; rfl) ?_ | refine keepsR_free ?_)
      ·rw [h2 h]; simp
 ·have hi1 : ¬ i < l.length := by have := of_decide_eq_false g1; omega
  rw [List.drop_eq_nil_of_le (by omega)] at h1 h2
  have h1 : (oneX its rows l).2 = 0 := h1
  have h2 := h2 h1
  rw [oneX, List.append_nil] at h2
  intro lb Vl hVl hln
  conv => whnf
  repeat' ((first | refine br_t rfl ?_ | refine br_f rfl ?_ | refine IdxN.lit rfl rfl ?_ | intro _); conv => whnf)
  refine ret_pure ⟨_, by rw [h1]; rfl, fun _ => ⟨some ⟨lb, 0, none⟩, 1, rfl, .inr ⟨lb, 0, rfl⟩, ?_⟩, fun h => absurd h1 h⟩
  rw [h2]
  exact ⟨⟨[_], CellsAt.snoc CellsAt.nil ⟨base, cp, rfl, .inr (plain_cells hcl), ValsAt.of_cells (hcl.mono le_auto) (by omega)⟩, fun _ => ⟨lb, 0, rfl, hln⟩⟩, by show 1 ≤ _; decide⟩
end Go.Proofs.YtenpginanhnkbaaGreat
end
