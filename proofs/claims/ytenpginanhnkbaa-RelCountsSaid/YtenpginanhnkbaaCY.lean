/- One part of a proof: an evaluator of the model, shown right, and contracts that it yields. No condition beyond those that each theorem names. -/
import Derived.Test.YtenpginanhnkbaaCX
section
set_option linter.unusedSimpArgs false
set_option linter.unusedVariables false
namespace Go.Proofs.Ytenpginanhnkbaa
open Go.X
set_option maxRecDepth 100000

theorem findA_range (tb nm : ByteArray) : ∀ (its : List Item) (i : Nat) (k r : Int), findA tb nm i k its = some r → r = k ∨ ((i : Int) ≤ r ∧ r < ((i + its.length : Nat) : Int))
  | [], i, k, r, h => by
    unfold findA at h
    exact .inl (Option.some.inj h).symm
  | x :: l, i, k, r, h => by
    unfold findA at h
    split at h
    · split at h
      · cases h
      · rcases findA_range tb nm l (i + 1) i r h with h1 | h1
        · exact .inr (by rw [List.length_cons]; omega)
        · exact .inr (by rw [List.length_cons]; omega)
    · rcases findA_range tb nm l (i + 1) k r h with h1 | h1
      · exact .inl h1
      · exact .inr (by rw [List.length_cons]; omega)
theorem xcells_inj {x y : XC} (h : xcells x = xcells y) : x = y := by
  obtain ⟨o1, ⟨a1, b1, c1⟩, d1, e1, f1, g1, h1⟩ := x
  obtain ⟨o2, ⟨a2, b2, c2⟩, d2, e2, f2, g2, h2⟩ := y
  simp only [xcells, List.cons.injEq, Value.int.injEq, Value.string.injEq, Value.slice.injEq, true_and, and_true] at h
  obtain ⟨rfl, rfl, rfl, rfl, rfl, rfl, rfl, rfl, rfl⟩ := h
  rfl
theorem RepX.un {V : View} {op : Int} {a : E} {x : XC} (h : RepX V (.un op a) x) : x.op = op ∧ (op = 3 ∨ op = 4) ∧ x.len = 1 ∧ ∃ p off xa, x.base = some ⟨p, off, none⟩ ∧ V.has p off (xcells xa) ∧ RepX V a xa := by
  obtain ⟨⟨h1, h2, h3, p, off, xa, h4, h5, h6⟩, _, p', off', xa', h4', h5', h6'⟩ := h
  rw [h4] at h4'
  simp only [Option.some.injEq, Addr.mk.injEq, and_true] at h4'
  obtain ⟨rfl, rfl⟩ := h4'
  obtain rfl := xcells_inj (has_det h5 h5' rfl)
  exact ⟨h1, h2, h3, p, off, xa, h4, h5, h6, h6'⟩
theorem RepX.bin {V : View} {op : Int} {a b : E} {x : XC} (h : RepX V (.bin op a b) x) : x.op = op ∧ (5 ≤ op ∧ op ≤ 15) ∧ x.len = 2 ∧ ∃ p off xa xb, x.base = some ⟨p, off, none⟩ ∧ V.has p off (xcells xa) ∧ V.has p (off + 7) (xcells xb) ∧ RepX V a xa ∧ RepX V b xb := by
  obtain ⟨⟨h1, h2, h3, p, off, xa, xb, h4, h5, h6, h7⟩, _, p', off', xa', xb', h4', h5', h6', h7'⟩ := h
  rw [h4] at h4'
  simp only [Option.some.injEq, Addr.mk.injEq, and_true] at h4'
  obtain ⟨rfl, rfl⟩ := h4'
  have e := has_det h5 h5' rfl
  have e1 : xcells xa = xcells xa' := (List.append_inj e rfl).1
  have e2 : xcells xb = xcells xb' := (List.append_inj e rfl).2
  obtain rfl := xcells_inj e1
  obtain rfl := xcells_inj e2
  refine ⟨h1, h2, h3, p, off, xa, xb, h4, fun i v hi => h5 i v ?_, fun i v hi => ?_, ⟨h6, h6'⟩, ⟨h7, h7'⟩⟩
  · rw [List.getElem?_append_left (List.getElem?_eq_some_iff.1 hi).1]; exact hi
  · have := h5 (7 + i) v (by rw [List.getElem?_append_right (by show 7 ≤ 7 + i; omega)]; rw [show 7 + i - (xcells xa).length = i by show 7 + i - 7 = i; omega]; exact hi)
    rw [Nat.add_assoc]; exact this
theorem atA_range {tb nm : ByteArray} {its : List Item} (h : (atA tb nm its).2 = 0) : 0 ≤ (atA tb nm its).1 ∧ (atA tb nm its).1 < its.length := by
  unfold atA at *
  split
  · rename_i h0; rw [h0] at h; simp at h
  · rename_i k h0
    rw [h0] at h
    simp only at h
    split
    · rename_i hk; rw [if_pos hk] at h; simp at h
    · rename_i hk
      rcases findA_range tb nm its 0 (-1) k h0 with h1 | h1
      · omega
      · exact ⟨by show 0 ≤ k; omega, by show k < _; omega⟩
/-- a kind, or an error -/
def KindR (v : Value) : Prop := ∃ k e, v = .tuple #[.int .i64 k, .int .i64 e]
theorem kind_spec (its : List Item) (kinds : List Int) (p off c q off2 d n m : Nat) (hn : n = its.length) (hm : m = its.length) : ∀ (e : E) (x : XC) (V : View), ColsAt V its kinds p off q off2 → RepX V e x → 
    PSpec 105 [.slice (some ⟨p, off, none⟩) n c, .slice (some ⟨q, off2, none⟩) m d, xagg x] V (fun v _ => KindR v)
  | .lit v, x, V, h, hx => by
    subst hn; subst hm
    obtain ⟨⟨hop, hv⟩, hl⟩ := hx
    obtain ⟨xop, xv, xtb, xnm, xbase, xlen, xcap⟩ := x
    have hl : xlen = 0 := hl
    have hop : xop = 1 := hop
    subst hop; subst hl
    refine does_of_zfun [] mixed (args := [.v _, .v _, .v _]) (ms := []) Try.func105 (by kernel_rfl) rfl ?_
    conv => whnf
    repeat' first
      | (refine br_t rfl ?_; conv => whnf)
      | (refine br_f rfl ?_; conv => whnf)
      | (refine IdxN.lit rfl rfl ?_; conv => whnf)
      | (intro _; conv => whnf)
    exact ret_pure ⟨_, _, rfl⟩
  | .col tb nm, x, V, h, hx => by
    subst hn; subst hm
    obtain ⟨⟨hop, hv⟩, hl⟩ := hx
    obtain ⟨xop, xv, xtb, xnm, xbase, xlen, xcap⟩ := x
    have hl : xlen = 0 := hl
    have hop : xop = 2 := hop
    subst hop; subst hl
    have hsm := h.small
    refine does_of_zfun [] mixed (args := [.v _, .v _, .v _]) (ms := []) Try.func105 (by kernel_rfl) rfl ?_
    conv => whnf
    repeat' first
      | (refine br_t rfl ?_; conv => whnf)
      | (refine br_f rfl ?_; conv => whnf)
      | (refine IdxN.lit rfl rfl ?_; conv => whnf)
      | (intro _; conv => whnf)
    refine CallN.pure (at_spec its its.length p c off ⟨2, xv, xtb, xnm, xbase, 0, xcap⟩ _ (h.hasI.mono (by repeat (first | exact View.le_refl _ | assumption | exact View.addU_le _ _ _ | refine View.le_trans ?_ (by assumption) | refine View.le_trans ?_ (View.addU_le _ _ _)))) (by omega) (by omega)) fun v V1 _ hV1 hv => ?_
    subst hv
    conv => whnf
    apply br <;> intro g1 <;> conv => whnf
    · repeat' first
        | (refine br_t rfl ?_; conv => whnf)
        | (refine br_f rfl ?_; conv => whnf)
        | (refine IdxN.lit rfl rfl ?_; conv => whnf)
        | (intro _; conv => whnf)
      exact ret_pure ⟨_, _, rfl⟩
    rw [List.take_length] at g1 ⊢
    have g1 : (atA xtb xnm its).2 = 0 := by simpa using g1
    obtain ⟨h0, h1⟩ := atA_range g1
    obtain ⟨kk, hkk⟩ := Int.eq_ofNat_of_zero_le h0
    have hlen := h.len
    obtain ⟨kv, hkv⟩ : ∃ y, kinds[kk]? = some y := ⟨_, List.getElem?_eq_getElem (by omega)⟩
    have hone := has_one h.hasK (i := kk) (c := .int .i64 kv) (by rw [List.getElem?_map, hkv]; rfl)
    refine IdxN.of (by show 0 ≤ (atA xtb xnm its).1; omega) (by show (atA xtb xnm its).1 < (its.length : Int); omega) ?_
    conv => whnf
    refine LoadN.of (hone.mono (by repeat (first | exact View.le_refl _ | assumption | exact View.addU_le _ _ _ | refine View.le_trans ?_ (by assumption) | refine View.le_trans ?_ (View.addU_le _ _ _)))) 0 (by show off2 + ((atA xtb xnm its).1).toNat * 1 = off2 + kk + 0; rw [hkk]; omega) rfl ?_
    conv => whnf
    repeat' first
      | (refine br_t rfl ?_; conv => whnf)
      | (refine br_f rfl ?_; conv => whnf)
      | (refine IdxN.lit rfl rfl ?_; conv => whnf)
      | (intro _; conv => whnf)
    exact ret_pure ⟨_, _, rfl⟩
  | .un op a, x, V, h, hx => by
    have ih := kind_spec its kinds p off c q off2 d n m hn hm a
    subst hn; subst hm
    obtain ⟨hop, ho, hl, p2, o2, xa, hb, hxa, hra⟩ := hx.un
    obtain ⟨xop, xv, xtb, xnm, xbase, xlen, xcap⟩ := x
    simp only at hop hl hb
    subst hop; subst hl; subst hb
    refine does_of_zfun [] mixed (args := [.v _, .v _, .v _]) (ms := []) Try.func105 (by kernel_rfl) rfl ?_
    obtain ⟨ya, yv, ytb, ynm, ybase, ylen, ycap⟩ := xa
    rcases ho with rfl | rfl
    · conv => whnf
      repeat' first
        | (refine br_t rfl ?_; conv => whnf)
        | (refine br_f rfl ?_; conv => whnf)
        | (refine IdxN.lit rfl rfl ?_; conv => whnf)
        | (intro _; conv => whnf)
      refine unrollz 2 ?_
      conv => whnf
      repeat' first
        | (refine br_t rfl ?_; conv => whnf)
        | (refine br_f rfl ?_; conv => whnf)
        | (refine IdxN.lit rfl rfl ?_; conv => whnf)
        | (intro _; conv => whnf)
      refine LoadN.of (hxa.mono (by repeat (first | exact View.le_refl _ | assumption | exact View.addU_le _ _ _ | refine View.le_trans ?_ (by assumption) | refine View.le_trans ?_ (View.addU_le _ _ _)))) 0 rfl rfl ?_
      conv => whnf
      refine CallN.pure (ih ⟨ya, yv, ytb, ynm, ybase, ylen, ycap⟩ _ (h.mono (by repeat (first | exact View.le_refl _ | assumption | exact View.addU_le _ _ _ | refine View.le_trans ?_ (by assumption) | refine View.le_trans ?_ (View.addU_le _ _ _)))) (hra.mono (by repeat (first | exact View.le_refl _ | assumption | exact View.addU_le _ _ _ | refine View.le_trans ?_ (by assumption) | refine View.le_trans ?_ (View.addU_le _ _ _))))) fun v V1 _ hV1 ⟨k1, e1, hv⟩ => ?_
      subst hv
      conv => whnf
      apply br <;> intro g1 <;> conv => whnf
      · repeat' first
          | (refine br_t rfl ?_; conv => whnf)
          | (refine br_f rfl ?_; conv => whnf)
          | (refine IdxN.lit rfl rfl ?_; conv => whnf)
          | (intro _; conv => whnf)
        exact ret_pure ⟨_, _, rfl⟩
      repeat' first
        | (refine br_t rfl ?_; conv => whnf)
        | (refine br_f rfl ?_; conv => whnf)
        | (refine IdxN.lit rfl rfl ?_; conv => whnf)
        | (intro _; conv => whnf)
      rename_i lb Vl hVl lk
      refine AppN.to 1 rfl [] [.int .i64 k1] rfl rfl lk rfl rfl (by decide) (by decide) fun base' cap' V3 hV3 hc3 => ?_
      conv => whnf
      obtain ⟨pl, ol, hbl, hll⟩ := cells_some hc3 (by intro h; cases h)
      subst hbl
      repeat' first
        | (refine br_t rfl ?_; conv => whnf)
        | (refine br_f rfl ?_; conv => whnf)
        | (refine IdxN.lit rfl rfl ?_; conv => whnf)
        | (intro _; conv => whnf)
      refine unrollz 2 ?_
      conv => whnf
      repeat' first
        | (refine br_t rfl ?_; conv => whnf)
        | (refine br_f rfl ?_; conv => whnf)
        | (refine IdxN.lit rfl rfl ?_; conv => whnf)
        | (intro _; conv => whnf)
      refine LoadN.of (hll.mono (by repeat (first | exact View.le_refl _ | assumption | exact View.addU_le _ _ _ | refine View.le_trans ?_ (by assumption) | refine View.le_trans ?_ (View.addU_le _ _ _)))) 0 rfl rfl ?_
      conv => whnf
      apply br <;> intro g2 <;> conv => whnf
      · repeat' first
          | (refine br_t rfl ?_; conv => whnf)
          | (refine br_f rfl ?_; conv => whnf)
          | (refine IdxN.lit rfl rfl ?_; conv => whnf)
          | (intro _; conv => whnf)
        exact ret_pure ⟨_, _, rfl⟩
      repeat' first
        | (refine br_t rfl ?_; conv => whnf)
        | (refine br_f rfl ?_; conv => whnf)
        | (refine IdxN.lit rfl rfl ?_; conv => whnf)
        | (intro _; conv => whnf)
      exact ret_pure ⟨_, _, rfl⟩
    · conv => whnf
      repeat' first
        | (refine br_t rfl ?_; conv => whnf)
        | (refine br_f rfl ?_; conv => whnf)
        | (refine IdxN.lit rfl rfl ?_; conv => whnf)
        | (intro _; conv => whnf)
      refine unrollz 2 ?_
      conv => whnf
      repeat' first
        | (refine br_t rfl ?_; conv => whnf)
        | (refine br_f rfl ?_; conv => whnf)
        | (refine IdxN.lit rfl rfl ?_; conv => whnf)
        | (intro _; conv => whnf)
      refine LoadN.of (hxa.mono (by repeat (first | exact View.le_refl _ | assumption | exact View.addU_le _ _ _ | refine View.le_trans ?_ (by assumption) | refine View.le_trans ?_ (View.addU_le _ _ _)))) 0 rfl rfl ?_
      conv => whnf
      refine CallN.pure (ih ⟨ya, yv, ytb, ynm, ybase, ylen, ycap⟩ _ (h.mono (by repeat (first | exact View.le_refl _ | assumption | exact View.addU_le _ _ _ | refine View.le_trans ?_ (by assumption) | refine View.le_trans ?_ (View.addU_le _ _ _)))) (hra.mono (by repeat (first | exact View.le_refl _ | assumption | exact View.addU_le _ _ _ | refine View.le_trans ?_ (by assumption) | refine View.le_trans ?_ (View.addU_le _ _ _))))) fun v V1 _ hV1 ⟨k1, e1, hv⟩ => ?_
      subst hv
      conv => whnf
      apply br <;> intro g1 <;> conv => whnf
      · repeat' first
          | (refine br_t rfl ?_; conv => whnf)
          | (refine br_f rfl ?_; conv => whnf)
          | (refine IdxN.lit rfl rfl ?_; conv => whnf)
          | (intro _; conv => whnf)
        exact ret_pure ⟨_, _, rfl⟩
      repeat' first
        | (refine br_t rfl ?_; conv => whnf)
        | (refine br_f rfl ?_; conv => whnf)
        | (refine IdxN.lit rfl rfl ?_; conv => whnf)
        | (intro _; conv => whnf)
      rename_i lb Vl hVl lk
      refine AppN.to 1 rfl [] [.int .i64 k1] rfl rfl lk rfl rfl (by decide) (by decide) fun base' cap' V3 hV3 hc3 => ?_
      conv => whnf
      obtain ⟨pl, ol, hbl, hll⟩ := cells_some hc3 (by intro h; cases h)
      subst hbl
      repeat' first
        | (refine br_t rfl ?_; conv => whnf)
        | (refine br_f rfl ?_; conv => whnf)
        | (refine IdxN.lit rfl rfl ?_; conv => whnf)
        | (intro _; conv => whnf)
      refine unrollz 2 ?_
      conv => whnf
      repeat' first
        | (refine br_t rfl ?_; conv => whnf)
        | (refine br_f rfl ?_; conv => whnf)
        | (refine IdxN.lit rfl rfl ?_; conv => whnf)
        | (intro _; conv => whnf)
      refine LoadN.of (hll.mono (by repeat (first | exact View.le_refl _ | assumption | exact View.addU_le _ _ _ | refine View.le_trans ?_ (by assumption) | refine View.le_trans ?_ (View.addU_le _ _ _)))) 0 rfl rfl ?_
      conv => whnf
      apply br <;> intro g2 <;> conv => whnf
      · repeat' first
          | (refine br_t rfl ?_; conv => whnf)
          | (refine br_f rfl ?_; conv => whnf)
          | (refine IdxN.lit rfl rfl ?_; conv => whnf)
          | (intro _; conv => whnf)
        exact ret_pure ⟨_, _, rfl⟩
      repeat' first
        | (refine br_t rfl ?_; conv => whnf)
        | (refine br_f rfl ?_; conv => whnf)
        | (refine IdxN.lit rfl rfl ?_; conv => whnf)
        | (intro _; conv => whnf)
      exact ret_pure ⟨_, _, rfl⟩
  | .bin op a b, x, V, h, hx => by
    have ih1 := kind_spec its kinds p off c q off2 d n m hn hm a
    have ih2 := kind_spec its kinds p off c q off2 d n m hn hm b
    subst hn; subst hm
    obtain ⟨hop, ho, hl, p2, o2, xa, xb, hb, hxa, hxb, hra, hrb⟩ := hx.bin
    obtain ⟨xop, xv, xtb, xnm, xbase, xlen, xcap⟩ := x
    simp only at hop hl hb
    subst hop; subst hl; subst hb
    refine does_of_zfun [] mixed (args := [.v _, .v _, .v _]) (ms := []) Try.func105 (by kernel_rfl) rfl ?_
    obtain ⟨ya, yv, ytb, ynm, ybase, ylen, ycap⟩ := xa
    obtain ⟨za, zv, ztb, znm, zbase, zlen, zcap⟩ := xb
    have f1 : (xop == 1) = false := by simp; omega
    have f2 : (xop == 2) = false := by simp; omega
    have f3 : (xop == 3) = false := by simp; omega
    have f4 : (xop == 4) = false := by simp; omega
    have f5 : decide (xop < 1) = false := decide_eq_false (by omega)
    have f6 : decide (xop > 15) = false := decide_eq_false (by omega)
    conv => whnf
    repeat (first | (intro _; conv => whnf) | (refine br_t rfl ?_; conv => whnf) | (refine br_f rfl ?_; conv => whnf) | (refine IdxN.lit rfl rfl ?_; conv => whnf) | (refine br_f f1 ?_; conv => whnf) | (refine br_f f2 ?_; conv => whnf) | (refine br_f f3 ?_; conv => whnf) | (refine br_f f4 ?_; conv => whnf) | (refine br_f f5 ?_; conv => whnf) | (refine br_f f6 ?_; conv => whnf))
    refine unrollz 3 ?_
    conv => whnf
    repeat (first | (intro _; conv => whnf) | (refine br_t rfl ?_; conv => whnf) | (refine br_f rfl ?_; conv => whnf) | (refine IdxN.lit rfl rfl ?_; conv => whnf) | (refine br_f f1 ?_; conv => whnf) | (refine br_f f2 ?_; conv => whnf) | (refine br_f f3 ?_; conv => whnf) | (refine br_f f4 ?_; conv => whnf) | (refine br_f f5 ?_; conv => whnf) | (refine br_f f6 ?_; conv => whnf))
    refine LoadN.of (hxa.mono (by repeat (first | exact View.le_refl _ | assumption | exact View.addU_le _ _ _ | refine View.le_trans ?_ (by assumption) | refine View.le_trans ?_ (View.addU_le _ _ _)))) 0 rfl rfl ?_
    conv => whnf
    refine CallN.pure (ih1 ⟨ya, yv, ytb, ynm, ybase, ylen, ycap⟩ _ (h.mono (by repeat (first | exact View.le_refl _ | assumption | exact View.addU_le _ _ _ | refine View.le_trans ?_ (by assumption) | refine View.le_trans ?_ (View.addU_le _ _ _)))) (hra.mono (by repeat (first | exact View.le_refl _ | assumption | exact View.addU_le _ _ _ | refine View.le_trans ?_ (by assumption) | refine View.le_trans ?_ (View.addU_le _ _ _))))) fun v V1 _ hV1 ⟨k1, e1, hv⟩ => ?_
    subst hv
    conv => whnf
    apply br <;> intro g1 <;> conv => whnf
    · repeat' first
        | (refine br_t rfl ?_; conv => whnf)
        | (refine br_f rfl ?_; conv => whnf)
        | (refine IdxN.lit rfl rfl ?_; conv => whnf)
        | (intro _; conv => whnf)
      exact ret_pure ⟨_, _, rfl⟩
    repeat (first | (intro _; conv => whnf) | (refine br_t rfl ?_; conv => whnf) | (refine br_f rfl ?_; conv => whnf) | (refine IdxN.lit rfl rfl ?_; conv => whnf) | (refine br_f f1 ?_; conv => whnf) | (refine br_f f2 ?_; conv => whnf) | (refine br_f f3 ?_; conv => whnf) | (refine br_f f4 ?_; conv => whnf) | (refine br_f f5 ?_; conv => whnf) | (refine br_f f6 ?_; conv => whnf))
    rename_i lb Vl hVl lk
    refine AppN.to 1 rfl [] [.int .i64 k1] rfl rfl lk rfl rfl (by decide) (by decide) fun base' cap' V3 hV3 hc3 => ?_
    conv => whnf
    repeat (first | (intro _; conv => whnf) | (refine br_t rfl ?_; conv => whnf) | (refine br_f rfl ?_; conv => whnf) | (refine IdxN.lit rfl rfl ?_; conv => whnf) | (refine br_f f1 ?_; conv => whnf) | (refine br_f f2 ?_; conv => whnf) | (refine br_f f3 ?_; conv => whnf) | (refine br_f f4 ?_; conv => whnf) | (refine br_f f5 ?_; conv => whnf) | (refine br_f f6 ?_; conv => whnf))
    refine LoadN.of (hxb.mono (by repeat (first | exact View.le_refl _ | assumption | exact View.addU_le _ _ _ | refine View.le_trans ?_ (by assumption) | refine View.le_trans ?_ (View.addU_le _ _ _)))) 0 rfl rfl ?_
    conv => whnf
    refine CallN.pure (ih2 ⟨za, zv, ztb, znm, zbase, zlen, zcap⟩ _ (h.mono (by repeat (first | exact View.le_refl _ | assumption | exact View.addU_le _ _ _ | refine View.le_trans ?_ (by assumption) | refine View.le_trans ?_ (View.addU_le _ _ _)))) (hrb.mono (by repeat (first | exact View.le_refl _ | assumption | exact View.addU_le _ _ _ | refine View.le_trans ?_ (by assumption) | refine View.le_trans ?_ (View.addU_le _ _ _))))) fun v V4 _ hV4 ⟨k2, e2, hv⟩ => ?_
    subst hv
    conv => whnf
    apply br <;> intro g2 <;> conv => whnf
    · repeat' first
        | (refine br_t rfl ?_; conv => whnf)
        | (refine br_f rfl ?_; conv => whnf)
        | (refine IdxN.lit rfl rfl ?_; conv => whnf)
        | (intro _; conv => whnf)
      exact ret_pure ⟨_, _, rfl⟩
    repeat (first | (intro _; conv => whnf) | (refine br_t rfl ?_; conv => whnf) | (refine br_f rfl ?_; conv => whnf) | (refine IdxN.lit rfl rfl ?_; conv => whnf) | (refine br_f f1 ?_; conv => whnf) | (refine br_f f2 ?_; conv => whnf) | (refine br_f f3 ?_; conv => whnf) | (refine br_f f4 ?_; conv => whnf) | (refine br_f f5 ?_; conv => whnf) | (refine br_f f6 ?_; conv => whnf))
    rename_i lb2 Vl2 hVl2 lk2
    refine AppN.to 2 rfl [.int .i64 k1] [.int .i64 k2] (hc3.mono (by repeat (first | exact View.le_refl _ | assumption | exact View.addU_le _ _ _ | refine View.le_trans ?_ (by assumption) | refine View.le_trans ?_ (View.addU_le _ _ _)))) rfl lk2 rfl rfl (by decide) (by decide) fun base2 cap2 V5 hV5 hc5 => ?_
    conv => whnf
    obtain ⟨pl, ol, hbl, hll⟩ := cells_some hc5 (by intro h; cases h)
    subst hbl
    repeat (first | (intro _; conv => whnf) | (refine br_t rfl ?_; conv => whnf) | (refine br_f rfl ?_; conv => whnf) | (refine IdxN.lit rfl rfl ?_; conv => whnf) | (refine br_f f1 ?_; conv => whnf) | (refine br_f f2 ?_; conv => whnf) | (refine br_f f3 ?_; conv => whnf) | (refine br_f f4 ?_; conv => whnf) | (refine br_f f5 ?_; conv => whnf) | (refine br_f f6 ?_; conv => whnf))
    apply br <;> intro g14 <;> conv => whnf
    · repeat (first | (intro _; conv => whnf) | (refine br_t rfl ?_; conv => whnf) | (refine br_f rfl ?_; conv => whnf) | (refine IdxN.lit rfl rfl ?_; conv => whnf) | (refine br_f f1 ?_; conv => whnf) | (refine br_f f2 ?_; conv => whnf) | (refine br_f f3 ?_; conv => whnf) | (refine br_f f4 ?_; conv => whnf) | (refine br_f f5 ?_; conv => whnf) | (refine br_f f6 ?_; conv => whnf))
      refine unrollz 3 ?_
      conv => whnf
      repeat (first | (intro _; conv => whnf) | (refine br_t rfl ?_; conv => whnf) | (refine br_f rfl ?_; conv => whnf) | (refine IdxN.lit rfl rfl ?_; conv => whnf) | (refine br_f f1 ?_; conv => whnf) | (refine br_f f2 ?_; conv => whnf) | (refine br_f f3 ?_; conv => whnf) | (refine br_f f4 ?_; conv => whnf) | (refine br_f f5 ?_; conv => whnf) | (refine br_f f6 ?_; conv => whnf))
      refine LoadN.of (hll.mono (by repeat (first | exact View.le_refl _ | assumption | exact View.addU_le _ _ _ | refine View.le_trans ?_ (by assumption) | refine View.le_trans ?_ (View.addU_le _ _ _)))) 0 rfl rfl ?_
      conv => whnf
      apply br <;> intro c1 <;> conv => whnf
      · repeat' first
          | (refine br_t rfl ?_; conv => whnf)
          | (refine br_f rfl ?_; conv => whnf)
          | (refine IdxN.lit rfl rfl ?_; conv => whnf)
          | (intro _; conv => whnf)
        exact ret_pure ⟨_, _, rfl⟩
      repeat (first | (intro _; conv => whnf) | (refine br_t rfl ?_; conv => whnf) | (refine br_f rfl ?_; conv => whnf) | (refine IdxN.lit rfl rfl ?_; conv => whnf) | (refine br_f f1 ?_; conv => whnf) | (refine br_f f2 ?_; conv => whnf) | (refine br_f f3 ?_; conv => whnf) | (refine br_f f4 ?_; conv => whnf) | (refine br_f f5 ?_; conv => whnf) | (refine br_f f6 ?_; conv => whnf))
      refine LoadN.of (hll.mono (by repeat (first | exact View.le_refl _ | assumption | exact View.addU_le _ _ _ | refine View.le_trans ?_ (by assumption) | refine View.le_trans ?_ (View.addU_le _ _ _)))) 1 rfl rfl ?_
      conv => whnf
      apply br <;> intro c2 <;> conv => whnf
      · repeat' first
          | (refine br_t rfl ?_; conv => whnf)
          | (refine br_f rfl ?_; conv => whnf)
          | (refine IdxN.lit rfl rfl ?_; conv => whnf)
          | (intro _; conv => whnf)
        exact ret_pure ⟨_, _, rfl⟩
      repeat (first | (intro _; conv => whnf) | (refine br_t rfl ?_; conv => whnf) | (refine br_f rfl ?_; conv => whnf) | (refine IdxN.lit rfl rfl ?_; conv => whnf) | (refine br_f f1 ?_; conv => whnf) | (refine br_f f2 ?_; conv => whnf) | (refine br_f f3 ?_; conv => whnf) | (refine br_f f4 ?_; conv => whnf) | (refine br_f f5 ?_; conv => whnf) | (refine br_f f6 ?_; conv => whnf))
      exact ret_pure ⟨_, _, rfl⟩
    · repeat (first | (intro _; conv => whnf) | (refine br_t rfl ?_; conv => whnf) | (refine br_f rfl ?_; conv => whnf) | (refine IdxN.lit rfl rfl ?_; conv => whnf) | (refine br_f f1 ?_; conv => whnf) | (refine br_f f2 ?_; conv => whnf) | (refine br_f f3 ?_; conv => whnf) | (refine br_f f4 ?_; conv => whnf) | (refine br_f f5 ?_; conv => whnf) | (refine br_f f6 ?_; conv => whnf))
      apply br <;> intro g8 <;> conv => whnf
      · repeat (first | (intro _; conv => whnf) | (refine br_t rfl ?_; conv => whnf) | (refine br_f rfl ?_; conv => whnf) | (refine IdxN.lit rfl rfl ?_; conv => whnf) | (refine br_f f1 ?_; conv => whnf) | (refine br_f f2 ?_; conv => whnf) | (refine br_f f3 ?_; conv => whnf) | (refine br_f f4 ?_; conv => whnf) | (refine br_f f5 ?_; conv => whnf) | (refine br_f f6 ?_; conv => whnf))
        refine LoadN.of (hll.mono (by repeat (first | exact View.le_refl _ | assumption | exact View.addU_le _ _ _ | refine View.le_trans ?_ (by assumption) | refine View.le_trans ?_ (View.addU_le _ _ _)))) 0 rfl rfl ?_
        conv => whnf
        repeat (first | (intro _; conv => whnf) | (refine br_t rfl ?_; conv => whnf) | (refine br_f rfl ?_; conv => whnf) | (refine IdxN.lit rfl rfl ?_; conv => whnf) | (refine br_f f1 ?_; conv => whnf) | (refine br_f f2 ?_; conv => whnf) | (refine br_f f3 ?_; conv => whnf) | (refine br_f f4 ?_; conv => whnf) | (refine br_f f5 ?_; conv => whnf) | (refine br_f f6 ?_; conv => whnf))
        apply br <;> intro g9 <;> conv => whnf
        · repeat (first | (intro _; conv => whnf) | (refine br_t rfl ?_; conv => whnf) | (refine br_f rfl ?_; conv => whnf) | (refine IdxN.lit rfl rfl ?_; conv => whnf) | (refine br_f f1 ?_; conv => whnf) | (refine br_f f2 ?_; conv => whnf) | (refine br_f f3 ?_; conv => whnf) | (refine br_f f4 ?_; conv => whnf) | (refine br_f f5 ?_; conv => whnf) | (refine br_f f6 ?_; conv => whnf))
          apply br <;> intro g10 <;> conv => whnf
          · repeat (first | (intro _; conv => whnf) | (refine br_t rfl ?_; conv => whnf) | (refine br_f rfl ?_; conv => whnf) | (refine IdxN.lit rfl rfl ?_; conv => whnf) | (refine br_f f1 ?_; conv => whnf) | (refine br_f f2 ?_; conv => whnf) | (refine br_f f3 ?_; conv => whnf) | (refine br_f f4 ?_; conv => whnf) | (refine br_f f5 ?_; conv => whnf) | (refine br_f f6 ?_; conv => whnf))
            exact ret_pure ⟨_, _, rfl⟩
          · repeat (first | (intro _; conv => whnf) | (refine br_t rfl ?_; conv => whnf) | (refine br_f rfl ?_; conv => whnf) | (refine IdxN.lit rfl rfl ?_; conv => whnf) | (refine br_f f1 ?_; conv => whnf) | (refine br_f f2 ?_; conv => whnf) | (refine br_f f3 ?_; conv => whnf) | (refine br_f f4 ?_; conv => whnf) | (refine br_f f5 ?_; conv => whnf) | (refine br_f f6 ?_; conv => whnf))
            refine unrollz 3 ?_
            conv => whnf
            repeat (first | (intro _; conv => whnf) | (refine br_t rfl ?_; conv => whnf) | (refine br_f rfl ?_; conv => whnf) | (refine IdxN.lit rfl rfl ?_; conv => whnf) | (refine br_f f1 ?_; conv => whnf) | (refine br_f f2 ?_; conv => whnf) | (refine br_f f3 ?_; conv => whnf) | (refine br_f f4 ?_; conv => whnf) | (refine br_f f5 ?_; conv => whnf) | (refine br_f f6 ?_; conv => whnf))
            refine LoadN.of (hll.mono (by repeat (first | exact View.le_refl _ | assumption | exact View.addU_le _ _ _ | refine View.le_trans ?_ (by assumption) | refine View.le_trans ?_ (View.addU_le _ _ _)))) 0 rfl rfl ?_
            conv => whnf
            apply br <;> intro c1 <;> conv => whnf
            · repeat' first
                | (refine br_t rfl ?_; conv => whnf)
                | (refine br_f rfl ?_; conv => whnf)
                | (refine IdxN.lit rfl rfl ?_; conv => whnf)
                | (intro _; conv => whnf)
              exact ret_pure ⟨_, _, rfl⟩
            repeat (first | (intro _; conv => whnf) | (refine br_t rfl ?_; conv => whnf) | (refine br_f rfl ?_; conv => whnf) | (refine IdxN.lit rfl rfl ?_; conv => whnf) | (refine br_f f1 ?_; conv => whnf) | (refine br_f f2 ?_; conv => whnf) | (refine br_f f3 ?_; conv => whnf) | (refine br_f f4 ?_; conv => whnf) | (refine br_f f5 ?_; conv => whnf) | (refine br_f f6 ?_; conv => whnf))
            refine LoadN.of (hll.mono (by repeat (first | exact View.le_refl _ | assumption | exact View.addU_le _ _ _ | refine View.le_trans ?_ (by assumption) | refine View.le_trans ?_ (View.addU_le _ _ _)))) 1 rfl rfl ?_
            conv => whnf
            apply br <;> intro c2 <;> conv => whnf
            · repeat' first
                | (refine br_t rfl ?_; conv => whnf)
                | (refine br_f rfl ?_; conv => whnf)
                | (refine IdxN.lit rfl rfl ?_; conv => whnf)
                | (intro _; conv => whnf)
              exact ret_pure ⟨_, _, rfl⟩
            repeat (first | (intro _; conv => whnf) | (refine br_t rfl ?_; conv => whnf) | (refine br_f rfl ?_; conv => whnf) | (refine IdxN.lit rfl rfl ?_; conv => whnf) | (refine br_f f1 ?_; conv => whnf) | (refine br_f f2 ?_; conv => whnf) | (refine br_f f3 ?_; conv => whnf) | (refine br_f f4 ?_; conv => whnf) | (refine br_f f5 ?_; conv => whnf) | (refine br_f f6 ?_; conv => whnf))
            exact ret_pure ⟨_, _, rfl⟩
        · repeat (first | (intro _; conv => whnf) | (refine br_t rfl ?_; conv => whnf) | (refine br_f rfl ?_; conv => whnf) | (refine IdxN.lit rfl rfl ?_; conv => whnf) | (refine br_f f1 ?_; conv => whnf) | (refine br_f f2 ?_; conv => whnf) | (refine br_f f3 ?_; conv => whnf) | (refine br_f f4 ?_; conv => whnf) | (refine br_f f5 ?_; conv => whnf) | (refine br_f f6 ?_; conv => whnf))
          refine unrollz 3 ?_
          conv => whnf
          repeat (first | (intro _; conv => whnf) | (refine br_t rfl ?_; conv => whnf) | (refine br_f rfl ?_; conv => whnf) | (refine IdxN.lit rfl rfl ?_; conv => whnf) | (refine br_f f1 ?_; conv => whnf) | (refine br_f f2 ?_; conv => whnf) | (refine br_f f3 ?_; conv => whnf) | (refine br_f f4 ?_; conv => whnf) | (refine br_f f5 ?_; conv => whnf) | (refine br_f f6 ?_; conv => whnf))
          refine LoadN.of (hll.mono (by repeat (first | exact View.le_refl _ | assumption | exact View.addU_le _ _ _ | refine View.le_trans ?_ (by assumption) | refine View.le_trans ?_ (View.addU_le _ _ _)))) 0 rfl rfl ?_
          conv => whnf
          apply br <;> intro c1 <;> conv => whnf
          · repeat' first
              | (refine br_t rfl ?_; conv => whnf)
              | (refine br_f rfl ?_; conv => whnf)
              | (refine IdxN.lit rfl rfl ?_; conv => whnf)
              | (intro _; conv => whnf)
            exact ret_pure ⟨_, _, rfl⟩
          repeat (first | (intro _; conv => whnf) | (refine br_t rfl ?_; conv => whnf) | (refine br_f rfl ?_; conv => whnf) | (refine IdxN.lit rfl rfl ?_; conv => whnf) | (refine br_f f1 ?_; conv => whnf) | (refine br_f f2 ?_; conv => whnf) | (refine br_f f3 ?_; conv => whnf) | (refine br_f f4 ?_; conv => whnf) | (refine br_f f5 ?_; conv => whnf) | (refine br_f f6 ?_; conv => whnf))
          refine LoadN.of (hll.mono (by repeat (first | exact View.le_refl _ | assumption | exact View.addU_le _ _ _ | refine View.le_trans ?_ (by assumption) | refine View.le_trans ?_ (View.addU_le _ _ _)))) 1 rfl rfl ?_
          conv => whnf
          apply br <;> intro c2 <;> conv => whnf
          · repeat' first
              | (refine br_t rfl ?_; conv => whnf)
              | (refine br_f rfl ?_; conv => whnf)
              | (refine IdxN.lit rfl rfl ?_; conv => whnf)
              | (intro _; conv => whnf)
            exact ret_pure ⟨_, _, rfl⟩
          repeat (first | (intro _; conv => whnf) | (refine br_t rfl ?_; conv => whnf) | (refine br_f rfl ?_; conv => whnf) | (refine IdxN.lit rfl rfl ?_; conv => whnf) | (refine br_f f1 ?_; conv => whnf) | (refine br_f f2 ?_; conv => whnf) | (refine br_f f3 ?_; conv => whnf) | (refine br_f f4 ?_; conv => whnf) | (refine br_f f5 ?_; conv => whnf) | (refine br_f f6 ?_; conv => whnf))
          exact ret_pure ⟨_, _, rfl⟩
      · repeat (first | (intro _; conv => whnf) | (refine br_t rfl ?_; conv => whnf) | (refine br_f rfl ?_; conv => whnf) | (refine IdxN.lit rfl rfl ?_; conv => whnf) | (refine br_f f1 ?_; conv => whnf) | (refine br_f f2 ?_; conv => whnf) | (refine br_f f3 ?_; conv => whnf) | (refine br_f f4 ?_; conv => whnf) | (refine br_f f5 ?_; conv => whnf) | (refine br_f f6 ?_; conv => whnf))
        refine unrollz 3 ?_
        conv => whnf
        repeat (first | (intro _; conv => whnf) | (refine br_t rfl ?_; conv => whnf) | (refine br_f rfl ?_; conv => whnf) | (refine IdxN.lit rfl rfl ?_; conv => whnf) | (refine br_f f1 ?_; conv => whnf) | (refine br_f f2 ?_; conv => whnf) | (refine br_f f3 ?_; conv => whnf) | (refine br_f f4 ?_; conv => whnf) | (refine br_f f5 ?_; conv => whnf) | (refine br_f f6 ?_; conv => whnf))
        refine LoadN.of (hll.mono (by repeat (first | exact View.le_refl _ | assumption | exact View.addU_le _ _ _ | refine View.le_trans ?_ (by assumption) | refine View.le_trans ?_ (View.addU_le _ _ _)))) 0 rfl rfl ?_
        conv => whnf
        apply br <;> intro c1 <;> conv => whnf
        · repeat' first
            | (refine br_t rfl ?_; conv => whnf)
            | (refine br_f rfl ?_; conv => whnf)
            | (refine IdxN.lit rfl rfl ?_; conv => whnf)
            | (intro _; conv => whnf)
          exact ret_pure ⟨_, _, rfl⟩
        repeat (first | (intro _; conv => whnf) | (refine br_t rfl ?_; conv => whnf) | (refine br_f rfl ?_; conv => whnf) | (refine IdxN.lit rfl rfl ?_; conv => whnf) | (refine br_f f1 ?_; conv => whnf) | (refine br_f f2 ?_; conv => whnf) | (refine br_f f3 ?_; conv => whnf) | (refine br_f f4 ?_; conv => whnf) | (refine br_f f5 ?_; conv => whnf) | (refine br_f f6 ?_; conv => whnf))
        refine LoadN.of (hll.mono (by repeat (first | exact View.le_refl _ | assumption | exact View.addU_le _ _ _ | refine View.le_trans ?_ (by assumption) | refine View.le_trans ?_ (View.addU_le _ _ _)))) 1 rfl rfl ?_
        conv => whnf
        apply br <;> intro c2 <;> conv => whnf
        · repeat' first
            | (refine br_t rfl ?_; conv => whnf)
            | (refine br_f rfl ?_; conv => whnf)
            | (refine IdxN.lit rfl rfl ?_; conv => whnf)
            | (intro _; conv => whnf)
          exact ret_pure ⟨_, _, rfl⟩
        repeat (first | (intro _; conv => whnf) | (refine br_t rfl ?_; conv => whnf) | (refine br_f rfl ?_; conv => whnf) | (refine IdxN.lit rfl rfl ?_; conv => whnf) | (refine br_f f1 ?_; conv => whnf) | (refine br_f f2 ?_; conv => whnf) | (refine br_f f3 ?_; conv => whnf) | (refine br_f f4 ?_; conv => whnf) | (refine br_f f5 ?_; conv => whnf) | (refine br_f f6 ?_; conv => whnf))
        exact ret_pure ⟨_, _, rfl⟩
end Go.Proofs.Ytenpginanhnkbaa
end

section
set_option linter.unusedSimpArgs false
set_option linter.unusedVariables false
namespace Go.Proofs.Ytenpginanhnkbaa
open Go.X
set_option maxRecDepth 100000

theorem rwhere_spec (its : List Item) (kinds : List Int) (p off c q off2 d n m : Nat) (hn : n = its.length) (hm : m = its.length) (w : Option Addr × Nat × Nat) (V : View) (h : ColsAt V its kinds p off q off2) (hw : WhereAt V its kinds w) :
    PSpec 106 [.slice (some ⟨p, off, none⟩) n c, .slice (some ⟨q, off2, none⟩) m d, .slice w.1 w.2.1 w.2.2] V (fun v _ => ∃ e, v = .int .i64 e) := by
  rcases hw with rfl | ⟨g, e, x, rfl, hx, hr, hwt, _⟩
  · refine does_of_zfun [] mixed (args := [.v _, .v _, .v _]) (ms := []) Try.func106 (by kernel_rfl) rfl ?_
    conv => whnf
    repeat' first
      | (refine br_t rfl ?_; conv => whnf)
      | (refine br_f rfl ?_; conv => whnf)
      | (refine IdxN.lit rfl rfl ?_; conv => whnf)
      | (intro _; conv => whnf)
    refine unrollz 1 ?_
    conv => whnf
    repeat' first
      | (refine br_t rfl ?_; conv => whnf)
      | (refine br_f rfl ?_; conv => whnf)
      | (refine IdxN.lit rfl rfl ?_; conv => whnf)
      | (intro _; conv => whnf)
    exact ret_pure ⟨_, rfl⟩
  · refine does_of_zfun [] mixed (args := [.v _, .v _, .v _]) (ms := []) Try.func106 (by kernel_rfl) rfl ?_
    obtain ⟨xop, xv, xtb, xnm, xbase, xlen, xcap⟩ := x
    conv => whnf
    repeat' first
      | (refine br_t rfl ?_; conv => whnf)
      | (refine br_f rfl ?_; conv => whnf)
      | (refine IdxN.lit rfl rfl ?_; conv => whnf)
      | (intro _; conv => whnf)
    refine unrollz 2 ?_
    conv => whnf
    repeat' first
      | (refine br_t rfl ?_; conv => whnf)
      | (refine br_f rfl ?_; conv => whnf)
      | (refine IdxN.lit rfl rfl ?_; conv => whnf)
      | (intro _; conv => whnf)
    refine LoadN.of (hx.mono (by repeat (first | exact View.le_refl _ | assumption | exact View.addU_le _ _ _ | refine View.le_trans ?_ (by assumption) | refine View.le_trans ?_ (View.addU_le _ _ _)))) 0 rfl rfl ?_
    conv => whnf
    refine CallN.pure (kind_spec its kinds p off c q off2 d n m hn hm e ⟨xop, xv, xtb, xnm, xbase, xlen, xcap⟩ _ (h.mono (by repeat (first | exact View.le_refl _ | assumption | exact View.addU_le _ _ _ | refine View.le_trans ?_ (by assumption) | refine View.le_trans ?_ (View.addU_le _ _ _)))) (hr.mono (by repeat (first | exact View.le_refl _ | assumption | exact View.addU_le _ _ _ | refine View.le_trans ?_ (by assumption) | refine View.le_trans ?_ (View.addU_le _ _ _))))) fun v V1 _ hV1 ⟨k1, e1, hv⟩ => ?_
    subst hv
    conv => whnf
    apply br <;> intro g1 <;> conv => whnf
    · repeat' first
        | (refine br_t rfl ?_; conv => whnf)
        | (refine br_f rfl ?_; conv => whnf)
        | (refine IdxN.lit rfl rfl ?_; conv => whnf)
        | (intro _; conv => whnf)
      exact ret_pure ⟨_, rfl⟩
    repeat' first
      | (refine br_t rfl ?_; conv => whnf)
      | (refine br_f rfl ?_; conv => whnf)
      | (refine IdxN.lit rfl rfl ?_; conv => whnf)
      | (intro _; conv => whnf)
    apply br <;> intro g2 <;> conv => whnf
    · repeat' first
        | (refine br_t rfl ?_; conv => whnf)
        | (refine br_f rfl ?_; conv => whnf)
        | (refine IdxN.lit rfl rfl ?_; conv => whnf)
        | (intro _; conv => whnf)
      exact ret_pure ⟨_, rfl⟩
    repeat' first
      | (refine br_t rfl ?_; conv => whnf)
      | (refine br_f rfl ?_; conv => whnf)
      | (refine IdxN.lit rfl rfl ?_; conv => whnf)
      | (intro _; conv => whnf)
    exact ret_pure ⟨_, rfl⟩
/-- columns, as a list of expressions -/
def ColsL (V : View) (o : Option Addr × Nat × Nat) : Prop := o = (none, 0, 0) ∨ (∃ g tb nm, o = (some ⟨g, 0, none⟩, 1, 1) ∧ V.has g 0 (xcells (colN tb nm))) ∨ ∃ g tb1 nm1 tb2 nm2, o = (some ⟨g, 0, none⟩, 2, 2) ∧ V.has g 0 (xcells (colN tb1 nm1) ++ xcells (colN tb2 nm2))
theorem ColsL.mono {V V' : View} {o : Option Addr × Nat × Nat} (h : ColsL V o) (hV : V.le V') : ColsL V' o := by
  rcases h with h | ⟨g, tb, nm, h1, h2⟩ | ⟨g, tb1, nm1, tb2, nm2, h1, h2⟩
  · exact .inl h
  · exact .inr (.inl ⟨g, tb, nm, h1, h2.mono hV⟩)
  · exact .inr (.inr ⟨g, tb1, nm1, tb2, nm2, h1, h2.mono hV⟩)
theorem columns_spec (o : Option Addr × Nat × Nat) (V : View) (h : ColsL V o) : PSpec 103 [.slice o.1 o.2.1 o.2.2] V (fun v _ => ∃ b, v = .bool b) := by
  rcases h with rfl | ⟨g, tb, nm, rfl, h2⟩ | ⟨g, tb1, nm1, tb2, nm2, rfl, h2⟩
  · refine does_of_zfun [] mixed (args := [.v _]) (ms := []) Try.func103 (by kernel_rfl) rfl ?_
    conv => whnf
    repeat' first
      | (refine br_t rfl ?_; conv => whnf)
      | (refine br_f rfl ?_; conv => whnf)
      | (refine IdxN.lit rfl rfl ?_; conv => whnf)
      | (intro _; conv => whnf)
    refine unrollz 1 ?_
    conv => whnf
    repeat' first
      | (refine br_t rfl ?_; conv => whnf)
      | (refine br_f rfl ?_; conv => whnf)
      | (refine IdxN.lit rfl rfl ?_; conv => whnf)
      | (intro _; conv => whnf)
    exact ret_pure ⟨_, rfl⟩
  · refine does_of_zfun [] mixed (args := [.v _]) (ms := []) Try.func103 (by kernel_rfl) rfl ?_
    conv => whnf
    repeat' first
      | (refine br_t rfl ?_; conv => whnf)
      | (refine br_f rfl ?_; conv => whnf)
      | (refine IdxN.lit rfl rfl ?_; conv => whnf)
      | (intro _; conv => whnf)
    refine unrollz 2 ?_
    conv => whnf
    repeat' first
      | (refine br_t rfl ?_; conv => whnf)
      | (refine br_f rfl ?_; conv => whnf)
      | (refine IdxN.lit rfl rfl ?_; conv => whnf)
      | (intro _; conv => whnf)
    refine LoadN.of (h2.mono (by repeat (first | exact View.le_refl _ | assumption | exact View.addU_le _ _ _ | refine View.le_trans ?_ (by assumption) | refine View.le_trans ?_ (View.addU_le _ _ _)))) 0 rfl rfl ?_
    conv => whnf
    repeat' first
      | (refine br_t rfl ?_; conv => whnf)
      | (refine br_f rfl ?_; conv => whnf)
      | (refine IdxN.lit rfl rfl ?_; conv => whnf)
      | (intro _; conv => whnf)
    refine LoadN.of (h2.mono (by repeat (first | exact View.le_refl _ | assumption | exact View.addU_le _ _ _ | refine View.le_trans ?_ (by assumption) | refine View.le_trans ?_ (View.addU_le _ _ _)))) 6 rfl rfl ?_
    conv => whnf
    repeat' first
      | (refine br_t rfl ?_; conv => whnf)
      | (refine br_f rfl ?_; conv => whnf)
      | (refine IdxN.lit rfl rfl ?_; conv => whnf)
      | (intro _; conv => whnf)
    exact ret_pure ⟨_, rfl⟩
  · refine does_of_zfun [] mixed (args := [.v _]) (ms := []) Try.func103 (by kernel_rfl) rfl ?_
    conv => whnf
    repeat' first
      | (refine br_t rfl ?_; conv => whnf)
      | (refine br_f rfl ?_; conv => whnf)
      | (refine IdxN.lit rfl rfl ?_; conv => whnf)
      | (intro _; conv => whnf)
    refine unrollz 3 ?_
    conv => whnf
    repeat' first
      | (refine br_t rfl ?_; conv => whnf)
      | (refine br_f rfl ?_; conv => whnf)
      | (refine IdxN.lit rfl rfl ?_; conv => whnf)
      | (intro _; conv => whnf)
    refine LoadN.of (h2.mono (by repeat (first | exact View.le_refl _ | assumption | exact View.addU_le _ _ _ | refine View.le_trans ?_ (by assumption) | refine View.le_trans ?_ (View.addU_le _ _ _)))) 0 rfl rfl ?_
    conv => whnf
    repeat' first
      | (refine br_t rfl ?_; conv => whnf)
      | (refine br_f rfl ?_; conv => whnf)
      | (refine IdxN.lit rfl rfl ?_; conv => whnf)
      | (intro _; conv => whnf)
    refine LoadN.of (h2.mono (by repeat (first | exact View.le_refl _ | assumption | exact View.addU_le _ _ _ | refine View.le_trans ?_ (by assumption) | refine View.le_trans ?_ (View.addU_le _ _ _)))) 6 rfl rfl ?_
    conv => whnf
    repeat' first
      | (refine br_t rfl ?_; conv => whnf)
      | (refine br_f rfl ?_; conv => whnf)
      | (refine IdxN.lit rfl rfl ?_; conv => whnf)
      | (intro _; conv => whnf)
    refine LoadN.of (h2.mono (by repeat (first | exact View.le_refl _ | assumption | exact View.addU_le _ _ _ | refine View.le_trans ?_ (by assumption) | refine View.le_trans ?_ (View.addU_le _ _ _)))) 7 rfl rfl ?_
    conv => whnf
    repeat' first
      | (refine br_t rfl ?_; conv => whnf)
      | (refine br_f rfl ?_; conv => whnf)
      | (refine IdxN.lit rfl rfl ?_; conv => whnf)
      | (intro _; conv => whnf)
    refine LoadN.of (h2.mono (by repeat (first | exact View.le_refl _ | assumption | exact View.addU_le _ _ _ | refine View.le_trans ?_ (by assumption) | refine View.le_trans ?_ (View.addU_le _ _ _)))) 13 rfl rfl ?_
    conv => whnf
    repeat' first
      | (refine br_t rfl ?_; conv => whnf)
      | (refine br_f rfl ?_; conv => whnf)
      | (refine IdxN.lit rfl rfl ?_; conv => whnf)
      | (intro _; conv => whnf)
    exact ret_pure ⟨_, rfl⟩
theorem lists_spec (s : StV) (V : View) (hk : s.kind = 6) (ho : ColsL V s.on) (hd : ColsL V s.order) : PSpec 83 [stv s] V (fun v _ => ∃ b, v = .bool b) := by
  obtain ⟨skind, stb, snm, s3, s4, s5, sit, sjoin, son, swh, sord, sdesc, sinn⟩ := s
  have hk : skind = 6 := hk
  subst hk
  refine does_of_zfun [] mixed (args := [.v _]) (ms := []) Try.func83 (by kernel_rfl) rfl ?_
  conv => whnf
  repeat' first
    | (refine br_t rfl ?_; conv => whnf)
    | (refine br_f rfl ?_; conv => whnf)
    | (refine IdxN.lit rfl rfl ?_; conv => whnf)
    | (intro _; conv => whnf)
  apply br <;> intro g0 <;> conv => whnf
  · repeat (first | (intro _; conv => whnf) | (refine br_t rfl ?_; conv => whnf) | (refine br_f rfl ?_; conv => whnf) | (refine IdxN.lit rfl rfl ?_; conv => whnf) | (refine br_t g1 ?_; conv => whnf) | (refine br_f g1 ?_; conv => whnf) | (refine br_t g2 ?_; conv => whnf) | (refine br_f g2 ?_; conv => whnf) | (refine br_t g3 ?_; conv => whnf) | (refine br_f g3 ?_; conv => whnf) | (refine br_t g4 ?_; conv => whnf) | (refine br_f g4 ?_; conv => whnf) | (refine br_t g5 ?_; conv => whnf) | (refine br_f g5 ?_; conv => whnf) | (refine br_t g6 ?_; conv => whnf) | (refine br_f g6 ?_; conv => whnf))
    apply br <;> intro g1 <;> conv => whnf
    · repeat (first | (intro _; conv => whnf) | (refine br_t rfl ?_; conv => whnf) | (refine br_f rfl ?_; conv => whnf) | (refine IdxN.lit rfl rfl ?_; conv => whnf) | (refine br_t g1 ?_; conv => whnf) | (refine br_f g1 ?_; conv => whnf) | (refine br_t g2 ?_; conv => whnf) | (refine br_f g2 ?_; conv => whnf) | (refine br_t g3 ?_; conv => whnf) | (refine br_f g3 ?_; conv => whnf) | (refine br_t g4 ?_; conv => whnf) | (refine br_f g4 ?_; conv => whnf) | (refine br_t g5 ?_; conv => whnf) | (refine br_f g5 ?_; conv => whnf) | (refine br_t g6 ?_; conv => whnf) | (refine br_f g6 ?_; conv => whnf))
      apply br <;> intro g2 <;> conv => whnf
      · repeat (first | (intro _; conv => whnf) | (refine br_t rfl ?_; conv => whnf) | (refine br_f rfl ?_; conv => whnf) | (refine IdxN.lit rfl rfl ?_; conv => whnf) | (refine br_t g1 ?_; conv => whnf) | (refine br_f g1 ?_; conv => whnf) | (refine br_t g2 ?_; conv => whnf) | (refine br_f g2 ?_; conv => whnf) | (refine br_t g3 ?_; conv => whnf) | (refine br_f g3 ?_; conv => whnf) | (refine br_t g4 ?_; conv => whnf) | (refine br_f g4 ?_; conv => whnf) | (refine br_t g5 ?_; conv => whnf) | (refine br_f g5 ?_; conv => whnf) | (refine br_t g6 ?_; conv => whnf) | (refine br_f g6 ?_; conv => whnf))
        apply br <;> intro g3 <;> conv => whnf
        · repeat (first | (intro _; conv => whnf) | (refine br_t rfl ?_; conv => whnf) | (refine br_f rfl ?_; conv => whnf) | (refine IdxN.lit rfl rfl ?_; conv => whnf) | (refine br_t g1 ?_; conv => whnf) | (refine br_f g1 ?_; conv => whnf) | (refine br_t g2 ?_; conv => whnf) | (refine br_f g2 ?_; conv => whnf) | (refine br_t g3 ?_; conv => whnf) | (refine br_f g3 ?_; conv => whnf) | (refine br_t g4 ?_; conv => whnf) | (refine br_f g4 ?_; conv => whnf) | (refine br_t g5 ?_; conv => whnf) | (refine br_f g5 ?_; conv => whnf) | (refine br_t g6 ?_; conv => whnf) | (refine br_f g6 ?_; conv => whnf))
          refine CallN.pure (columns_spec son _ (ho.mono (by repeat (first | exact View.le_refl _ | assumption | exact View.addU_le _ _ _ | refine View.le_trans ?_ (by assumption) | refine View.le_trans ?_ (View.addU_le _ _ _))))) fun v V1 _ hV1 ⟨b1, hv⟩ => ?_
          subst hv
          conv => whnf
          repeat (first | (intro _; conv => whnf) | (refine br_t rfl ?_; conv => whnf) | (refine br_f rfl ?_; conv => whnf) | (refine IdxN.lit rfl rfl ?_; conv => whnf) | (refine br_t g1 ?_; conv => whnf) | (refine br_f g1 ?_; conv => whnf) | (refine br_t g2 ?_; conv => whnf) | (refine br_f g2 ?_; conv => whnf) | (refine br_t g3 ?_; conv => whnf) | (refine br_f g3 ?_; conv => whnf) | (refine br_t g4 ?_; conv => whnf) | (refine br_f g4 ?_; conv => whnf) | (refine br_t g5 ?_; conv => whnf) | (refine br_f g5 ?_; conv => whnf) | (refine br_t g6 ?_; conv => whnf) | (refine br_f g6 ?_; conv => whnf))
          apply br <;> intro g4 <;> conv => whnf
          · repeat (first | (intro _; conv => whnf) | (refine br_t rfl ?_; conv => whnf) | (refine br_f rfl ?_; conv => whnf) | (refine IdxN.lit rfl rfl ?_; conv => whnf) | (refine br_t g1 ?_; conv => whnf) | (refine br_f g1 ?_; conv => whnf) | (refine br_t g2 ?_; conv => whnf) | (refine br_f g2 ?_; conv => whnf) | (refine br_t g3 ?_; conv => whnf) | (refine br_f g3 ?_; conv => whnf) | (refine br_t g4 ?_; conv => whnf) | (refine br_f g4 ?_; conv => whnf) | (refine br_t g5 ?_; conv => whnf) | (refine br_f g5 ?_; conv => whnf) | (refine br_t g6 ?_; conv => whnf) | (refine br_f g6 ?_; conv => whnf))
            refine CallN.pure (columns_spec sord _ (hd.mono (by repeat (first | exact View.le_refl _ | assumption | exact View.addU_le _ _ _ | refine View.le_trans ?_ (by assumption) | refine View.le_trans ?_ (View.addU_le _ _ _))))) fun v V1 _ hV1 ⟨b2, hv⟩ => ?_
            subst hv
            conv => whnf
            repeat (first | (intro _; conv => whnf) | (refine br_t rfl ?_; conv => whnf) | (refine br_f rfl ?_; conv => whnf) | (refine IdxN.lit rfl rfl ?_; conv => whnf) | (refine br_t g1 ?_; conv => whnf) | (refine br_f g1 ?_; conv => whnf) | (refine br_t g2 ?_; conv => whnf) | (refine br_f g2 ?_; conv => whnf) | (refine br_t g3 ?_; conv => whnf) | (refine br_f g3 ?_; conv => whnf) | (refine br_t g4 ?_; conv => whnf) | (refine br_f g4 ?_; conv => whnf) | (refine br_t g5 ?_; conv => whnf) | (refine br_f g5 ?_; conv => whnf) | (refine br_t g6 ?_; conv => whnf) | (refine br_f g6 ?_; conv => whnf))
            exact ret_pure ⟨_, rfl⟩
          · repeat (first | (intro _; conv => whnf) | (refine br_t rfl ?_; conv => whnf) | (refine br_f rfl ?_; conv => whnf) | (refine IdxN.lit rfl rfl ?_; conv => whnf) | (refine br_t g1 ?_; conv => whnf) | (refine br_f g1 ?_; conv => whnf) | (refine br_t g2 ?_; conv => whnf) | (refine br_f g2 ?_; conv => whnf) | (refine br_t g3 ?_; conv => whnf) | (refine br_f g3 ?_; conv => whnf) | (refine br_t g4 ?_; conv => whnf) | (refine br_f g4 ?_; conv => whnf) | (refine br_t g5 ?_; conv => whnf) | (refine br_f g5 ?_; conv => whnf) | (refine br_t g6 ?_; conv => whnf) | (refine br_f g6 ?_; conv => whnf))
            exact ret_pure ⟨_, rfl⟩
        · repeat (first | (intro _; conv => whnf) | (refine br_t rfl ?_; conv => whnf) | (refine br_f rfl ?_; conv => whnf) | (refine IdxN.lit rfl rfl ?_; conv => whnf) | (refine br_t g1 ?_; conv => whnf) | (refine br_f g1 ?_; conv => whnf) | (refine br_t g2 ?_; conv => whnf) | (refine br_f g2 ?_; conv => whnf) | (refine br_t g3 ?_; conv => whnf) | (refine br_f g3 ?_; conv => whnf) | (refine br_t g4 ?_; conv => whnf) | (refine br_f g4 ?_; conv => whnf) | (refine br_t g5 ?_; conv => whnf) | (refine br_f g5 ?_; conv => whnf) | (refine br_t g6 ?_; conv => whnf) | (refine br_f g6 ?_; conv => whnf))
          exact ret_pure ⟨_, rfl⟩
      · repeat (first | (intro _; conv => whnf) | (refine br_t rfl ?_; conv => whnf) | (refine br_f rfl ?_; conv => whnf) | (refine IdxN.lit rfl rfl ?_; conv => whnf) | (refine br_t g1 ?_; conv => whnf) | (refine br_f g1 ?_; conv => whnf) | (refine br_t g2 ?_; conv => whnf) | (refine br_f g2 ?_; conv => whnf) | (refine br_t g3 ?_; conv => whnf) | (refine br_f g3 ?_; conv => whnf) | (refine br_t g4 ?_; conv => whnf) | (refine br_f g4 ?_; conv => whnf) | (refine br_t g5 ?_; conv => whnf) | (refine br_f g5 ?_; conv => whnf) | (refine br_t g6 ?_; conv => whnf) | (refine br_f g6 ?_; conv => whnf))
        exact ret_pure ⟨_, rfl⟩
    · repeat (first | (intro _; conv => whnf) | (refine br_t rfl ?_; conv => whnf) | (refine br_f rfl ?_; conv => whnf) | (refine IdxN.lit rfl rfl ?_; conv => whnf) | (refine br_t g1 ?_; conv => whnf) | (refine br_f g1 ?_; conv => whnf) | (refine br_t g2 ?_; conv => whnf) | (refine br_f g2 ?_; conv => whnf) | (refine br_t g3 ?_; conv => whnf) | (refine br_f g3 ?_; conv => whnf) | (refine br_t g4 ?_; conv => whnf) | (refine br_f g4 ?_; conv => whnf) | (refine br_t g5 ?_; conv => whnf) | (refine br_f g5 ?_; conv => whnf) | (refine br_t g6 ?_; conv => whnf) | (refine br_f g6 ?_; conv => whnf))
      exact ret_pure ⟨_, rfl⟩
  · repeat (first | (intro _; conv => whnf) | (refine br_t rfl ?_; conv => whnf) | (refine br_f rfl ?_; conv => whnf) | (refine IdxN.lit rfl rfl ?_; conv => whnf) | (refine br_t g1 ?_; conv => whnf) | (refine br_f g1 ?_; conv => whnf) | (refine br_t g2 ?_; conv => whnf) | (refine br_f g2 ?_; conv => whnf) | (refine br_t g3 ?_; conv => whnf) | (refine br_f g3 ?_; conv => whnf) | (refine br_t g4 ?_; conv => whnf) | (refine br_f g4 ?_; conv => whnf) | (refine br_t g5 ?_; conv => whnf) | (refine br_f g5 ?_; conv => whnf) | (refine br_t g6 ?_; conv => whnf) | (refine br_f g6 ?_; conv => whnf))
    apply br <;> intro g1 <;> conv => whnf
    · repeat (first | (intro _; conv => whnf) | (refine br_t rfl ?_; conv => whnf) | (refine br_f rfl ?_; conv => whnf) | (refine IdxN.lit rfl rfl ?_; conv => whnf) | (refine br_t g1 ?_; conv => whnf) | (refine br_f g1 ?_; conv => whnf) | (refine br_t g2 ?_; conv => whnf) | (refine br_f g2 ?_; conv => whnf) | (refine br_t g3 ?_; conv => whnf) | (refine br_f g3 ?_; conv => whnf) | (refine br_t g4 ?_; conv => whnf) | (refine br_f g4 ?_; conv => whnf) | (refine br_t g5 ?_; conv => whnf) | (refine br_f g5 ?_; conv => whnf) | (refine br_t g6 ?_; conv => whnf) | (refine br_f g6 ?_; conv => whnf))
      apply br <;> intro g2 <;> conv => whnf
      · repeat (first | (intro _; conv => whnf) | (refine br_t rfl ?_; conv => whnf) | (refine br_f rfl ?_; conv => whnf) | (refine IdxN.lit rfl rfl ?_; conv => whnf) | (refine br_t g1 ?_; conv => whnf) | (refine br_f g1 ?_; conv => whnf) | (refine br_t g2 ?_; conv => whnf) | (refine br_f g2 ?_; conv => whnf) | (refine br_t g3 ?_; conv => whnf) | (refine br_f g3 ?_; conv => whnf) | (refine br_t g4 ?_; conv => whnf) | (refine br_f g4 ?_; conv => whnf) | (refine br_t g5 ?_; conv => whnf) | (refine br_f g5 ?_; conv => whnf) | (refine br_t g6 ?_; conv => whnf) | (refine br_f g6 ?_; conv => whnf))
        apply br <;> intro g3 <;> conv => whnf
        · repeat (first | (intro _; conv => whnf) | (refine br_t rfl ?_; conv => whnf) | (refine br_f rfl ?_; conv => whnf) | (refine IdxN.lit rfl rfl ?_; conv => whnf) | (refine br_t g1 ?_; conv => whnf) | (refine br_f g1 ?_; conv => whnf) | (refine br_t g2 ?_; conv => whnf) | (refine br_f g2 ?_; conv => whnf) | (refine br_t g3 ?_; conv => whnf) | (refine br_f g3 ?_; conv => whnf) | (refine br_t g4 ?_; conv => whnf) | (refine br_f g4 ?_; conv => whnf) | (refine br_t g5 ?_; conv => whnf) | (refine br_f g5 ?_; conv => whnf) | (refine br_t g6 ?_; conv => whnf) | (refine br_f g6 ?_; conv => whnf))
          refine CallN.pure (columns_spec son _ (ho.mono (by repeat (first | exact View.le_refl _ | assumption | exact View.addU_le _ _ _ | refine View.le_trans ?_ (by assumption) | refine View.le_trans ?_ (View.addU_le _ _ _))))) fun v V1 _ hV1 ⟨b1, hv⟩ => ?_
          subst hv
          conv => whnf
          repeat (first | (intro _; conv => whnf) | (refine br_t rfl ?_; conv => whnf) | (refine br_f rfl ?_; conv => whnf) | (refine IdxN.lit rfl rfl ?_; conv => whnf) | (refine br_t g1 ?_; conv => whnf) | (refine br_f g1 ?_; conv => whnf) | (refine br_t g2 ?_; conv => whnf) | (refine br_f g2 ?_; conv => whnf) | (refine br_t g3 ?_; conv => whnf) | (refine br_f g3 ?_; conv => whnf) | (refine br_t g4 ?_; conv => whnf) | (refine br_f g4 ?_; conv => whnf) | (refine br_t g5 ?_; conv => whnf) | (refine br_f g5 ?_; conv => whnf) | (refine br_t g6 ?_; conv => whnf) | (refine br_f g6 ?_; conv => whnf))
          apply br <;> intro g4 <;> conv => whnf
          · repeat (first | (intro _; conv => whnf) | (refine br_t rfl ?_; conv => whnf) | (refine br_f rfl ?_; conv => whnf) | (refine IdxN.lit rfl rfl ?_; conv => whnf) | (refine br_t g1 ?_; conv => whnf) | (refine br_f g1 ?_; conv => whnf) | (refine br_t g2 ?_; conv => whnf) | (refine br_f g2 ?_; conv => whnf) | (refine br_t g3 ?_; conv => whnf) | (refine br_f g3 ?_; conv => whnf) | (refine br_t g4 ?_; conv => whnf) | (refine br_f g4 ?_; conv => whnf) | (refine br_t g5 ?_; conv => whnf) | (refine br_f g5 ?_; conv => whnf) | (refine br_t g6 ?_; conv => whnf) | (refine br_f g6 ?_; conv => whnf))
            refine CallN.pure (columns_spec sord _ (hd.mono (by repeat (first | exact View.le_refl _ | assumption | exact View.addU_le _ _ _ | refine View.le_trans ?_ (by assumption) | refine View.le_trans ?_ (View.addU_le _ _ _))))) fun v V1 _ hV1 ⟨b2, hv⟩ => ?_
            subst hv
            conv => whnf
            repeat (first | (intro _; conv => whnf) | (refine br_t rfl ?_; conv => whnf) | (refine br_f rfl ?_; conv => whnf) | (refine IdxN.lit rfl rfl ?_; conv => whnf) | (refine br_t g1 ?_; conv => whnf) | (refine br_f g1 ?_; conv => whnf) | (refine br_t g2 ?_; conv => whnf) | (refine br_f g2 ?_; conv => whnf) | (refine br_t g3 ?_; conv => whnf) | (refine br_f g3 ?_; conv => whnf) | (refine br_t g4 ?_; conv => whnf) | (refine br_f g4 ?_; conv => whnf) | (refine br_t g5 ?_; conv => whnf) | (refine br_f g5 ?_; conv => whnf) | (refine br_t g6 ?_; conv => whnf) | (refine br_f g6 ?_; conv => whnf))
            exact ret_pure ⟨_, rfl⟩
          · repeat (first | (intro _; conv => whnf) | (refine br_t rfl ?_; conv => whnf) | (refine br_f rfl ?_; conv => whnf) | (refine IdxN.lit rfl rfl ?_; conv => whnf) | (refine br_t g1 ?_; conv => whnf) | (refine br_f g1 ?_; conv => whnf) | (refine br_t g2 ?_; conv => whnf) | (refine br_f g2 ?_; conv => whnf) | (refine br_t g3 ?_; conv => whnf) | (refine br_f g3 ?_; conv => whnf) | (refine br_t g4 ?_; conv => whnf) | (refine br_f g4 ?_; conv => whnf) | (refine br_t g5 ?_; conv => whnf) | (refine br_f g5 ?_; conv => whnf) | (refine br_t g6 ?_; conv => whnf) | (refine br_f g6 ?_; conv => whnf))
            exact ret_pure ⟨_, rfl⟩
        · repeat (first | (intro _; conv => whnf) | (refine br_t rfl ?_; conv => whnf) | (refine br_f rfl ?_; conv => whnf) | (refine IdxN.lit rfl rfl ?_; conv => whnf) | (refine br_t g1 ?_; conv => whnf) | (refine br_f g1 ?_; conv => whnf) | (refine br_t g2 ?_; conv => whnf) | (refine br_f g2 ?_; conv => whnf) | (refine br_t g3 ?_; conv => whnf) | (refine br_f g3 ?_; conv => whnf) | (refine br_t g4 ?_; conv => whnf) | (refine br_f g4 ?_; conv => whnf) | (refine br_t g5 ?_; conv => whnf) | (refine br_f g5 ?_; conv => whnf) | (refine br_t g6 ?_; conv => whnf) | (refine br_f g6 ?_; conv => whnf))
          exact ret_pure ⟨_, rfl⟩
      · repeat (first | (intro _; conv => whnf) | (refine br_t rfl ?_; conv => whnf) | (refine br_f rfl ?_; conv => whnf) | (refine IdxN.lit rfl rfl ?_; conv => whnf) | (refine br_t g1 ?_; conv => whnf) | (refine br_f g1 ?_; conv => whnf) | (refine br_t g2 ?_; conv => whnf) | (refine br_f g2 ?_; conv => whnf) | (refine br_t g3 ?_; conv => whnf) | (refine br_f g3 ?_; conv => whnf) | (refine br_t g4 ?_; conv => whnf) | (refine br_f g4 ?_; conv => whnf) | (refine br_t g5 ?_; conv => whnf) | (refine br_f g5 ?_; conv => whnf) | (refine br_t g6 ?_; conv => whnf) | (refine br_f g6 ?_; conv => whnf))
        exact ret_pure ⟨_, rfl⟩
    · repeat (first | (intro _; conv => whnf) | (refine br_t rfl ?_; conv => whnf) | (refine br_f rfl ?_; conv => whnf) | (refine IdxN.lit rfl rfl ?_; conv => whnf) | (refine br_t g1 ?_; conv => whnf) | (refine br_f g1 ?_; conv => whnf) | (refine br_t g2 ?_; conv => whnf) | (refine br_f g2 ?_; conv => whnf) | (refine br_t g3 ?_; conv => whnf) | (refine br_f g3 ?_; conv => whnf) | (refine br_t g4 ?_; conv => whnf) | (refine br_f g4 ?_; conv => whnf) | (refine br_t g5 ?_; conv => whnf) | (refine br_f g5 ?_; conv => whnf) | (refine br_t g6 ?_; conv => whnf) | (refine br_f g6 ?_; conv => whnf))
      exact ret_pure ⟨_, rfl⟩
def tE : Value := .agg #[.string noText, .slice none 0 0, .slice none 0 0]
theorem tableT_spec (r p q p2 : Nat) (V : View) (hr : V.has r 0 (tvcells (tT p q) ++ tvcells (tU p2))) : PSpec 58 [tv3 r, .string (txt [116])] V (fun v _ => v = .tuple #[tabv (tT p q), .bool true]) := by
  refine does_of_zfun [] mixed (args := [.v _, .v _]) (ms := []) Try.func58 (by kernel_rfl) rfl ?_
  conv => whnf
  repeat (first | (intro _; conv => whnf) | (refine br_t rfl ?_; conv => whnf) | (refine br_f rfl ?_; conv => whnf) | (refine IdxN.lit rfl rfl ?_; conv => whnf) | (refine LoadN.of (hr.mono (by repeat (first | exact View.le_refl _ | assumption | exact View.addU_le _ _ _ | refine View.le_trans ?_ (by assumption) | refine View.le_trans ?_ (View.addU_le _ _ _)))) 0 rfl rfl ?_; conv => whnf) | (refine LoadN.of (hr.mono (by repeat (first | exact View.le_refl _ | assumption | exact View.addU_le _ _ _ | refine View.le_trans ?_ (by assumption) | refine View.le_trans ?_ (View.addU_le _ _ _)))) 3 rfl rfl ?_; conv => whnf) | (refine br_t ?hb ?_; (case hb => simp [txt, ByteArray.toList_eq, tT, tU, noText]; done); conv => whnf) | (refine br_f ?hb ?_; (case hb => simp [txt, ByteArray.toList_eq, tT, tU, noText]; done); conv => whnf))
  refine unrollz 3 ?_
  conv => whnf
  repeat (first | (intro _; conv => whnf) | (refine br_t rfl ?_; conv => whnf) | (refine br_f rfl ?_; conv => whnf) | (refine IdxN.lit rfl rfl ?_; conv => whnf) | (refine LoadN.of (hr.mono (by repeat (first | exact View.le_refl _ | assumption | exact View.addU_le _ _ _ | refine View.le_trans ?_ (by assumption) | refine View.le_trans ?_ (View.addU_le _ _ _)))) 0 rfl rfl ?_; conv => whnf) | (refine LoadN.of (hr.mono (by repeat (first | exact View.le_refl _ | assumption | exact View.addU_le _ _ _ | refine View.le_trans ?_ (by assumption) | refine View.le_trans ?_ (View.addU_le _ _ _)))) 3 rfl rfl ?_; conv => whnf) | (refine br_t ?hb ?_; (case hb => simp [txt, ByteArray.toList_eq, tT, tU, noText]; done); conv => whnf) | (refine br_f ?hb ?_; (case hb => simp [txt, ByteArray.toList_eq, tT, tU, noText]; done); conv => whnf))
  exact ret_pure rfl
theorem tableU_spec (r p q p2 : Nat) (V : View) (hr : V.has r 0 (tvcells (tT p q) ++ tvcells (tU p2))) : PSpec 58 [tv3 r, .string (txt [117])] V (fun v _ => v = .tuple #[tabv (tU p2), .bool true]) := by
  refine does_of_zfun [] mixed (args := [.v _, .v _]) (ms := []) Try.func58 (by kernel_rfl) rfl ?_
  conv => whnf
  repeat (first | (intro _; conv => whnf) | (refine br_t rfl ?_; conv => whnf) | (refine br_f rfl ?_; conv => whnf) | (refine IdxN.lit rfl rfl ?_; conv => whnf) | (refine LoadN.of (hr.mono (by repeat (first | exact View.le_refl _ | assumption | exact View.addU_le _ _ _ | refine View.le_trans ?_ (by assumption) | refine View.le_trans ?_ (View.addU_le _ _ _)))) 0 rfl rfl ?_; conv => whnf) | (refine LoadN.of (hr.mono (by repeat (first | exact View.le_refl _ | assumption | exact View.addU_le _ _ _ | refine View.le_trans ?_ (by assumption) | refine View.le_trans ?_ (View.addU_le _ _ _)))) 3 rfl rfl ?_; conv => whnf) | (refine br_t ?hb ?_; (case hb => simp [txt, ByteArray.toList_eq, tT, tU, noText]; done); conv => whnf) | (refine br_f ?hb ?_; (case hb => simp [txt, ByteArray.toList_eq, tT, tU, noText]; done); conv => whnf))
  refine unrollz 3 ?_
  conv => whnf
  repeat (first | (intro _; conv => whnf) | (refine br_t rfl ?_; conv => whnf) | (refine br_f rfl ?_; conv => whnf) | (refine IdxN.lit rfl rfl ?_; conv => whnf) | (refine LoadN.of (hr.mono (by repeat (first | exact View.le_refl _ | assumption | exact View.addU_le _ _ _ | refine View.le_trans ?_ (by assumption) | refine View.le_trans ?_ (View.addU_le _ _ _)))) 0 rfl rfl ?_; conv => whnf) | (refine LoadN.of (hr.mono (by repeat (first | exact View.le_refl _ | assumption | exact View.addU_le _ _ _ | refine View.le_trans ?_ (by assumption) | refine View.le_trans ?_ (View.addU_le _ _ _)))) 3 rfl rfl ?_; conv => whnf) | (refine br_t ?hb ?_; (case hb => simp [txt, ByteArray.toList_eq, tT, tU, noText]; done); conv => whnf) | (refine br_f ?hb ?_; (case hb => simp [txt, ByteArray.toList_eq, tT, tU, noText]; done); conv => whnf))
  exact ret_pure rfl
theorem tableN_spec (r p q p2 : Nat) (V : View) (hr : V.has r 0 (tvcells (tT p q) ++ tvcells (tU p2))) : PSpec 58 [tv3 r, .string (noText)] V (fun v _ => v = .tuple #[tE, .bool false]) := by
  refine does_of_zfun [] mixed (args := [.v _, .v _]) (ms := []) Try.func58 (by kernel_rfl) rfl ?_
  conv => whnf
  repeat (first | (intro _; conv => whnf) | (refine br_t rfl ?_; conv => whnf) | (refine br_f rfl ?_; conv => whnf) | (refine IdxN.lit rfl rfl ?_; conv => whnf) | (refine LoadN.of (hr.mono (by repeat (first | exact View.le_refl _ | assumption | exact View.addU_le _ _ _ | refine View.le_trans ?_ (by assumption) | refine View.le_trans ?_ (View.addU_le _ _ _)))) 0 rfl rfl ?_; conv => whnf) | (refine LoadN.of (hr.mono (by repeat (first | exact View.le_refl _ | assumption | exact View.addU_le _ _ _ | refine View.le_trans ?_ (by assumption) | refine View.le_trans ?_ (View.addU_le _ _ _)))) 3 rfl rfl ?_; conv => whnf) | (refine br_t ?hb ?_; (case hb => simp [txt, ByteArray.toList_eq, tT, tU, noText]; done); conv => whnf) | (refine br_f ?hb ?_; (case hb => simp [txt, ByteArray.toList_eq, tT, tU, noText]; done); conv => whnf))
  refine unrollz 3 ?_
  conv => whnf
  repeat (first | (intro _; conv => whnf) | (refine br_t rfl ?_; conv => whnf) | (refine br_f rfl ?_; conv => whnf) | (refine IdxN.lit rfl rfl ?_; conv => whnf) | (refine LoadN.of (hr.mono (by repeat (first | exact View.le_refl _ | assumption | exact View.addU_le _ _ _ | refine View.le_trans ?_ (by assumption) | refine View.le_trans ?_ (View.addU_le _ _ _)))) 0 rfl rfl ?_; conv => whnf) | (refine LoadN.of (hr.mono (by repeat (first | exact View.le_refl _ | assumption | exact View.addU_le _ _ _ | refine View.le_trans ?_ (by assumption) | refine View.le_trans ?_ (View.addU_le _ _ _)))) 3 rfl rfl ?_; conv => whnf) | (refine br_t ?hb ?_; (case hb => simp [txt, ByteArray.toList_eq, tT, tU, noText]; done); conv => whnf) | (refine br_f ?hb ?_; (case hb => simp [txt, ByteArray.toList_eq, tT, tU, noText]; done); conv => whnf))
  exact ret_pure rfl
end Go.Proofs.Ytenpginanhnkbaa
end
