/- One part of a proof: an evaluator of the model, shown right, and contracts that it yields. No condition beyond those that each theorem names. -/
import Derived.Test.YtenpginanhnkbaaCE
section
set_option linter.unusedSimpArgs false
set_option linter.unusedVariables false
namespace Go.Proofs.Ytenpginanhnkbaa
open Go.X
set_option maxRecDepth 100000

theorem high_pos : ∀ e : E, 1 ≤ e.high
  | .lit _ => Nat.le_refl _
  | .col _ _ => Nat.le_refl _
  | .un _ a => by simp only [E.high]; omega
  | .bin _ a b => by simp only [E.high]; omega
/-- how many nodes -/
def nodesB : Nat → Nat
  | 0 => 0
  | n + 1 => 2 * nodesB n + 1
theorem nodesB_le : ∀ {n m : Nat}, n ≤ m → nodesB n ≤ nodesB m
  | 0, m, _ => Nat.zero_le _
  | n + 1, 0, h => by omega
  | n + 1, m + 1, h => by
    have := nodesB_le (n := n) (m := m) (by omega)
    simp only [nodesB]; omega
theorem nodesB_small {n : Nat} (h : n ≤ 10) : nodesB n ≤ 1023 := Nat.le_trans (nodesB_le h) (by decide)
theorem nodes_spec : ∀ (e : E) (x : XC) (V : View), e.high ≤ 10 → RepL V e x → PSpec 23 [xagg x] V (fun v _ => ∃ n : Nat, v = .int .i64 n ∧ 1 ≤ n ∧ n ≤ nodesB e.high)
  | .lit v, ⟨xop, xv, xtb, xnm, xbase, xlen, xcap⟩, V, hh, hr => by
    have hr : xlen = 0 := hr
    subst hr
    refine does_of_zfun [] mixed (args := [.v _]) (ms := []) Try.func23 (by kernel_rfl) rfl ?_
    conv => whnf
    repeat' first
      | (refine br_t rfl ?_; conv => whnf)
      | (refine br_f rfl ?_; conv => whnf)
      | (refine IdxN.lit rfl rfl ?_; conv => whnf)
      | (intro _; conv => whnf)
    refine unrollz 1 ?_
    conv => whnf
    repeat' first
      | (refine br_t rfl ?_; conv => whnf)
      | (refine br_f rfl ?_; conv => whnf)
      | (refine IdxN.lit rfl rfl ?_; conv => whnf)
      | (intro _; conv => whnf)
    exact ret_pure ⟨1, rfl, Nat.le_refl _, Nat.le_refl _⟩
  | .col tb nm, ⟨xop, xv, xtb, xnm, xbase, xlen, xcap⟩, V, hh, hr => by
    have hr : xlen = 0 := hr
    subst hr
    refine does_of_zfun [] mixed (args := [.v _]) (ms := []) Try.func23 (by kernel_rfl) rfl ?_
    conv => whnf
    repeat' first
      | (refine br_t rfl ?_; conv => whnf)
      | (refine br_f rfl ?_; conv => whnf)
      | (refine IdxN.lit rfl rfl ?_; conv => whnf)
      | (intro _; conv => whnf)
    refine unrollz 1 ?_
    conv => whnf
    repeat' first
      | (refine br_t rfl ?_; conv => whnf)
      | (refine br_f rfl ?_; conv => whnf)
      | (refine IdxN.lit rfl rfl ?_; conv => whnf)
      | (intro _; conv => whnf)
    exact ret_pure ⟨1, rfl, Nat.le_refl _, Nat.le_refl _⟩
  | .un op a, ⟨xop, xv, xtb, xnm, xbase, xlen, xcap⟩, V, hh, hr => by
    obtain ⟨hl, p, off, xa, hb, hs, hra⟩ := hr
    simp only at hl hb
    subst hl; subst hb
    simp only [E.high] at hh ⊢
    have hb1 := nodesB_small (n := a.high) (by omega)
    refine does_of_zfun [] mixed (args := [.v _]) (ms := []) Try.func23 (by kernel_rfl) rfl ?_
    conv => whnf
    repeat' first
      | (refine br_t rfl ?_; conv => whnf)
      | (refine br_f rfl ?_; conv => whnf)
      | (refine IdxN.lit rfl rfl ?_; conv => whnf)
      | (intro _; conv => whnf)
    refine unrollz 2 ?_
    conv => whnf
    repeat' first
      | (refine br_t rfl ?_; conv => whnf)
      | (refine br_f rfl ?_; conv => whnf)
      | (refine IdxN.lit rfl rfl ?_; conv => whnf)
      | (intro _; conv => whnf)
    refine LoadN.of (hs.mono (by repeat (first | exact View.le_refl _ | assumption | exact View.addU_le _ _ _ | refine View.le_trans ?_ (by assumption) | refine View.le_trans ?_ (View.addU_le _ _ _)))) 0 rfl rfl ?_
    conv => whnf
    refine CallN.pure (nodes_spec a xa _ (by omega) (hra.mono (by repeat (first | exact View.le_refl _ | assumption | exact View.addU_le _ _ _ | refine View.le_trans ?_ (by assumption) | refine View.le_trans ?_ (View.addU_le _ _ _))))) fun v V1 _ hV1 ⟨n, hv, h1, h2⟩ => ?_
    subst hv
    conv => whnf
    repeat' first
      | (refine br_t rfl ?_; conv => whnf)
      | (refine br_f rfl ?_; conv => whnf)
      | (refine IdxN.lit rfl rfl ?_; conv => whnf)
      | (intro _; conv => whnf)
    have hw : IntKind.i64.wrap (1 + (n : Int)) = ((1 + n : Nat) : Int) := by rw [wrapE]; omega
    refine ret_pure ⟨1 + n, ?_, by omega, by simp only [nodesB]; omega⟩
    rw [← hw]; rfl
  | .bin op a b, ⟨xop, xv, xtb, xnm, xbase, xlen, xcap⟩, V, hh, hr => by
    obtain ⟨hl, p, off, xa, xb, hb, hs, hra, hrb⟩ := hr
    simp only at hl hb
    subst hl; subst hb
    simp only [E.high] at hh ⊢
    have hb1 := nodesB_le (n := a.high) (m := max a.high b.high) (by omega)
    have hb2 := nodesB_le (n := b.high) (m := max a.high b.high) (by omega)
    have hb3 := nodesB_small (n := max a.high b.high) (by omega)
    refine does_of_zfun [] mixed (args := [.v _]) (ms := []) Try.func23 (by kernel_rfl) rfl ?_
    conv => whnf
    repeat' first
      | (refine br_t rfl ?_; conv => whnf)
      | (refine br_f rfl ?_; conv => whnf)
      | (refine IdxN.lit rfl rfl ?_; conv => whnf)
      | (intro _; conv => whnf)
    refine unrollz 3 ?_
    conv => whnf
    repeat' first
      | (refine br_t rfl ?_; conv => whnf)
      | (refine br_f rfl ?_; conv => whnf)
      | (refine IdxN.lit rfl rfl ?_; conv => whnf)
      | (intro _; conv => whnf)
    refine LoadN.of (hs.mono (by repeat (first | exact View.le_refl _ | assumption | exact View.addU_le _ _ _ | refine View.le_trans ?_ (by assumption) | refine View.le_trans ?_ (View.addU_le _ _ _)))) 0 rfl rfl ?_
    conv => whnf
    refine CallN.pure (nodes_spec a xa _ (by omega) (hra.mono (by repeat (first | exact View.le_refl _ | assumption | exact View.addU_le _ _ _ | refine View.le_trans ?_ (by assumption) | refine View.le_trans ?_ (View.addU_le _ _ _))))) fun v V1 _ hV1 ⟨n, hv, h1, h2⟩ => ?_
    subst hv
    conv => whnf
    repeat' first
      | (refine br_t rfl ?_; conv => whnf)
      | (refine br_f rfl ?_; conv => whnf)
      | (refine IdxN.lit rfl rfl ?_; conv => whnf)
      | (intro _; conv => whnf)
    refine LoadN.of (hs.mono (by repeat (first | exact View.le_refl _ | assumption | exact View.addU_le _ _ _ | refine View.le_trans ?_ (by assumption) | refine View.le_trans ?_ (View.addU_le _ _ _)))) 7 rfl rfl ?_
    conv => whnf
    refine CallN.pure (nodes_spec b xb _ (by omega) (hrb.mono (by repeat (first | exact View.le_refl _ | assumption | exact View.addU_le _ _ _ | refine View.le_trans ?_ (by assumption) | refine View.le_trans ?_ (View.addU_le _ _ _))))) fun v V2 _ hV2 ⟨m, hv, h3, h4⟩ => ?_
    subst hv
    conv => whnf
    repeat' first
      | (refine br_t rfl ?_; conv => whnf)
      | (refine br_f rfl ?_; conv => whnf)
      | (refine IdxN.lit rfl rfl ?_; conv => whnf)
      | (intro _; conv => whnf)
    have hw : IntKind.i64.wrap (IntKind.i64.wrap (1 + (n : Int)) + (m : Int)) = ((1 + n + m : Nat) : Int) := by rw [wrapE, wrapE]; omega
    refine ret_pure ⟨1 + n + m, ?_, by omega, by simp only [nodesB]; omega⟩
    rw [← hw]; rfl
end Go.Proofs.Ytenpginanhnkbaa
end

section
set_option linter.unusedSimpArgs false
set_option linter.unusedVariables false
namespace Go.Proofs.Ytenpginanhnkbaa
open Go.X
set_option maxRecDepth 100000

theorem short_all (s1 s2 s3 : Src) (V : View) (h1 : s1.as V) (h2 : s2.as V) (h3 : s3.as V) : PSpec 5 [s1.slice, s2.slice, s3.slice] V (fun v _ => v = .bool true) := by
  refine does_of_zfun [(9, [(0, []), (2, []), (1, []), (3, []), (4, [])])] mixed (args := [.v _, .v _, .v _]) (ms := []) Try.func5 (by kernel_rfl) rfl ?_
  conv => whnf
  refine CallN.pure (begun_spec _) fun v V1 _ hV1 hv => ?_
  subst hv
  conv => whnf
  repeat' first
    | (refine br_t rfl ?_; conv => whnf)
    | (refine br_f rfl ?_; conv => whnf)
    | (refine IdxN.lit rfl rfl ?_; conv => whnf)
    | (intro _; conv => whnf)
  apply br <;> intro g1 <;> conv => whnf
  · repeat (refine br_t g1 ?_; conv => whnf)
    exact ret_pure rfl
  repeat (refine br_f g1 ?_; conv => whnf)
  apply br <;> intro g2 <;> conv => whnf
  · repeat (first | (refine br_t g2 ?_; conv => whnf) | (refine br_f g1 ?_; conv => whnf))
    exact ret_pure rfl
  repeat (first | (refine br_f g2 ?_; conv => whnf) | (refine br_f g1 ?_; conv => whnf))
  apply br <;> intro g3 <;> conv => whnf
  · repeat (first | (refine br_t g3 ?_; conv => whnf) | (refine br_f g1 ?_; conv => whnf) | (refine br_f g2 ?_; conv => whnf))
    exact ret_pure rfl
  have g1 : s1.l.length ≤ 50 := by have := of_decide_eq_false g1; omega
  have g2 : s2.l.length ≤ 50 := by have := of_decide_eq_false g2; omega
  have g3 : s3.l.length ≤ 20 := by have := of_decide_eq_false g3; omega
  have ok1 := h1.ok g1 (by decide)
  have ok2 := h2.ok g2 (by decide)
  have ok3 := h3.ok g3 (by decide)
  have far1 : FarOk s1 0 := ⟨by decide, by omega⟩
  have far2 : FarOk s2 0 := ⟨by decide, by omega⟩
  have far3 : FarOk s3 0 := ⟨by decide, by omega⟩
  refine CallN.pure (schema_spec _) fun v V2 _ hV2 ⟨r, p, q, p2, hv, t1, t2, t3⟩ => ?_
  subst hv
  conv => whnf
  repeat' first
    | (refine br_t rfl ?_; conv => whnf)
    | (refine br_f rfl ?_; conv => whnf)
    | (refine IdxN.lit rfl rfl ?_; conv => whnf)
    | (intro _; conv => whnf)
  refine LoadN.of (t1.mono (by repeat (first | exact View.le_refl _ | assumption | exact View.addU_le _ _ _ | refine View.le_trans ?_ (by assumption) | refine View.le_trans ?_ (View.addU_le _ _ _)))) 0 rfl rfl ?_
  conv => whnf
  repeat' first
    | (refine br_t rfl ?_; conv => whnf)
    | (refine br_f rfl ?_; conv => whnf)
    | (refine IdxN.lit rfl rfl ?_; conv => whnf)
    | (intro _; conv => whnf)
  refine CallN.pure (cols_spec p q _ (t2.mono (by repeat (first | exact View.le_refl _ | assumption | exact View.addU_le _ _ _ | refine View.le_trans ?_ (by assumption) | refine View.le_trans ?_ (View.addU_le _ _ _))))) fun v V3 _ hV3 ⟨a, ao, ac, b, bo, bc, hv, c1, c2⟩ => ?_
  subst hv
  conv => whnf
  have hcols : ColsAt V3 itemsT kindsT a ao b bo := ⟨c1, c2, rfl, by decide⟩
  refine CallN.new 48 rfl (made_spec s1 _) fun v V4 bs hV4 ⟨b4, hv, hb⟩ => ⟨picks b4 s1 0, .own 48 0, hb, by subst hv; rfl, ?_⟩
  subst hv
  conv => whnf
  refine CallN.box 48 rfl (expr_spec b4 s1 itemsT kindsT a ao ac b bo bc 5 3 0 0 _ far1 (ok1.mono (by repeat (first | exact View.le_refl _ | assumption | exact View.addU_le _ _ _ | refine View.le_trans ?_ (by assumption) | refine View.le_trans ?_ (View.addU_le _ _ _)))) (hcols.mono (by repeat (first | exact View.le_refl _ | assumption | exact View.addU_le _ _ _ | refine View.le_trans ?_ (by assumption) | refine View.le_trans ?_ (View.addU_le _ _ _)))) (by decide) (by decide) (by decide)) fun v V5 bs hV5 ⟨e, xe, k5, hv, hrep, hwt, hf5, hb5, hhe⟩ => ⟨85, picksC s1 k5, hb5, ?_⟩
  subst hv
  obtain ⟨xop, xv, xtb, xnm, xbase, xlen, xcap⟩ := xe
  conv => whnf
  repeat' first
    | (refine br_t rfl ?_; conv => whnf)
    | (refine br_f rfl ?_; conv => whnf)
    | (refine IdxN.lit rfl rfl ?_; conv => whnf)
    | (intro _; conv => whnf)
  refine CallN.new 53 rfl (made_spec s2 _) fun v V6 bs hV6 ⟨b6, hv, hb⟩ => ⟨picks b6 s2 0, .own 53 0, hb, by subst hv; rfl, ?_⟩
  subst hv
  conv => whnf
  refine CallN.box 53 rfl (expr_spec b6 s2 itemsT kindsT a ao ac b bo bc 5 3 0 0 _ far2 (ok2.mono (by repeat (first | exact View.le_refl _ | assumption | exact View.addU_le _ _ _ | refine View.le_trans ?_ (by assumption) | refine View.le_trans ?_ (View.addU_le _ _ _)))) (hcols.mono (by repeat (first | exact View.le_refl _ | assumption | exact View.addU_le _ _ _ | refine View.le_trans ?_ (by assumption) | refine View.le_trans ?_ (View.addU_le _ _ _)))) (by decide) (by decide) (by decide)) fun v V7 bs hV7 ⟨f, xf, k7, hv, hrepf, hwtf, hf7, hb7, hhf⟩ => ⟨85, picksC s2 k7, hb7, ?_⟩
  subst hv
  obtain ⟨yop, yv, ytb, ynm, ybase, ylen, ycap⟩ := xf
  conv => whnf
  repeat' first
    | (refine br_t rfl ?_; conv => whnf)
    | (refine br_f rfl ?_; conv => whnf)
    | (refine IdxN.lit rfl rfl ?_; conv => whnf)
    | (intro _; conv => whnf)
  refine CallN.new 58 rfl (made_spec s3 _) fun v V8 bs hV8 ⟨b8, hv, hb⟩ => ⟨picks b8 s3 0, .own 58 0, hb, by subst hv; rfl, ?_⟩
  subst hv
  refine Prot.new rfl rfl ?_
  conv => whnf
  refine CallN.box 58 rfl (row_spec b8 s3 0 far3 p q _ (ok3.mono (by repeat (first | exact View.le_refl _ | assumption | exact View.addU_le _ _ _ | refine View.le_trans ?_ (by assumption) | refine View.le_trans ?_ (View.addU_le _ _ _)))) (t2.mono (by repeat (first | exact View.le_refl _ | assumption | exact View.addU_le _ _ _ | refine View.le_trans ?_ (by assumption) | refine View.le_trans ?_ (View.addU_le _ _ _))))) fun v V9 bs hV9 ⟨x, y, z, k9, d, dof, dc, hv, hrow, hx, hy, hz, hf9, hb9⟩ => ⟨85, picksC s3 k9, hb9, ?_⟩
  subst hv
  refine Prot.box rfl rfl ?_
  conv => whnf
  have hr : RowT x y z := ⟨hx, hy, hz⟩
  have hrow : V9.has d dof ([x, y, z].flatMap vcells) := hrow
  refine CallN.pure (eval_T x y z hr a ao _ d dof _ _ (c1.mono (by repeat (first | exact View.le_refl _ | assumption | exact View.addU_le _ _ _ | refine View.le_trans ?_ (by assumption) | refine View.le_trans ?_ (View.addU_le _ _ _)))) (hrow.mono (by repeat (first | exact View.le_refl _ | assumption | exact View.addU_le _ _ _ | refine View.le_trans ?_ (by assumption) | refine View.le_trans ?_ (View.addU_le _ _ _)))) hwt (xe := ⟨xop, xv, xtb, xnm, xbase, xlen, xcap⟩) (hrep.mono (by repeat (first | exact View.le_refl _ | assumption | exact View.addU_le _ _ _ | refine View.le_trans ?_ (by assumption) | refine View.le_trans ?_ (View.addU_le _ _ _)))).re) fun v V10 _ hV10 hv => ?_
  subst hv
  conv => whnf
  repeat' first
    | (refine br_t rfl ?_; conv => whnf)
    | (refine br_f rfl ?_; conv => whnf)
    | (refine IdxN.lit rfl rfl ?_; conv => whnf)
    | (intro _; conv => whnf)
  refine CallN.pure (eval_T x y z hr a ao _ d dof _ _ (c1.mono (by repeat (first | exact View.le_refl _ | assumption | exact View.addU_le _ _ _ | refine View.le_trans ?_ (by assumption) | refine View.le_trans ?_ (View.addU_le _ _ _)))) (hrow.mono (by repeat (first | exact View.le_refl _ | assumption | exact View.addU_le _ _ _ | refine View.le_trans ?_ (by assumption) | refine View.le_trans ?_ (View.addU_le _ _ _)))) hwtf (xe := ⟨yop, yv, ytb, ynm, ybase, ylen, ycap⟩) (hrepf.mono (by repeat (first | exact View.le_refl _ | assumption | exact View.addU_le _ _ _ | refine View.le_trans ?_ (by assumption) | refine View.le_trans ?_ (View.addU_le _ _ _)))).re) fun v V11 _ hV11 hv => ?_
  subst hv
  conv => whnf
  repeat' first
    | (refine br_t rfl ?_; conv => whnf)
    | (refine br_f rfl ?_; conv => whnf)
    | (refine IdxN.lit rfl rfl ?_; conv => whnf)
    | (intro _; conv => whnf)
  rename_i l12 V12 hV12 hl12
  have hl12 : V12.has l12 0 (xcells ⟨xop, xv, xtb, xnm, xbase, xlen, xcap⟩ ++ xcells ⟨yop, yv, ytb, ynm, ybase, ylen, ycap⟩) := hl12
  refine CallN.pure (eval_T x y z hr a ao _ d dof _ _ (c1.mono (by repeat (first | exact View.le_refl _ | assumption | exact View.addU_le _ _ _ | refine View.le_trans ?_ (by assumption) | refine View.le_trans ?_ (View.addU_le _ _ _)))) (hrow.mono (by repeat (first | exact View.le_refl _ | assumption | exact View.addU_le _ _ _ | refine View.le_trans ?_ (by assumption) | refine View.le_trans ?_ (View.addU_le _ _ _)))) (e := .bin 14 e f) (.both (by decide) hwt hwtf) (xe := ⟨14, v0, noText, noText, some ⟨l12, 0, none⟩, 2, 2⟩)
    ⟨rfl, by decide, rfl, l12, 0, ⟨xop, xv, xtb, xnm, xbase, xlen, xcap⟩, ⟨yop, yv, ytb, ynm, ybase, ylen, ycap⟩, rfl, (hl12.mono (by repeat (first | exact View.le_refl _ | assumption | exact View.addU_le _ _ _ | refine View.le_trans ?_ (by assumption) | refine View.le_trans ?_ (View.addU_le _ _ _)))), (hrep.mono (by repeat (first | exact View.le_refl _ | assumption | exact View.addU_le _ _ _ | refine View.le_trans ?_ (by assumption) | refine View.le_trans ?_ (View.addU_le _ _ _)))).re, (hrepf.mono (by repeat (first | exact View.le_refl _ | assumption | exact View.addU_le _ _ _ | refine View.le_trans ?_ (by assumption) | refine View.le_trans ?_ (View.addU_le _ _ _)))).re⟩) fun v V12v _ hV12v hv => ?_
  subst hv
  conv => whnf
  repeat' first
    | (refine br_t rfl ?_; conv => whnf)
    | (refine br_f rfl ?_; conv => whnf)
    | (refine IdxN.lit rfl rfl ?_; conv => whnf)
    | (intro _; conv => whnf)
  rename_i l13 V13 hV13 hl13
  have hl13 : V13.has l13 0 (xcells ⟨xop, xv, xtb, xnm, xbase, xlen, xcap⟩ ++ xcells ⟨yop, yv, ytb, ynm, ybase, ylen, ycap⟩) := hl13
  refine CallN.pure (eval_T x y z hr a ao _ d dof _ _ (c1.mono (by repeat (first | exact View.le_refl _ | assumption | exact View.addU_le _ _ _ | refine View.le_trans ?_ (by assumption) | refine View.le_trans ?_ (View.addU_le _ _ _)))) (hrow.mono (by repeat (first | exact View.le_refl _ | assumption | exact View.addU_le _ _ _ | refine View.le_trans ?_ (by assumption) | refine View.le_trans ?_ (View.addU_le _ _ _)))) (e := .bin 15 e f) (.both (by decide) hwt hwtf) (xe := ⟨15, v0, noText, noText, some ⟨l13, 0, none⟩, 2, 2⟩)
    ⟨rfl, by decide, rfl, l13, 0, ⟨xop, xv, xtb, xnm, xbase, xlen, xcap⟩, ⟨yop, yv, ytb, ynm, ybase, ylen, ycap⟩, rfl, (hl13.mono (by repeat (first | exact View.le_refl _ | assumption | exact View.addU_le _ _ _ | refine View.le_trans ?_ (by assumption) | refine View.le_trans ?_ (View.addU_le _ _ _)))), (hrep.mono (by repeat (first | exact View.le_refl _ | assumption | exact View.addU_le _ _ _ | refine View.le_trans ?_ (by assumption) | refine View.le_trans ?_ (View.addU_le _ _ _)))).re, (hrepf.mono (by repeat (first | exact View.le_refl _ | assumption | exact View.addU_le _ _ _ | refine View.le_trans ?_ (by assumption) | refine View.le_trans ?_ (View.addU_le _ _ _)))).re⟩) fun v V13v _ hV13v hv => ?_
  subst hv
  conv => whnf
  repeat' first
    | (refine br_t rfl ?_; conv => whnf)
    | (refine br_f rfl ?_; conv => whnf)
    | (refine IdxN.lit rfl rfl ?_; conv => whnf)
    | (intro _; conv => whnf)
  rename_i l14 V14 hV14 hl14
  have hl14 : V14.has l14 0 (xcells ⟨xop, xv, xtb, xnm, xbase, xlen, xcap⟩) := hl14
  refine CallN.pure (eval_T x y z hr a ao _ d dof _ _ (c1.mono (by repeat (first | exact View.le_refl _ | assumption | exact View.addU_le _ _ _ | refine View.le_trans ?_ (by assumption) | refine View.le_trans ?_ (View.addU_le _ _ _)))) (hrow.mono (by repeat (first | exact View.le_refl _ | assumption | exact View.addU_le _ _ _ | refine View.le_trans ?_ (by assumption) | refine View.le_trans ?_ (View.addU_le _ _ _)))) (e := .un 4 e) (.not hwt) (xe := ⟨4, v0, noText, noText, some ⟨l14, 0, none⟩, 1, 1⟩)
      ⟨rfl, .inr rfl, rfl, l14, 0, ⟨xop, xv, xtb, xnm, xbase, xlen, xcap⟩, rfl, (hl14.mono (by repeat (first | exact View.le_refl _ | assumption | exact View.addU_le _ _ _ | refine View.le_trans ?_ (by assumption) | refine View.le_trans ?_ (View.addU_le _ _ _)))), (hrep.mono (by repeat (first | exact View.le_refl _ | assumption | exact View.addU_le _ _ _ | refine View.le_trans ?_ (by assumption) | refine View.le_trans ?_ (View.addU_le _ _ _)))).re⟩) fun v V15 _ hV15 hv => ?_
  subst hv
  conv => whnf
  repeat' first
    | (refine br_t rfl ?_; conv => whnf)
    | (refine br_f rfl ?_; conv => whnf)
    | (refine IdxN.lit rfl rfl ?_; conv => whnf)
    | (intro _; conv => whnf)
  have hval := val_T x y z hr hwt
  have hnod : ∀ V', V14.le V' → PSpec 23 [xagg ⟨xop, xv, xtb, xnm, xbase, xlen, xcap⟩] V' (fun v _ => ∃ n : Nat, v = .int .i64 n ∧ 1 ≤ n ∧ n ≤ nodesB e.high) := fun V' hV' => nodes_spec e _ V' (by omega) (hrep.mono (by repeat (first | exact View.le_refl _ | assumption | exact View.addU_le _ _ _ | refine View.le_trans ?_ (by assumption) | refine View.le_trans ?_ (View.addU_le _ _ _)))).rl
  have eAnd : evT x y z (.bin 14 e f) = if (evT x y z e).2 ≠ 0 ∨ (evT x y z e).1.n = 0 then evT x y z e else evT x y z f := by
    unfold evT; rw [evalX, if_pos (by decide)]; rfl
  have eOr : evT x y z (.bin 15 e f) = if (evT x y z e).2 ≠ 0 ∨ (evT x y z e).1.n = 1 then evT x y z e else evT x y z f := by
    unfold evT; rw [evalX, if_pos (by decide)]; rfl
  have eNot : evT x y z (.un 4 e) = if (evT x y z e).2 = 0 then unX 4 (evT x y z e).1 else (v0, (evT x y z e).2) := by
    unfold evT; rw [evalX]
  generalize evT x y z (.bin 14 e f) = A at *
  generalize evT x y z (.bin 15 e f) = O at *
  generalize evT x y z (.un 4 e) = N at *
  generalize evT x y z e = X at *
  generalize evT x y z f = Y at *
  by_cases hX : X.2 = 0
  · refine br_f (by simpa using hX) ?_
    conv => whnf
    obtain ⟨b0, hb0⟩ := hval.bool hX
    rw [if_pos hX] at eNot
    obtain ⟨X1, X2⟩ := X
    simp only at hX hb0
    subst hX; subst hb0
    cases b0
    · have eNot : N = (truthV true, 0) := eNot
      have eAnd : A = (truthV false, 0) := eAnd
      have eOr : O = Y := eOr
      subst eNot; subst eAnd; subst eOr
      repeat' first
        | (refine br_t rfl ?_; conv => whnf)
        | (refine br_f rfl ?_; conv => whnf)
        | (refine IdxN.lit rfl rfl ?_; conv => whnf)
        | (intro _; conv => whnf)
      have ee : (O.2 == O.2) = true := by simp
      repeat (first | (refine br_t ee ?_; conv => whnf) | (refine br_t rfl ?_; conv => whnf))
      refine ⟨⟨_, eqv_run _ _ _ _, ?_⟩⟩
      conv => whnf
      repeat (first | (refine br_t ee ?_; conv => whnf) | (refine br_t rfl ?_; conv => whnf))
      refine ret_pure ?_
      show Value.bool _ = _
      rw [sameV_self]
    · have eNot : N = (truthV false, 0) := eNot
      have eAnd : A = Y := eAnd
      have eOr : O = (truthV true, 0) := eOr
      subst eNot; subst eAnd; subst eOr
      repeat' first
        | (refine br_t rfl ?_; conv => whnf)
        | (refine br_f rfl ?_; conv => whnf)
        | (refine IdxN.lit rfl rfl ?_; conv => whnf)
        | (intro _; conv => whnf)
      have ee : (A.2 == A.2) = true := by simp
      repeat (first | (refine br_t ee ?_; conv => whnf) | (refine br_t rfl ?_; conv => whnf))
      refine ⟨⟨_, eqv_run _ _ _ _, ?_⟩⟩
      conv => whnf
      have es : sameV A.1 A.1 = true := sameV_self _
      repeat (first | (refine br_t ee ?_; conv => whnf) | (refine br_t rfl ?_; conv => whnf) | (refine br_t es ?_; conv => whnf))
      refine CallN.pure (hnod _ (by repeat (first | exact View.le_refl _ | assumption | exact View.addU_le _ _ _ | refine View.le_trans ?_ (by assumption) | refine View.le_trans ?_ (View.addU_le _ _ _)))) fun v V16 _ hV16 ⟨n, hv, hn1, hn2⟩ => ?_
      subst hv
      conv => whnf
      repeat (first | (refine br_t ee ?_; conv => whnf) | (refine br_t rfl ?_; conv => whnf) | (refine br_t es ?_; conv => whnf))
      refine ret_pure ?_
      show Value.bool _ = _
      congr 1
      simp only [decide_eq_true_eq]
      omega
  · refine br_t (by simpa using hX) ?_
    conv => whnf
    rw [if_pos (.inl hX)] at eAnd eOr
    rw [if_neg hX] at eNot
    subst eAnd; subst eOr; subst eNot
    have ee : (O.2 == O.2) = true := by simp
    repeat (refine br_t ee ?_; conv => whnf)
    refine ret_pure ?_
    show Value.bool _ = _
    rw [ee]
end Go.Proofs.Ytenpginanhnkbaa
end
