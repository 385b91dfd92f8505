/- One part of a proof: an evaluator of the model, shown right, and contracts that it yields. No condition beyond those that each theorem names. -/
import Derived.Test.YtenpginanhnkbaaCA
import Derived.Laws.StructEq
section
set_option linter.unusedSimpArgs false
set_option linter.unusedVariables false
namespace Go.Proofs.Ytenpginanhnkbaa
open Go.X
set_option maxRecDepth 100000
set_option linter.unusedSimpArgs false

inductive E where
  | lit (v : Val)
  | col (tb nm : ByteArray)
  | un (op : Int) (a : E)
  | bin (op : Int) (a b : E)
def RepE (V : View) : E → XC → Prop
  | .lit v, x => x.op = 1 ∧ x.v = v
  | .col tb nm, x => x.op = 2 ∧ x.tb = tb ∧ x.nm = nm
  | .un op a, x => x.op = op ∧ (op = 3 ∨ op = 4) ∧ x.len = 1 ∧ ∃ p off xa, x.base = some ⟨p, off, none⟩ ∧ V.has p off (xcells xa) ∧ RepE V a xa
  | .bin op a b, x => x.op = op ∧ (5 ≤ op ∧ op ≤ 15) ∧ x.len = 2 ∧ ∃ p off xa xb, x.base = some ⟨p, off, none⟩ ∧ V.has p off (xcells xa ++ xcells xb) ∧ RepE V a xa ∧ RepE V b xb
theorem RepE.mono {V V' : View} (hV : V.le V') : ∀ {e : E} {x : XC}, RepE V e x → RepE V' e x
  | .lit v, x, h => h
  | .col tb nm, x, h => h
  | .un op a, x, ⟨h1, h2, h3, p, off, xa, h4, h5, h6⟩ => ⟨h1, h2, h3, p, off, xa, h4, h5.mono hV, h6.mono hV⟩
  | .bin op a b, x, ⟨h1, h2, h3, p, off, xa, xb, h4, h5, h6, h7⟩ => ⟨h1, h2, h3, p, off, xa, xb, h4, h5.mono hV, h6.mono hV, h7.mono hV⟩

/-- what an expression comes to -/
def evalX (colX : ByteArray → ByteArray → Val × Int) : E → Val × Int
  | .lit v => (v, 0)
  | .col tb nm => colX tb nm
  | .un op a => if (evalX colX a).2 = 0 then unX op (evalX colX a).1 else (v0, (evalX colX a).2)
  | .bin op a b =>
    if op = 14 ∨ op = 15 then (if (evalX colX a).2 ≠ 0 ∨ (evalX colX a).1.n = op - 14 then evalX colX a else evalX colX b)
    else if (evalX colX a).2 = 0 then (if (evalX colX b).2 = 0 then binX op (evalX colX a).1 (evalX colX b).1 else (v0, (evalX colX b).2)) else (v0, (evalX colX a).2)
def E.ok : E → Prop
  | .lit v => InR v.n
  | .col _ _ => True
  | .un _ a => a.ok
  | .bin _ a b => a.ok ∧ b.ok
theorem fits_inR (x : Int) : InR (fits x).1 := by
  unfold fits InR
  split
  · assumption
  · decide
theorem v0_inR : InR v0.n := ⟨by decide, by decide⟩
theorem whole_inR {x : Int × Int} (h : InR x.1) : InR (wholeV x).1.n := by
  unfold wholeV
  split
  · exact h
  · exact v0_inR
theorem truth_inR (b : Bool) : InR (truthV b).n := by cases b <;> exact ⟨by decide, by decide⟩
theorem unX_inR (op : Int) (a : Val) : InR (unX op a).1.n := by
  unfold unX
  split
  · exact whole_inR (fits_inR _)
  · exact truth_inR _
theorem binX_inR (op : Int) (a b : Val) : InR (binX op a b).1.n := by
  unfold binX
  repeat' split
  all_goals first | exact whole_inR (fits_inR _) | exact truth_inR _ | exact v0_inR
theorem evalX_inR {colX : ByteArray → ByteArray → Val × Int} (hc : ∀ tb nm, InR (colX tb nm).1.n) : ∀ (e : E), e.ok → InR (evalX colX e).1.n
  | .lit v, h => h
  | .col tb nm, _ => hc tb nm
  | .un op a, h => by
    unfold evalX
    split
    · exact unX_inR _ _
    · exact v0_inR
  | .bin op a b, h => by
    unfold evalX
    repeat' split
    all_goals first | exact evalX_inR hc a h.1 | exact evalX_inR hc b h.2 | exact binX_inR _ _ _ | exact v0_inR

def pl69 : Plans := [(1, [(0, []), (1, []), (2, []), (3, []), (4, []), (5, [9]), (6, []), (7, []), (8, []), (9, []), (10, []), (11, [])]), (4, [(0, []), (1, []), (2, []), (3, []), (4, []), (5, []), (6, []), (7, []), (8, []), (9, [])])]
theorem IdxN.lit {b off len size : Nat} {i : Int} {K : Nat → Nat → Prop} (h0 : decide (0 ≤ i) = true) (hl : decide (i < (len : Int)) = true) (hK : K b (off + i.toNat * size)) : IdxN (some ⟨b, off, none⟩) len i size K :=
  IdxN.of (of_decide_eq_true h0) (of_decide_eq_true hl) hK
theorem either_spec (cs vs : Value) (all : Int) (x xa xb : XC) (r s : Val × Int) (p off : Nat) (V : View) (hl : x.len = 2) (hb : x.base = some ⟨p, off, none⟩) (hs : V.has p off (xcells xa ++ xcells xb))
    (h : ∀ V', V.le V' → PSpec 42 [.agg #[cs, vs], xagg xa] V' (fun v _ => v = pairX r)) (h' : ∀ V', V.le V' → PSpec 42 [.agg #[cs, vs], xagg xb] V' (fun v _ => v = pairX s)) :
    PSpec 69 [.agg #[cs, vs], xagg x, .int .i64 all] V (fun v _ => v = pairX (if r.2 ≠ 0 ∨ r.1.n = all then r else s)) := by
  obtain ⟨xop, xv, xtb, xnm, xbase, xlen, xcap⟩ := x
  simp only at hl hb
  subst hl; subst hb
  refine pspec pl69 (args := [.v _, .v _, .v _]) Try.func69 (by kernel_rfl) rfl ?_
  conv => whnf
  intro b1
  conv => whnf
  intro b2
  conv => whnf
  intro b3
  conv => whnf
  refine IdxN.lit rfl rfl ?_
  conv => whnf
  refine LoadN.of hs 0 rfl rfl ?_
  conv => whnf
  refine CallN.pure (h _ (View.le_refl _)) fun v V1 _ hV hv => ?_
  subst hv
  refine Prot.refl ?_
  conv => whnf
  intro b4 hb4
  conv => whnf
  apply br <;> intro he <;> conv => whnf
  · refine ret_pure ?_
    have h1 : r.2 ≠ 0 := by simpa using he
    rw [if_pos (.inl h1)]
    rfl
  have h1 : r.2 = 0 := by simpa using he
  apply br <;> intro he2 <;> conv => whnf
  · refine ret_pure ?_
    have h2 : r.1.n = all := by simpa using he2
    rw [if_pos (.inr h2)]
    rfl
  have h2 : ¬ r.1.n = all := by simpa using he2
  refine IdxN.lit rfl rfl ?_
  conv => whnf
  refine LoadN.of (hs.mono hV) 7 rfl rfl ?_
  conv => whnf
  refine CallN.pure (h' _ hV) fun v V2 _ hV2 hv => ?_
  subst hv
  refine Prot.refl ?_
  conv => whnf
  refine ret_pure ?_
  rw [if_neg (by simp [h1, h2])]
  rfl
/-- eval, whatever the columns say -/
theorem eval_spec (cs vs : Value) (colX : ByteArray → ByteArray → Val × Int) (hc : ∀ tb nm, InR (colX tb nm).1.n) : ∀ (e : E) (x : XC) (V : View), e.ok → RepE V e x →
    (∀ tb nm V', V.le V' → PSpec 67 [.agg #[cs, vs], .string tb, .string nm] V' (fun v _ => v = pairX (colX tb nm))) → PSpec 42 [.agg #[cs, vs], xagg x] V (fun v _ => v = pairX (evalX colX e))
  | .lit v, ⟨xop, xv, xtb, xnm, xbase, xlen, xcap⟩, V, hok, hr, hcol => by
    obtain ⟨hop, hv⟩ := hr
    simp only at hop hv
    subst hop; subst hv
    refine pspec [] (args := [.v _, .v _]) Try.func42 (by kernel_rfl) rfl ?_
    conv => whnf
    intro b1
    conv => whnf
    intro b2
    conv => whnf
    intro b3
    conv => whnf
    refine br_t rfl ?_
    conv => whnf
    exact ret_pure rfl
  | .col tb nm, ⟨xop, xv, xtb, xnm, xbase, xlen, xcap⟩, V, hok, hr, hcol => by
    obtain ⟨hop, h1, h2⟩ := hr
    simp only at hop h1 h2
    subst hop; subst h1; subst h2
    refine pspec [] (args := [.v _, .v _]) Try.func42 (by kernel_rfl) rfl ?_
    conv => whnf
    intro b1
    conv => whnf
    intro b2
    conv => whnf
    intro b3
    conv => whnf
    refine br_f rfl ?_
    conv => whnf
    refine br_t rfl ?_
    conv => whnf
    refine CallN.pure (hcol _ _ _ (View.le_refl _)) fun v V2 _ hV2 hv => ?_
    subst hv
    conv => whnf
    exact ret_pure rfl
  | .un op a, ⟨xop, xv, xtb, xnm, xbase, xlen, xcap⟩, V, hok, hr, hcol => by
    obtain ⟨hop, hop2, hl, p, off, xa, hb, hs, hra⟩ := hr
    simp only at hop hl hb
    subst hop; subst hl; subst hb
    have ih : ∀ V', V.le V' → PSpec 42 [.agg #[cs, vs], xagg xa] V' (fun v _ => v = pairX (evalX colX a)) := fun V' hV => eval_spec cs vs colX hc a xa V' hok (hra.mono hV) (fun tb nm V2 h2 => hcol tb nm V2 (View.le_trans hV h2))
    refine pspec [] (args := [.v _, .v _]) Try.func42 (by kernel_rfl) rfl ?_
    conv => whnf
    intro b1
    conv => whnf
    intro b2
    conv => whnf
    intro b3
    conv => whnf
    refine br_f (by simp only [beq_eq_false_iff_ne, ne_eq]; omega) ?_
    conv => whnf
    refine br_f (by simp only [beq_eq_false_iff_ne, ne_eq]; omega) ?_
    conv => whnf
    refine CallN.pure (one_spec xop _) fun v V1 _ hV1 hv => ?_
    rw [if_pos hop2] at hv
    subst hv
    conv => whnf
    refine br_f rfl ?_
    conv => whnf
    refine br_f (by simp only [beq_eq_false_iff_ne, ne_eq]; omega) ?_
    conv => whnf
    refine br_f (by simp only [beq_eq_false_iff_ne, ne_eq]; omega) ?_
    conv => whnf
    refine CallN.pure (each1_spec (.agg #[cs, vs]) xa _ p off xcap _ (hs.mono hV1) (fun V' hV' => ih V' (View.le_trans hV1 hV'))) fun v V2 _ hV2 hv => ?_
    unfold Each1 at hv
    split at hv
    · rename_i h0
      obtain ⟨p2, off2, cap2, rfl, hs2⟩ := hv
      conv => whnf
      refine br_f rfl ?_
      conv => whnf
      refine CallN.pure (does1_spec xop hop2 _ (evalX_inR hc a hok) p2 off2 cap2 _ hs2) fun v V3 _ hV3 hv => ?_
      subst hv
      conv => whnf
      refine ret_pure ?_
      rw [evalX, if_pos h0]
      rfl
    · rename_i h0
      subst hv
      conv => whnf
      refine br_t (by simpa using h0) ?_
      conv => whnf
      refine ret_pure ?_
      rw [evalX, if_neg h0]
      rfl
  | .bin op a b, ⟨xop, xv, xtb, xnm, xbase, xlen, xcap⟩, V, hok, hr, hcol => by
    obtain ⟨hop, hop2, hl, p, off, xa, xb, hb, hs, hra, hrb⟩ := hr
    simp only at hop hl hb
    subst hop; subst hl; subst hb
    have ih : ∀ V', V.le V' → PSpec 42 [.agg #[cs, vs], xagg xa] V' (fun v _ => v = pairX (evalX colX a)) := fun V' hV => eval_spec cs vs colX hc a xa V' hok.1 (hra.mono hV) (fun tb nm V2 h2 => hcol tb nm V2 (View.le_trans hV h2))
    have ih2 : ∀ V', V.le V' → PSpec 42 [.agg #[cs, vs], xagg xb] V' (fun v _ => v = pairX (evalX colX b)) := fun V' hV => eval_spec cs vs colX hc b xb V' hok.2 (hrb.mono hV) (fun tb nm V2 h2 => hcol tb nm V2 (View.le_trans hV h2))
    refine pspec [] (args := [.v _, .v _]) Try.func42 (by kernel_rfl) rfl ?_
    conv => whnf
    intro b1
    conv => whnf
    intro b2
    conv => whnf
    intro b3
    conv => whnf
    refine br_f (by simp only [beq_eq_false_iff_ne, ne_eq]; omega) ?_
    conv => whnf
    refine br_f (by simp only [beq_eq_false_iff_ne, ne_eq]; omega) ?_
    conv => whnf
    refine CallN.pure (one_spec xop _) fun v V1 _ hV1 hv => ?_
    rw [if_neg (by omega)] at hv
    subst hv
    conv => whnf
    refine br_f rfl ?_
    conv => whnf
    apply br <;> intro h14 <;> conv => whnf
    · simp only [beq_iff_eq] at h14
      subst h14
      refine CallN.pure (either_spec cs vs 0 ⟨14, xv, xtb, xnm, some ⟨p, off, none⟩, 2, xcap⟩ xa xb _ _ p off _ rfl rfl (hs.mono hV1) (fun V' hV' => ih V' (View.le_trans hV1 hV')) (fun V' hV' => ih2 V' (View.le_trans hV1 hV'))) fun v V2 _ hV2 hv => ?_
      subst hv
      conv => whnf
      refine ret_pure ?_
      rw [show evalX colX (.bin 14 a b) = (if (evalX colX a).2 ≠ 0 ∨ (evalX colX a).1.n = 0 then evalX colX a else evalX colX b) from by simp [evalX]]
      rfl
    apply br <;> intro h15 <;> conv => whnf
    · simp only [beq_iff_eq] at h15
      subst h15
      refine CallN.pure (either_spec cs vs 1 ⟨15, xv, xtb, xnm, some ⟨p, off, none⟩, 2, xcap⟩ xa xb _ _ p off _ rfl rfl (hs.mono hV1) (fun V' hV' => ih V' (View.le_trans hV1 hV')) (fun V' hV' => ih2 V' (View.le_trans hV1 hV'))) fun v V2 _ hV2 hv => ?_
      subst hv
      conv => whnf
      refine ret_pure ?_
      rw [show evalX colX (.bin 15 a b) = (if (evalX colX a).2 ≠ 0 ∨ (evalX colX a).1.n = 1 then evalX colX a else evalX colX b) from by simp [evalX]]
      rfl
    simp only [beq_eq_false_iff_ne, ne_eq] at h14 h15
    have hno : ¬ (xop = 14 ∨ xop = 15) := by omega
    refine CallN.pure (each2_spec (.agg #[cs, vs]) xa xb _ _ p off xcap _ (hs.mono hV1) (fun V' hV' => ih V' (View.le_trans hV1 hV')) (fun V' hV' => ih2 V' (View.le_trans hV1 hV'))) fun v V2 _ hV2 hv => ?_
    unfold Each2 at hv
    split at hv
    · rename_i h0
      split at hv
      · rename_i h1
        obtain ⟨p2, off2, cap2, rfl, hs2⟩ := hv
        conv => whnf
        refine br_f rfl ?_
        conv => whnf
        refine CallN.pure (does2_spec xop (by omega) _ _ (evalX_inR hc a hok.1) (evalX_inR hc b hok.2) p2 off2 cap2 _ hs2) fun v V3 _ hV3 hv => ?_
        subst hv
        conv => whnf
        refine ret_pure ?_
        rw [evalX, if_neg hno, if_pos h0, if_pos h1]
        rfl
      · rename_i h1
        subst hv
        conv => whnf
        refine br_t (by simpa using h1) ?_
        conv => whnf
        refine ret_pure ?_
        rw [evalX, if_neg hno, if_pos h0, if_neg h1]
        rfl
    · rename_i h0
      subst hv
      conv => whnf
      refine br_t (by simpa using h0) ?_
      conv => whnf
      refine ret_pure ?_
      rw [evalX, if_neg hno, if_neg h0]
      rfl
theorem Eval_spec (cb vb : Option Addr) (cl cc vl vc : Nat) (colX : ByteArray → ByteArray → Val × Int) (hc : ∀ tb nm, InR (colX tb nm).1.n) (e : E) (x : XC) (V : View) (hok : e.ok) (hr : RepE V e x)
    (hcol : ∀ tb nm V', V.le V' → PSpec 67 [.agg #[.slice cb cl cc, .slice vb vl vc], .string tb, .string nm] V' (fun v _ => v = pairX (colX tb nm))) : PSpec 20 [.slice cb cl cc, .slice vb vl vc, xagg x] V (fun v _ => v = pairX (evalX colX e)) := by
  refine pspec [] (args := [.v _, .v _, .v _]) Try.func20 (by kernel_rfl) rfl ?_
  conv => whnf
  intro b1
  conv => whnf
  intro b2
  conv => whnf
  refine CallN.pure (eval_spec (.slice cb cl cc) (.slice vb vl vc) colX hc e x _ hok hr hcol) fun v V1 _ hV1 hv => ?_
  subst hv
  conv => whnf
  exact ret_pure rfl
end Go.Proofs.Ytenpginanhnkbaa
end

section
set_option linter.unusedSimpArgs false
set_option linter.unusedVariables false
namespace Go.Proofs.Ytenpginanhnkbaa
open Go.X
set_option maxRecDepth 100000
set_option linter.unusedSimpArgs false

/-! ## the document's arithmetic -/
theorem wrapU (x : Int) : IntKind.u64.wrap x = x % 18446744073709551616 := by
  simp [IntKind.wrap, IntKind.signed, IntKind.bits]
theorem radd_spec (a b : Int) (ha : InR a) (hb : InR b) (V : View) : PSpec 36 [.int .i64 a, .int .i64 b] V (fun v _ => v = pairV (fits (a + b))) := by
  refine pspec [] (args := [.v _, .v _]) Try.func36 (by kernel_rfl) rfl ?_
  conv => whnf
  obtain ⟨h1, h2⟩ := ha
  obtain ⟨h3, h4⟩ := hb
  repeat' (apply br <;> intro h <;> conv => whnf)
  all_goals (refine ret_pure ?_)
  all_goals
    simp only [decide_eq_true_eq, decide_eq_false_iff_not, wrapE] at *
    first
      | (show pairV (0, 8) = _
         unfold fits
         rw [if_neg (by omega)])
      | (unfold fits
         rw [if_pos (by omega)]
         show pairV ((a + b + 9223372036854775808) % 18446744073709551616 - 9223372036854775808, 0) = _
         congr 2
         omega)
theorem rsub_spec (a b : Int) (ha : InR a) (hb : InR b) (V : View) : PSpec 71 [.int .i64 a, .int .i64 b] V (fun v _ => v = pairV (fits (a - b))) := by
  refine pspec [] (args := [.v _, .v _]) Try.func71 (by kernel_rfl) rfl ?_
  conv => whnf
  obtain ⟨h1, h2⟩ := ha
  obtain ⟨h3, h4⟩ := hb
  repeat' (apply br <;> intro h <;> conv => whnf)
  all_goals (refine ret_pure ?_)
  all_goals
    simp only [decide_eq_true_eq, decide_eq_false_iff_not, wrapE] at *
    first
      | (show pairV (0, 8) = _
         unfold fits
         rw [if_neg (by omega)])
      | (unfold fits
         rw [if_pos (by omega)]
         show pairV ((a - b + 9223372036854775808) % 18446744073709551616 - 9223372036854775808, 0) = _
         congr 2
         omega)
theorem rneg_spec (a : Int) (ha : InR a) (V : View) : PSpec 44 [.int .i64 a] V (fun v _ => v = pairV (fits (-a))) := by
  refine pspec [] (args := [.v _]) Try.func44 (by kernel_rfl) rfl ?_
  conv => whnf
  refine CallN.pure (rsub_spec 0 a ⟨by decide, by decide⟩ ha _) fun v V' _ _ hv => ?_
  subst hv
  conv => whnf
  refine ret_pure ?_
  show pairV (fits (0 - a)) = _
  rw [Int.zero_sub]
theorem rsize_spec (a : Int) (ha : InR a) (V : View) : PSpec 98 [.int .i64 a] V (fun v _ => v = .int .u64 a.natAbs) := by
  refine pspec [] (args := [.v _]) Try.func98 (by kernel_rfl) rfl ?_
  conv => whnf
  obtain ⟨h1, h2⟩ := ha
  repeat' (apply br <;> intro h <;> conv => whnf)
  all_goals (refine ret_pure ?_)
  all_goals simp only [decide_eq_true_eq, decide_eq_false_iff_not] at h
  all_goals
    show Value.int IntKind.u64 _ = _
    congr 1
    simp only [wrapU, wrapE]
    omega
theorem quo_runU (x y : Operand) (p b : Int) (h : b ≠ 0) (w : World) : Sem.run Try.prog (do
      eqGuard BinOp.quo 150 x y (.int .u64 p) (.int .u64 b)
      binOp BinOp.quo 150 (.int .u64 p) (.int .u64 b)) w = .ok (.int .u64 (IntKind.u64.wrap (p.tdiv b))) w := by
  simp [eqGuard, binOp, Op.intDiv, h]
theorem sign_law (a b : Int) : ((a < 0 ↔ b < 0) → 0 ≤ a * b) ∧ (¬ (a < 0 ↔ b < 0) → a * b ≤ 0) := by
  refine ⟨fun h => ?_, fun h => ?_⟩
  · by_cases ha : a < 0
    · exact Int.mul_nonneg_of_nonpos_of_nonpos (by omega) (by have := h.1 ha; omega)
    · exact Int.mul_nonneg (by omega) (by
        by_cases hb : b < 0
        · exact absurd (h.2 hb) ha
        · omega)
  · by_cases ha : a < 0
    · exact Int.mul_nonpos_of_nonpos_of_nonneg (by omega) (by
        by_cases hb : b < 0
        · exact absurd ⟨fun _ => hb, fun _ => ha⟩ h
        · omega)
    · exact Int.mul_nonpos_of_nonneg_of_nonpos (by omega) (by
        by_cases hb : b < 0
        · omega
        · exact absurd ⟨fun h => absurd h ha, fun h => absurd h hb⟩ h)
theorem rmul_spec (a b : Int) (ha : InR a) (hb : InR b) (V : View) : PSpec 72 [.int .i64 a, .int .i64 b] V (fun v _ => v = pairV (fits (a * b))) := by
  refine pspec [] (args := [.v _, .v _]) Try.func72 (by kernel_rfl) rfl ?_
  conv => whnf
  apply br <;> intro h0 <;> conv => whnf
  · refine ret_pure ?_
    simp only [beq_iff_eq] at h0
    subst h0
    show pairV (0, 0) = _
    simp [fits]
  apply br <;> intro h1 <;> conv => whnf
  · refine ret_pure ?_
    simp only [beq_iff_eq] at h1
    subst h1
    show pairV (0, 0) = _
    simp [fits]
  apply br <;> intro h2 <;> conv => whnf
  all_goals
    refine CallN.pure (rsize_spec a ha _) fun v V' _ _ hv => ?_
    subst hv
    conv => whnf
    refine CallN.pure (rsize_spec b hb _) fun v V' _ _ hv => ?_
    subst hv
    conv => whnf
    simp only [beq_eq_false_iff_ne, ne_eq] at h0 h1
    refine ⟨⟨_, quo_runU _ _ _ _ (by omega), ?_⟩⟩
    conv => whnf
    have hB : (0 : Int) < (b.natAbs : Int) := by omega
    have hq : (IntKind.u64.wrap (9223372036854775807 + 1)) = 9223372036854775808 := by rw [wrapU]; rfl
    have hn : (a * b).natAbs = a.natAbs * b.natAbs := Int.natAbs_mul a b
    have hs := sign_law a b
    apply br <;> intro h3 <;> conv => whnf
    all_goals
      refine ret_pure ?_
      simp only [hq, wrapU, gt_iff_lt, decide_eq_true_eq, decide_eq_false_iff_not] at h3
      rw [Int.tdiv_eq_ediv_of_nonneg (by decide)] at h3
      rw [Int.emod_eq_of_lt (Int.ediv_nonneg (by decide) (by omega)) (by
        refine Int.lt_of_le_of_lt (Int.ediv_le_self _ (by decide)) (by decide)), Int.ediv_lt_iff_lt_mul hB] at h3
      rw [← Int.natCast_mul, ← hn] at h3
      simp only [Bool.not_eq_true', Bool.not_eq_false', beq_eq_false_iff_ne, beq_iff_eq, ne_eq, decide_eq_decide] at h2
    · show pairV (0, 8) = _
      unfold fits
      rw [if_neg (by omega)]
    · show pairV (IntKind.i64.wrap (a * b), 0) = _
      unfold fits
      rw [if_pos (by omega), wrapE]
      congr 2
      omega
theorem rtruth_spec (b : Bool) (V : View) : PSpec 45 [.bool b] V (fun v _ => v = vv (truthV b)) := by
  refine pspec [] (args := [.v _]) Try.func45 (by kernel_rfl) rfl ?_
  conv => whnf
  intro b1
  conv => whnf
  apply br <;> intro h <;> conv => whnf
  all_goals
    subst h
    exact ret_pure rfl
theorem rcmp_spec (a b : Val) (ha : a.k = 1) (hb : b.k = 1) (V : View) : PSpec 33 [vv a, vv b] V (fun v _ => v = .int .i64 (cmpI a.n b.n)) := by
  obtain ⟨ak, an, at'⟩ := a
  obtain ⟨bk, bn, bt⟩ := b
  simp only at ha hb
  subst ha; subst hb
  refine pspec [] (args := [.v _, .v _]) Try.func33 (by kernel_rfl) rfl ?_
  conv => whnf
  intro b1
  conv => whnf
  intro b2
  conv => whnf
  refine br_f rfl ?_
  conv => whnf
  refine br_f rfl ?_
  conv => whnf
  refine br_t rfl ?_
  conv => whnf
  apply br <;> intro h <;> conv => whnf
  · refine ret_pure ?_
    simp_all [packVals, cmpI]
  refine br_t rfl ?_
  conv => whnf
  apply br <;> intro h2 <;> conv => whnf
  · refine ret_pure ?_
    simp_all [packVals, cmpI]
  refine br_t rfl ?_
  conv => whnf
  refine ret_pure ?_
  simp_all [packVals, cmpI]
  omega
/-- two values and what comparing them says -/
def binY (c : Int) (op : Int) (a b : Val) : Val × Int :=
  if op = 5 then wholeV (fits (a.n + b.n)) else if op = 6 then wholeV (fits (a.n - b.n)) else if op = 7 then wholeV (fits (a.n * b.n))
  else if op = 8 then (truthV (c == 0), 0) else if op = 9 then (truthV (c != 0), 0) else if op = 10 then (truthV (decide (c < 0)), 0)
  else if op = 11 then (truthV (decide (c ≤ 0)), 0) else if op = 12 then (truthV (decide (0 < c)), 0) else if op = 13 then (truthV (decide (0 ≤ c)), 0) else (v0, 1)
theorem binX_eq (op : Int) (a b : Val) : binX op a b = binY (cmpV a b) op a b := rfl
theorem two_spec (op c : Int) (hop : 5 ≤ op ∧ op ≤ 13) (a b : Val) (ha : InR a.n) (hb : InR b.n) (V : View) (hcmp : 8 ≤ op → ∀ V', V.le V' → PSpec 33 [vv a, vv b] V' (fun v _ => v = .int .i64 c)) :
    PSpec 46 [.int .i64 op, vv a, vv b] V (fun v _ => v = pairX (binY c op a b)) := by
  have hcases : op = 5 ∨ op = 6 ∨ op = 7 ∨ op = 8 ∨ op = 9 ∨ op = 10 ∨ op = 11 ∨ op = 12 ∨ op = 13 := by omega
  rcases hcases with rfl | rfl | rfl | rfl | rfl | rfl | rfl | rfl | rfl
  · refine pspec [] (args := [.v _, .v _, .v _]) Try.func46 (by kernel_rfl) rfl ?_
    conv => whnf
    intro b1
    conv => whnf
    intro b2
    conv => whnf
    intro b3
    conv => whnf
    refine br_f rfl ?_
    conv => whnf
    refine br_f rfl ?_
    conv => whnf
    refine CallN.pure (radd_spec a.n b.n ha hb _) fun v V1 _ hV hv => ?_
    subst hv
    conv => whnf
    refine br_f rfl ?_
    conv => whnf
    refine br_f rfl ?_
    conv => whnf
    apply br <;> intro he <;> conv => whnf
    · have he : (fits (a.n + b.n)).2 ≠ 0 := by simpa using he
      refine ret_pure ?_
      rw [show binY c 5 a b = wholeV (fits (a.n + b.n)) from rfl]
      unfold wholeV
      rw [if_neg he]; rfl
    · have he : (fits (a.n + b.n)).2 = 0 := by simpa using he
      refine ret_pure ?_
      rw [show binY c 5 a b = wholeV (fits (a.n + b.n)) from rfl]
      unfold wholeV
      rw [if_pos he]; rfl
  · refine pspec [] (args := [.v _, .v _, .v _]) Try.func46 (by kernel_rfl) rfl ?_
    conv => whnf
    intro b1
    conv => whnf
    intro b2
    conv => whnf
    intro b3
    conv => whnf
    refine br_f rfl ?_
    conv => whnf
    refine br_f rfl ?_
    conv => whnf
    refine CallN.pure (radd_spec a.n b.n ha hb _) fun v V1 _ hV hv => ?_
    subst hv
    conv => whnf
    refine br_t rfl ?_
    conv => whnf
    refine CallN.pure (rsub_spec a.n b.n ha hb _) fun v V1 _ hV hv => ?_
    subst hv
    conv => whnf
    apply br <;> intro he <;> conv => whnf
    · have he : (fits (a.n - b.n)).2 ≠ 0 := by simpa using he
      refine ret_pure ?_
      rw [show binY c 6 a b = wholeV (fits (a.n - b.n)) from rfl]
      unfold wholeV
      rw [if_neg he]; rfl
    · have he : (fits (a.n - b.n)).2 = 0 := by simpa using he
      refine ret_pure ?_
      rw [show binY c 6 a b = wholeV (fits (a.n - b.n)) from rfl]
      unfold wholeV
      rw [if_pos he]; rfl
  · refine pspec [] (args := [.v _, .v _, .v _]) Try.func46 (by kernel_rfl) rfl ?_
    conv => whnf
    intro b1
    conv => whnf
    intro b2
    conv => whnf
    intro b3
    conv => whnf
    refine br_f rfl ?_
    conv => whnf
    refine br_f rfl ?_
    conv => whnf
    refine CallN.pure (radd_spec a.n b.n ha hb _) fun v V1 _ hV hv => ?_
    subst hv
    conv => whnf
    refine br_f rfl ?_
    conv => whnf
    refine br_t rfl ?_
    conv => whnf
    refine CallN.pure (rmul_spec a.n b.n ha hb _) fun v V1 _ hV hv => ?_
    subst hv
    conv => whnf
    apply br <;> intro he <;> conv => whnf
    · have he : (fits (a.n * b.n)).2 ≠ 0 := by simpa using he
      refine ret_pure ?_
      rw [show binY c 7 a b = wholeV (fits (a.n * b.n)) from rfl]
      unfold wholeV
      rw [if_neg he]; rfl
    · have he : (fits (a.n * b.n)).2 = 0 := by simpa using he
      refine ret_pure ?_
      rw [show binY c 7 a b = wholeV (fits (a.n * b.n)) from rfl]
      unfold wholeV
      rw [if_pos he]; rfl
  · refine pspec [] (args := [.v _, .v _, .v _]) Try.func46 (by kernel_rfl) rfl ?_
    conv => whnf
    intro b1
    conv => whnf
    intro b2
    conv => whnf
    intro b3
    conv => whnf
    refine br_f rfl ?_
    conv => whnf
    refine br_t rfl ?_
    conv => whnf
    refine CallN.pure (hcmp (by decide) _ (View.le_refl _)) fun v V1 _ hV hv => ?_
    subst hv
    conv => whnf
    intro b4 V2 hV2 h4
    conv => whnf
    refine IdxN.lit rfl rfl ?_
    conv => whnf
    refine LoadN.of h4 0 rfl rfl ?_
    conv => whnf
    refine CallN.pure (rtruth_spec _ _) fun v V1 _ hV hv => ?_
    subst hv
    conv => whnf
    refine ret_pure ?_
    rfl
  · refine pspec [] (args := [.v _, .v _, .v _]) Try.func46 (by kernel_rfl) rfl ?_
    conv => whnf
    intro b1
    conv => whnf
    intro b2
    conv => whnf
    intro b3
    conv => whnf
    refine br_f rfl ?_
    conv => whnf
    refine br_t rfl ?_
    conv => whnf
    refine CallN.pure (hcmp (by decide) _ (View.le_refl _)) fun v V1 _ hV hv => ?_
    subst hv
    conv => whnf
    intro b4 V2 hV2 h4
    conv => whnf
    refine IdxN.lit rfl rfl ?_
    conv => whnf
    refine LoadN.of h4 1 rfl rfl ?_
    conv => whnf
    refine CallN.pure (rtruth_spec _ _) fun v V1 _ hV hv => ?_
    subst hv
    conv => whnf
    refine ret_pure ?_
    rfl
  · refine pspec [] (args := [.v _, .v _, .v _]) Try.func46 (by kernel_rfl) rfl ?_
    conv => whnf
    intro b1
    conv => whnf
    intro b2
    conv => whnf
    intro b3
    conv => whnf
    refine br_f rfl ?_
    conv => whnf
    refine br_t rfl ?_
    conv => whnf
    refine CallN.pure (hcmp (by decide) _ (View.le_refl _)) fun v V1 _ hV hv => ?_
    subst hv
    conv => whnf
    intro b4 V2 hV2 h4
    conv => whnf
    refine IdxN.lit rfl rfl ?_
    conv => whnf
    refine LoadN.of h4 2 rfl rfl ?_
    conv => whnf
    refine CallN.pure (rtruth_spec _ _) fun v V1 _ hV hv => ?_
    subst hv
    conv => whnf
    refine ret_pure ?_
    rfl
  · refine pspec [] (args := [.v _, .v _, .v _]) Try.func46 (by kernel_rfl) rfl ?_
    conv => whnf
    intro b1
    conv => whnf
    intro b2
    conv => whnf
    intro b3
    conv => whnf
    refine br_f rfl ?_
    conv => whnf
    refine br_t rfl ?_
    conv => whnf
    refine CallN.pure (hcmp (by decide) _ (View.le_refl _)) fun v V1 _ hV hv => ?_
    subst hv
    conv => whnf
    intro b4 V2 hV2 h4
    conv => whnf
    refine IdxN.lit rfl rfl ?_
    conv => whnf
    refine LoadN.of h4 3 rfl rfl ?_
    conv => whnf
    refine CallN.pure (rtruth_spec _ _) fun v V1 _ hV hv => ?_
    subst hv
    conv => whnf
    refine ret_pure ?_
    rfl
  · refine pspec [] (args := [.v _, .v _, .v _]) Try.func46 (by kernel_rfl) rfl ?_
    conv => whnf
    intro b1
    conv => whnf
    intro b2
    conv => whnf
    intro b3
    conv => whnf
    refine br_f rfl ?_
    conv => whnf
    refine br_t rfl ?_
    conv => whnf
    refine CallN.pure (hcmp (by decide) _ (View.le_refl _)) fun v V1 _ hV hv => ?_
    subst hv
    conv => whnf
    intro b4 V2 hV2 h4
    conv => whnf
    refine IdxN.lit rfl rfl ?_
    conv => whnf
    refine LoadN.of h4 4 rfl rfl ?_
    conv => whnf
    refine CallN.pure (rtruth_spec _ _) fun v V1 _ hV hv => ?_
    subst hv
    conv => whnf
    refine ret_pure ?_
    rfl
  · refine pspec [] (args := [.v _, .v _, .v _]) Try.func46 (by kernel_rfl) rfl ?_
    conv => whnf
    intro b1
    conv => whnf
    intro b2
    conv => whnf
    intro b3
    conv => whnf
    refine br_f rfl ?_
    conv => whnf
    refine br_t rfl ?_
    conv => whnf
    refine CallN.pure (hcmp (by decide) _ (View.le_refl _)) fun v V1 _ hV hv => ?_
    subst hv
    conv => whnf
    intro b4 V2 hV2 h4
    conv => whnf
    refine IdxN.lit rfl rfl ?_
    conv => whnf
    refine LoadN.of h4 5 rfl rfl ?_
    conv => whnf
    refine CallN.pure (rtruth_spec _ _) fun v V1 _ hV hv => ?_
    subst hv
    conv => whnf
    refine ret_pure ?_
    rfl
end Go.Proofs.Ytenpginanhnkbaa
end

section
set_option linter.unusedSimpArgs false
set_option linter.unusedVariables false
namespace Go.Proofs.Ytenpginanhnkbaa
open Go.X
set_option maxRecDepth 100000
set_option linter.unusedSimpArgs false

def twoR (cmpR : Val → Val → Int) (op : Int) (a b : Val) : Val × Int := if 14 ≤ op then (truthV (b.n == 1), 0) else binY (cmpR a b) op a b
/-- the document's answer -/
def refX (cmpR : Val → Val → Int) (colR : ByteArray → ByteArray → Val × Int) : E → Val × Int
  | .lit v => (v, 0)
  | .col tb nm => colR tb nm
  | .un op a => if (refX cmpR colR a).2 = 0 then unX op (refX cmpR colR a).1 else (v0, (refX cmpR colR a).2)
  | .bin op a b =>
    if (refX cmpR colR a).2 ≠ 0 then (v0, (refX cmpR colR a).2)
    else if op = 14 ∧ (refX cmpR colR a).1.n = 0 then (truthV false, 0)
    else if op = 15 ∧ (refX cmpR colR a).1.n = 1 then (truthV true, 0)
    else if (refX cmpR colR b).2 ≠ 0 then (v0, (refX cmpR colR b).2) else twoR cmpR op (refX cmpR colR a).1 (refX cmpR colR b).1
theorem binY_inR (c op : Int) (a b : Val) : InR (binY c op a b).1.n := by
  unfold binY
  repeat' split
  all_goals first | exact whole_inR (fits_inR _) | exact truth_inR _ | exact v0_inR
theorem refX_inR {cmpR : Val → Val → Int} {colR : ByteArray → ByteArray → Val × Int} (hc : ∀ tb nm, InR (colR tb nm).1.n) : ∀ (e : E), e.ok → InR (refX cmpR colR e).1.n
  | .lit v, h => h
  | .col tb nm, _ => hc tb nm
  | .un op a, h => by
    unfold refX
    split
    · exact unX_inR _ _
    · exact v0_inR
  | .bin op a b, h => by
    unfold refX twoR
    repeat' split
    all_goals first | exact binY_inR _ _ _ _ | exact truth_inR _ | exact v0_inR
theorem two14_spec (op : Int) (hop : 14 ≤ op) (a b : Val) (V : View) : PSpec 46 [.int .i64 op, vv a, vv b] V (fun v _ => v = pairX (truthV (b.n == 1), 0)) := by
  refine pspec [] (args := [.v _, .v _, .v _]) Try.func46 (by kernel_rfl) rfl ?_
  conv => whnf
  intro b1
  conv => whnf
  intro b2
  conv => whnf
  intro b3
  conv => whnf
  refine br_t (by simpa using hop) ?_
  conv => whnf
  refine CallN.pure (rtruth_spec _ _) fun v V1 _ hV hv => ?_
  subst hv
  conv => whnf
  exact ret_pure rfl
/-- where comparisons are met, the document can hold the two together -/
def E.fine (ok : Val → Val → Prop) (cmpR : Val → Val → Int) (colR : ByteArray → ByteArray → Val × Int) : E → Prop
  | .lit _ => True
  | .col _ _ => True
  | .un _ a => a.fine ok cmpR colR
  | .bin op a b => a.fine ok cmpR colR ∧ b.fine ok cmpR colR ∧ (8 ≤ op ∧ op ≤ 13 → ok (refX cmpR colR a).1 (refX cmpR colR b).1)
theorem two_gen {ok : Val → Val → Prop} {cmpR : Val → Val → Int} (op : Int) (hop : 5 ≤ op ∧ op ≤ 15) (a b : Val) (ha : InR a.n) (hb : InR b.n) (V : View) (hf : 8 ≤ op ∧ op ≤ 13 → ok a b)
    (hcmp : ∀ a b V', ok a b → PSpec 33 [vv a, vv b] V' (fun v _ => v = .int .i64 (cmpR a b))) : PSpec 46 [.int .i64 op, vv a, vv b] V (fun v _ => v = pairX (twoR cmpR op a b)) := by
  unfold twoR
  split
  · rename_i h; exact two14_spec op h a b V
  · exact two_spec op _ (by omega) a b ha hb V (fun h8 V' _ => hcmp a b V' (hf ⟨h8, by omega⟩))
theorem ref_spec (cs vs : Value) (ok : Val → Val → Prop) (cmpR : Val → Val → Int) (colR : ByteArray → ByteArray → Val × Int) (hc : ∀ tb nm, InR (colR tb nm).1.n)
    (hcmp : ∀ a b V', ok a b → PSpec 33 [vv a, vv b] V' (fun v _ => v = .int .i64 (cmpR a b))) : ∀ (e : E) (x : XC) (V : View), e.ok → e.fine ok cmpR colR → RepE V e x →
    (∀ x V', V.le V' → x.op = 2 → PSpec 21 [cs, vs, xagg x] V' (fun v _ => v = pairX (colR x.tb x.nm))) → PSpec 21 [cs, vs, xagg x] V (fun v _ => v = pairX (refX cmpR colR e))
  | .lit v, ⟨xop, xv, xtb, xnm, xbase, xlen, xcap⟩, V, hok, hf, hr, hcol => by
    obtain ⟨hop, hv⟩ := hr
    simp only at hop hv
    subst hop; subst hv
    refine pspec [] (args := [.v _, .v _, .v _]) Try.func21 (by kernel_rfl) rfl ?_
    conv => whnf
    intro b1
    conv => whnf
    intro b2
    conv => whnf
    refine br_t rfl ?_
    conv => whnf
    exact ret_pure rfl
  | .col tb nm, x, V, hok, hf, ⟨hop, h1, h2⟩, hcol => by
    subst h1; subst h2
    exact hcol x V (View.le_refl _) hop
  | .un op a, ⟨xop, xv, xtb, xnm, xbase, xlen, xcap⟩, V, hok, hf, hr, hcol => by
    obtain ⟨hop, hop2, hl, p, off, xa, hb, hs, hra⟩ := hr
    simp only at hop hl hb
    subst hop; subst hl; subst hb
    have ih : ∀ V', V.le V' → PSpec 21 [cs, vs, xagg xa] V' (fun v _ => v = pairX (refX cmpR colR a)) := fun V' hV => ref_spec cs vs ok cmpR colR hc hcmp a xa V' hok hf (hra.mono hV) (fun x V2 h2 => hcol x V2 (View.le_trans hV h2))
    refine pspec [] (args := [.v _, .v _, .v _]) Try.func21 (by kernel_rfl) rfl ?_
    conv => whnf
    intro b1
    conv => whnf
    intro b2
    conv => whnf
    refine br_f (by simp only [beq_eq_false_iff_ne, ne_eq]; omega) ?_
    conv => whnf
    refine br_f (by simp only [beq_eq_false_iff_ne, ne_eq]; omega) ?_
    conv => whnf
    refine IdxN.lit rfl rfl ?_
    conv => whnf
    refine LoadN.of hs 0 rfl rfl ?_
    conv => whnf
    refine CallN.pure (ih _ (View.le_refl _)) fun v V1 _ hV1 hv => ?_
    subst hv
    conv => whnf
    intro b3
    conv => whnf
    apply br <;> intro h0 <;> conv => whnf
    · have h0 : (refX cmpR colR a).2 ≠ 0 := by simpa using h0
      refine ret_pure ?_
      rw [refX, if_neg h0]
      rfl
    have h0 : (refX cmpR colR a).2 = 0 := by simpa using h0
    rcases hop2 with rfl | rfl
    · refine br_t rfl ?_
      conv => whnf
      refine CallN.pure (rneg_spec _ (refX_inR hc a hok) _) fun v V2 _ hV2 hv => ?_
      subst hv
      conv => whnf
      apply br <;> intro he <;> conv => whnf
      · have he : (fits (-(refX cmpR colR a).1.n)).2 ≠ 0 := by simpa using he
        refine ret_pure ?_
        rw [refX, if_pos h0, show unX 3 (refX cmpR colR a).1 = wholeV (fits (-(refX cmpR colR a).1.n)) from rfl]
        unfold wholeV
        rw [if_neg he]
        rfl
      · have he : (fits (-(refX cmpR colR a).1.n)).2 = 0 := by simpa using he
        refine ret_pure ?_
        rw [refX, if_pos h0, show unX 3 (refX cmpR colR a).1 = wholeV (fits (-(refX cmpR colR a).1.n)) from rfl]
        unfold wholeV
        rw [if_pos he]
        rfl
    · refine br_f rfl ?_
      conv => whnf
      refine br_t rfl ?_
      conv => whnf
      refine CallN.pure (rtruth_spec _ _) fun v V2 _ hV2 hv => ?_
      subst hv
      conv => whnf
      refine ret_pure ?_
      rw [refX, if_pos h0]
      rfl
  | .bin op a b, ⟨xop, xv, xtb, xnm, xbase, xlen, xcap⟩, V, hok, hf, hr, hcol => by
    obtain ⟨hop, hop2, hl, p, off, xa, xb, hb, hs, hra, hrb⟩ := hr
    simp only at hop hl hb
    subst hop; subst hl; subst hb
    have ih : ∀ V', V.le V' → PSpec 21 [cs, vs, xagg xa] V' (fun v _ => v = pairX (refX cmpR colR a)) := fun V' hV => ref_spec cs vs ok cmpR colR hc hcmp a xa V' hok.1 hf.1 (hra.mono hV) (fun x V2 h2 => hcol x V2 (View.le_trans hV h2))
    have ih2 : ∀ V', V.le V' → PSpec 21 [cs, vs, xagg xb] V' (fun v _ => v = pairX (refX cmpR colR b)) := fun V' hV => ref_spec cs vs ok cmpR colR hc hcmp b xb V' hok.2 hf.2.1 (hrb.mono hV) (fun x V2 h2 => hcol x V2 (View.le_trans hV h2))
    refine pspec [] (args := [.v _, .v _, .v _]) Try.func21 (by kernel_rfl) rfl ?_
    conv => whnf
    intro b1
    conv => whnf
    intro b2
    conv => whnf
    refine br_f (by simp only [beq_eq_false_iff_ne, ne_eq]; omega) ?_
    conv => whnf
    refine br_f (by simp only [beq_eq_false_iff_ne, ne_eq]; omega) ?_
    conv => whnf
    refine IdxN.lit rfl rfl ?_
    conv => whnf
    refine LoadN.of hs 0 rfl rfl ?_
    conv => whnf
    refine CallN.pure (ih _ (View.le_refl _)) fun v V1 _ hV1 hv => ?_
    subst hv
    conv => whnf
    intro b3
    conv => whnf
    apply br <;> intro h0 <;> conv => whnf
    · have h0 : (refX cmpR colR a).2 ≠ 0 := by simpa using h0
      refine ret_pure ?_
      rw [refX, if_pos h0]
      rfl
    have h0 : (refX cmpR colR a).2 = 0 := by simpa using h0
    refine br_f (by simp only [beq_eq_false_iff_ne, ne_eq]; omega) ?_
    conv => whnf
    refine br_f (by simp only [beq_eq_false_iff_ne, ne_eq]; omega) ?_
    conv => whnf
    have fin : ¬ (xop = 14 ∧ (refX cmpR colR a).1.n = 0) → ¬ (xop = 15 ∧ (refX cmpR colR a).1.n = 1) → refX cmpR colR (.bin xop a b) = (if (refX cmpR colR b).2 ≠ 0 then (v0, (refX cmpR colR b).2) else twoR cmpR xop (refX cmpR colR a).1 (refX cmpR colR b).1) := fun h1 h2 => by
      rw [refX, if_neg (by simp [h0]), if_neg h1, if_neg h2]
    apply br <;> intro h14 <;> conv => whnf
    · simp only [beq_iff_eq] at h14
      apply br <;> intro h1 <;> conv => whnf
      · refine CallN.pure (rtruth_spec _ _) fun v V2 _ hV2 hv => ?_
        subst hv
        conv => whnf
        refine ret_pure ?_
        rw [refX, if_neg (by simp [h0]), if_pos ⟨h14, by simpa using h1⟩]
        rfl
      rw [fin (by simp_all) (by omega)]
      refine IdxN.lit rfl rfl ?_
      conv => whnf
      refine LoadN.of (hs.mono hV1) 7 rfl rfl ?_
      conv => whnf
      refine CallN.pure (ih2 _ hV1) fun v V2 _ hV2 hv => ?_
      subst hv
      conv => whnf
      intro b4
      conv => whnf
      apply br <;> intro h2 <;> conv => whnf
      · refine ret_pure ?_
        rw [if_pos (by simpa using h2)]
        rfl
      refine CallN.pure (two_gen xop hop2 _ _ (refX_inR hc a hok.1) (refX_inR hc b hok.2) _ hf.2.2 hcmp) fun v V3 _ hV3 hv => ?_
      subst hv
      conv => whnf
      refine ret_pure ?_
      rw [if_neg (by simpa using h2)]
      rfl
    apply br <;> intro h15 <;> conv => whnf
    · simp only [beq_iff_eq] at h15
      apply br <;> intro h1 <;> conv => whnf
      · refine CallN.pure (rtruth_spec _ _) fun v V2 _ hV2 hv => ?_
        subst hv
        conv => whnf
        refine ret_pure ?_
        rw [refX, if_neg (by simp [h0]), if_neg (by omega), if_pos ⟨h15, by simpa using h1⟩]
        rfl
      rw [fin (by omega) (by simp_all)]
      refine IdxN.lit rfl rfl ?_
      conv => whnf
      refine LoadN.of (hs.mono hV1) 7 rfl rfl ?_
      conv => whnf
      refine CallN.pure (ih2 _ hV1) fun v V2 _ hV2 hv => ?_
      subst hv
      conv => whnf
      intro b4
      conv => whnf
      apply br <;> intro h2 <;> conv => whnf
      · refine ret_pure ?_
        rw [if_pos (by simpa using h2)]
        rfl
      refine CallN.pure (two_gen xop hop2 _ _ (refX_inR hc a hok.1) (refX_inR hc b hok.2) _ hf.2.2 hcmp) fun v V3 _ hV3 hv => ?_
      subst hv
      conv => whnf
      refine ret_pure ?_
      rw [if_neg (by simpa using h2)]
      rfl
    simp only [beq_eq_false_iff_ne, ne_eq] at h14 h15
    rw [fin (by simp_all) (by simp_all)]
    refine IdxN.lit rfl rfl ?_
    conv => whnf
    refine LoadN.of (hs.mono hV1) 7 rfl rfl ?_
    conv => whnf
    refine CallN.pure (ih2 _ hV1) fun v V2 _ hV2 hv => ?_
    subst hv
    conv => whnf
    intro b4
    conv => whnf
    apply br <;> intro h2 <;> conv => whnf
    · refine ret_pure ?_
      rw [if_pos (by simpa using h2)]
      rfl
    refine CallN.pure (two_gen xop hop2 _ _ (refX_inR hc a hok.1) (refX_inR hc b hok.2) _ hf.2.2 hcmp) fun v V3 _ hV3 hv => ?_
    subst hv
    conv => whnf
    refine ret_pure ?_
    rw [if_neg (by simpa using h2)]
    rfl
end Go.Proofs.Ytenpginanhnkbaa
end

section
set_option linter.unusedSimpArgs false
set_option linter.unusedVariables false
namespace Go.Proofs.Ytenpginanhnkbaa
open Go.X
set_option maxRecDepth 100000
set_option linter.unusedSimpArgs false

/-- no columns -/
theorem holds0_spec (V : View) : PSpec 22 [.slice none 0 0, .slice none 0 0, .slice none 0 0] V (fun v _ => v = .tuple #[.bool true, .int .i64 0]) := by
  have h47 : ∀ sc V', PSpec 47 [.slice none 0 0, closure sc] V' (fun v _ => v = .tuple #[.slice none 0 0, .int .i64 0]) := fun sc V' => by
    refine pspec [] (args := [.v _, .v _]) Try.func47 (by kernel_rfl) rfl ?_
    conv => whnf
    refine LoopN.unroll 1 ?_
    conv => whnf
    refine br_f rfl ?_
    conv => whnf
    exact ret_pure rfl
  refine pspec [] (args := [.v _, .v _, .v _]) Try.func22 (by kernel_rfl) rfl ?_
  conv => whnf
  refine CallN.pure (h47 _ _) fun v V1 _ hV1 hv => ?_
  subst hv
  conv => whnf
  refine br_f rfl ?_
  conv => whnf
  refine LoopN.unroll 1 ?_
  conv => whnf
  refine br_f rfl ?_
  conv => whnf
  exact ret_pure rfl
theorem col0_spec (tb nm : ByteArray) (V : View) : PSpec 67 [.agg #[.slice none 0 0, .slice none 0 0], .string tb, .string nm] V (fun v _ => v = pairX (v0, 10)) := by
  refine pspec [] (args := [.v _, .v _, .v _]) Try.func67 (by kernel_rfl) rfl ?_
  conv => whnf
  intro b1
  conv => whnf
  intro b2
  conv => whnf
  refine ⟨⟨.int .i64 0, fun w => rfl, ?_⟩⟩
  conv => whnf
  refine LoopN.unroll 1 ?_
  conv => whnf
  refine br_f rfl ?_
  conv => whnf
  exact ret_pure rfl
theorem at0_spec (x : XC) (V : View) : PSpec 43 [.slice none 0 0, .int .i64 0, xagg x] V (fun v _ => v = .tuple #[.int .i64 (-1), .int .i64 10]) := by
  refine pspec [(5, [(0, []), (1, []), (2, []), (3, []), (4, []), (5, []), (6, []), (7, []), (8, []), (9, []), (10, []), (11, []), (12, []), (13, []), (14, []), (15, []), (16, []), (17, []), (18, []), (19, []), (20, []), (21, []), (22, [])])] (args := [.v _, .v _, .v _]) Try.func43 (by kernel_rfl) rfl ?_
  conv => whnf
  intro b1
  conv => whnf
  refine LoopN.unroll 1 ?_
  conv => whnf
  refine ⟨⟨.int .i64 0, fun w => rfl, ?_⟩⟩
  conv => whnf
  refine br_f rfl ?_
  conv => whnf
  refine br_t rfl ?_
  conv => whnf
  exact ret_pure rfl
theorem rcol0_spec (x : XC) (hx : x.op = 2) (V : View) : PSpec 21 [.slice none 0 0, .slice none 0 0, xagg x] V (fun v _ => v = pairX (v0, 10)) := by
  obtain ⟨xop, xv, xtb, xnm, xbase, xlen, xcap⟩ := x
  simp only at hx
  subst hx
  refine pspec [] (args := [.v _, .v _, .v _]) Try.func21 (by kernel_rfl) rfl ?_
  conv => whnf
  intro b1
  conv => whnf
  intro b2
  conv => whnf
  refine br_f rfl ?_
  conv => whnf
  refine br_t rfl ?_
  conv => whnf
  refine CallN.pure (at0_spec ⟨2, xv, xtb, xnm, xbase, xlen, xcap⟩ _) fun v V1 _ hV1 hv => ?_
  subst hv
  conv => whnf
  refine br_t rfl ?_
  conv => whnf
  exact ret_pure rfl
def col0 (_ _ : ByteArray) : Val × Int := (v0, 10)
def cmp0 (a b : Val) : Int := cmpI a.n b.n
def ok0 (a b : Val) : Prop := a.k = 1 ∧ b.k = 1
theorem Eval0_spec (e : E) (x : XC) (V : View) (hok : e.ok) (hr : RepE V e x) : PSpec 20 [.slice none 0 0, .slice none 0 0, xagg x] V (fun v _ => v = pairX (evalX col0 e)) :=
  Eval_spec none none 0 0 0 0 col0 (fun _ _ => v0_inR) e x V hok hr (fun tb nm V' _ => col0_spec tb nm V')
theorem ref0_spec (e : E) (x : XC) (V : View) (hok : e.ok) (hf : e.fine ok0 cmp0 col0) (hr : RepE V e x) : PSpec 21 [.slice none 0 0, .slice none 0 0, xagg x] V (fun v _ => v = pairX (refX cmp0 col0 e)) :=
  ref_spec _ _ ok0 cmp0 col0 (fun _ _ => v0_inR) (fun a b V' h => rcmp_spec a b h.1 h.2 V') e x V hok hf hr (fun x V' _ hx => rcol0_spec x hx V')
def litX (v : Val) : XC := ⟨1, v, noText, noText, none, 0, 0⟩
theorem begun_spec (V : View) : PSpec 14 [] V (fun v _ => v = .bool true) := by
  refine pspec [] (args := []) Try.func14 (by kernel_rfl) rfl ?_
  conv => whnf
  intro b1
  conv => whnf
  intro b2 V1 hV1 h1
  conv => whnf
  refine CallN.pure (Eval0_spec (.bin 5 (.lit ⟨1, 1, noText⟩) (.lit ⟨1, 1, noText⟩)) ⟨5, v0, noText, noText, some ⟨b2, 0, none⟩, 2, 2⟩ _ ⟨⟨by decide, by decide⟩, ⟨by decide, by decide⟩⟩
    ⟨rfl, by decide, rfl, b2, 0, litX ⟨1, 1, noText⟩, litX ⟨1, 1, noText⟩, rfl, h1, ⟨rfl, rfl⟩, ⟨rfl, rfl⟩⟩) fun v V2 _ hV2 hv => ?_
  subst hv
  conv => whnf
  intro b3
  conv => whnf
  refine CallN.pure (holds0_spec _) fun v V3 _ hV3 hv => ?_
  subst hv
  conv => whnf
  refine br_t rfl ?_
  conv => whnf
  refine br_t rfl ?_
  conv => whnf
  refine br_t rfl ?_
  conv => whnf
  refine br_t rfl ?_
  conv => whnf
  exact ret_pure rfl
def sameV (x y : Val) : Bool := x.k == y.k && (x.n == y.n && x.t.toList == y.t.toList)
theorem fields38 : (Try.prog.fieldsOf 38).toList.map (fun f => (f.name != "_", f.type, f.offset)) = [(true, 3, 0), (true, 2, 1), (true, 9, 2)] := by kernel_rfl
theorem eqv_run (o1 o2 : Operand) (x y : Val) (w : World) : Sem.run Try.prog (do
      eqGuard .eql 38 o1 o2 (vv x) (vv y)
      binOp .eql 38 (vv x) (vv y)) w = .ok (.bool (sameV x y)) w := by
  unfold vv
  rw [Sem.run_bind, run_eqGuard_agg w .eql 38 o1 o2 _ _ (by kernel_rfl)]
  simp only [Result.andThen_ok]
  rw [run_eql_struct, run_equalIn_struct w 9999 38 _ _ (by kernel_rfl) (by kernel_rfl)]
  have h := fields38
  generalize (Try.prog.fieldsOf 38).toList = l at h
  rcases l with _ | ⟨f, _ | ⟨g, _ | ⟨i, _ | ⟨j, l⟩⟩⟩⟩ <;> simp only [List.map_cons, List.map_nil, List.cons.injEq, List.cons_ne_nil, List.ne_cons_self, reduceCtorEq, and_false, false_and] at h
  simp only [List.map_cons, List.map_nil, List.cons.injEq, Prod.mk.injEq, and_true, bne_iff_ne, ne_eq] at h
  obtain ⟨⟨hf1, hf2, hf3⟩, ⟨hg1, hg2, hg3⟩, hi1, hi2, hi3⟩ := h
  have u3 : Try.prog.underlying 3 = some (.int .i64) := by kernel_rfl
  have u2 : Try.prog.underlying 2 = some (.int .i64) := by kernel_rfl
  have u9 : Try.prog.underlying 9 = some .string := by kernel_rfl
  simp [Op.eqFields, hf1, hf2, hf3, hg1, hg2, hg3, hi1, hi2, hi3, part, run_underlying u3, run_underlying u2, run_underlying u9, run_equalIn_int w 9998 3 .i64 .i64 _ _ u3, run_equalIn_int w 9998 2 .i64 .i64 _ _ u2, run_equalIn_string w 9998 9 _ _ u9]
  unfold sameV
  by_cases h1 : x.k = y.k <;> by_cases h2 : x.n = y.n <;> by_cases h3 : x.t.toList = y.t.toList <;> simp [h1, h2, h3]
theorem less_self : ∀ l : List UInt8, Op.bytesLess l l = false
  | [] => rfl
  | a :: l => by simp [Op.bytesLess, less_self l]
theorem cmpS_self (t : ByteArray) : cmpS t t = 0 := by simp [cmpS, less_self]
/-- EvalNumbers says true -/
theorem numbers_spec (a b op : Int) (ha : InR a) (hb : InR b) (hop : 0 ≤ op ∧ op ≤ 255) (V : View) : PSpec 4 [.int .i64 a, .int .i64 b, .int .u8 op] V (fun v _ => v = .bool true) := by
  refine pspec [] (args := [.v _, .v _, .v _]) Try.func4 (by kernel_rfl) rfl ?_
  conv => whnf
  refine CallN.pure (begun_spec _) fun v V1 _ hV1 hv => ?_
  subst hv
  conv => whnf
  refine br_f rfl ?_
  conv => whnf
  intro b1
  conv => whnf
  intro b2
  conv => whnf
  intro b3 V2 hV2 h2
  conv => whnf
  intro b4
  conv => whnf
  have hq : ∃ q : Int, q = IntKind.i64.wrap (5 + IntKind.i64.wrap (op.tmod 9)) ∧ 5 ≤ q ∧ q ≤ 13 := ⟨_, rfl, by
    rw [Int.tmod_eq_emod_of_nonneg hop.1, wrapE, wrapE]; omega⟩
  obtain ⟨q, hq, h5⟩ := hq
  refine CallN.pure (Eval0_spec (.bin q (.lit ⟨1, a, noText⟩) (.lit ⟨1, b, noText⟩)) ⟨IntKind.i64.wrap (5 + IntKind.i64.wrap (op.tmod 9)), v0, noText, noText, some ⟨b3, 0, none⟩, 2, 2⟩ _ ⟨ha, hb⟩
    ⟨hq.symm, ⟨h5.1, by omega⟩, rfl, b3, 0, litX ⟨1, a, noText⟩, litX ⟨1, b, noText⟩, rfl, h2, ⟨rfl, rfl⟩, ⟨rfl, rfl⟩⟩) fun v V3 _ hV3 hv => ?_
  subst hv
  conv => whnf
  intro b5
  conv => whnf
  refine CallN.pure (ref0_spec (.bin q (.lit ⟨1, a, noText⟩) (.lit ⟨1, b, noText⟩)) ⟨IntKind.i64.wrap (5 + IntKind.i64.wrap (op.tmod 9)), v0, noText, noText, some ⟨b3, 0, none⟩, 2, 2⟩ _ ⟨ha, hb⟩ ⟨trivial, trivial, fun _ => ⟨rfl, rfl⟩⟩
    ⟨hq.symm, ⟨h5.1, by omega⟩, rfl, b3, 0, litX ⟨1, a, noText⟩, litX ⟨1, b, noText⟩, rfl, h2.mono hV3, ⟨rfl, rfl⟩, ⟨rfl, rfl⟩⟩) fun v V4 _ hV4 hv => ?_
  subst hv
  conv => whnf
  intro b6
  conv => whnf
  have heq : evalX col0 (.bin q (.lit ⟨1, a, noText⟩) (.lit ⟨1, b, noText⟩)) = refX cmp0 col0 (.bin q (.lit ⟨1, a, noText⟩) (.lit ⟨1, b, noText⟩)) := by
    have hno : ¬ (q = 14 ∨ q = 15) := by omega
    have h14 : ¬ 14 ≤ q := by omega
    simp only [evalX, refX, if_neg hno, twoR, if_neg h14, binX_eq, if_true, ne_eq, not_true_eq_false, if_false]
    rw [if_neg (by omega), if_neg (by omega)]
    congr 1
    show orI (orI (cmpI 1 1) (cmpI a b)) (cmpS noText noText) = cmpI a b
    have : cmpI 1 1 = 0 := by decide
    rw [this]
    unfold orI
    rw [cmpS_self]
    split <;> simp_all
  rw [heq]
  generalize refX cmp0 col0 (.bin q (.lit ⟨1, a, noText⟩) (.lit ⟨1, b, noText⟩)) = r
  refine ⟨⟨_, eqv_run _ _ r.1 r.1, ?_⟩⟩
  conv => whnf
  have hs : sameV r.1 r.1 = true := by simp [sameV]
  refine br_t hs ?_
  conv => whnf
  refine ret_pure ?_
  simp [packVals]
end Go.Proofs.Ytenpginanhnkbaa
end
