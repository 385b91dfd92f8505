/- One part of a proof: an evaluator of the model, shown right, and contracts that it yields. No condition beyond those that each theorem names. -/
import Derived.Test.YtenpginanhnkbaaB3
namespace Go.Proofs.Ytenpginanhnkbaa
open Go.X
set_option maxRecDepth 100000
set_option linter.unusedSimpArgs false

inductive E where
  | lit (v : Val)
  | col (tb nm : ByteArray)
  | un (op : Int) (a : E)
  | bin (op : Int) (a b : E)
def RepE (V : View) : E → XC → Prop
  | .lit v, x => x.op = 1 ∧ x.v = v
  | .col tb nm, x => x.op = 2 ∧ x.tb = tb ∧ x.nm = nm
  | .un op a, x => x.op = op ∧ (op = 3 ∨ op = 4) ∧ x.len = 1 ∧ ∃ p off xa, x.base = some ⟨p, off, none⟩ ∧ V.has p off (xcells xa) ∧ RepE V a xa
  | .bin op a b, x => x.op = op ∧ (5 ≤ op ∧ op ≤ 15) ∧ x.len = 2 ∧ ∃ p off xa xb, x.base = some ⟨p, off, none⟩ ∧ V.has p off (xcells xa ++ xcells xb) ∧ RepE V a xa ∧ RepE V b xb
theorem RepE.mono {V V' : View} (hV : V.le V') : ∀ {e : E} {x : XC}, RepE V e x → RepE V' e x
  | .lit v, x, h => h
  | .col tb nm, x, h => h
  | .un op a, x, ⟨h1, h2, h3, p, off, xa, h4, h5, h6⟩ => ⟨h1, h2, h3, p, off, xa, h4, h5.mono hV, h6.mono hV⟩
  | .bin op a b, x, ⟨h1, h2, h3, p, off, xa, xb, h4, h5, h6, h7⟩ => ⟨h1, h2, h3, p, off, xa, xb, h4, h5.mono hV, h6.mono hV, h7.mono hV⟩

/-- what an expression comes to -/
def evalX (colX : ByteArray → ByteArray → Val × Int) : E → Val × Int
  | .lit v => (v, 0)
  | .col tb nm => colX tb nm
  | .un op a => if (evalX colX a).2 = 0 then unX op (evalX colX a).1 else (v0, (evalX colX a).2)
  | .bin op a b =>
    if op = 14 ∨ op = 15 then (if (evalX colX a).2 ≠ 0 ∨ (evalX colX a).1.n = op - 14 then evalX colX a else evalX colX b)
    else if (evalX colX a).2 = 0 then (if (evalX colX b).2 = 0 then binX op (evalX colX a).1 (evalX colX b).1 else (v0, (evalX colX b).2)) else (v0, (evalX colX a).2)
def E.ok : E → Prop
  | .lit v => InR v.n
  | .col _ _ => True
  | .un _ a => a.ok
  | .bin _ a b => a.ok ∧ b.ok
theorem fits_inR (x : Int) : InR (fits x).1 := by
  unfold fits InR
  split
  · assumption
  · decide
theorem v0_inR : InR v0.n := ⟨by decide, by decide⟩
theorem whole_inR {x : Int × Int} (h : InR x.1) : InR (wholeV x).1.n := by
  unfold wholeV
  split
  · exact h
  · exact v0_inR
theorem truth_inR (b : Bool) : InR (truthV b).n := by cases b <;> exact ⟨by decide, by decide⟩
theorem unX_inR (op : Int) (a : Val) : InR (unX op a).1.n := by
  unfold unX
  split
  · exact whole_inR (fits_inR _)
  · exact truth_inR _
theorem binX_inR (op : Int) (a b : Val) : InR (binX op a b).1.n := by
  unfold binX
  repeat' split
  all_goals first | exact whole_inR (fits_inR _) | exact truth_inR _ | exact v0_inR
theorem evalX_inR {colX : ByteArray → ByteArray → Val × Int} (hc : ∀ tb nm, InR (colX tb nm).1.n) : ∀ (e : E), e.ok → InR (evalX colX e).1.n
  | .lit v, h => h
  | .col tb nm, _ => hc tb nm
  | .un op a, h => by
    unfold evalX
    split
    · exact unX_inR _ _
    · exact v0_inR
  | .bin op a b, h => by
    unfold evalX
    repeat' split
    all_goals first | exact evalX_inR hc a h.1 | exact evalX_inR hc b h.2 | exact binX_inR _ _ _ | exact v0_inR

def pl69 : Plans := [(1, [(0, []), (1, []), (2, []), (3, []), (4, []), (5, [9]), (6, []), (7, []), (8, []), (9, []), (10, []), (11, [])]), (4, [(0, []), (1, []), (2, []), (3, []), (4, []), (5, []), (6, []), (7, []), (8, []), (9, [])])]
theorem IdxN.lit {b off len size : Nat} {i : Int} {K : Nat → Nat → Prop} (h0 : decide (0 ≤ i) = true) (hl : decide (i < (len : Int)) = true) (hK : K b (off + i.toNat * size)) : IdxN (some ⟨b, off, none⟩) len i size K :=
  IdxN.of (of_decide_eq_true h0) (of_decide_eq_true hl) hK
theorem either_spec (cs vs : Value) (all : Int) (x xa xb : XC) (r s : Val × Int) (p off : Nat) (V : View) (hl : x.len = 2) (hb : x.base = some ⟨p, off, none⟩) (hs : V.has p off (xcells xa ++ xcells xb))
    (h : ∀ V', V.le V' → PSpec 42 [.agg #[cs, vs], xagg xa] V' (fun v _ => v = pairX r)) (h' : ∀ V', V.le V' → PSpec 42 [.agg #[cs, vs], xagg xb] V' (fun v _ => v = pairX s)) :
    PSpec 69 [.agg #[cs, vs], xagg x, .int .i64 all] V (fun v _ => v = pairX (if r.2 ≠ 0 ∨ r.1.n = all then r else s)) := by
  obtain ⟨xop, xv, xtb, xnm, xbase, xlen, xcap⟩ := x
  simp only at hl hb
  subst hl; subst hb
  refine pspec pl69 (args := [.v _, .v _, .v _]) Try.func69 (by kernel_rfl) rfl ?_
  conv => whnf
  intro b1
  conv => whnf
  intro b2
  conv => whnf
  intro b3
  conv => whnf
  refine IdxN.lit rfl rfl ?_
  conv => whnf
  refine LoadN.of hs 0 rfl rfl ?_
  conv => whnf
  refine CallN.pure (h _ (View.le_refl _)) fun v V1 _ hV hv => ?_
  subst hv
  refine Prot.refl ?_
  conv => whnf
  intro b4 hb4
  conv => whnf
  apply br <;> intro he <;> conv => whnf
  · refine ret_pure ?_
    have h1 : r.2 ≠ 0 := by simpa using he
    rw [if_pos (.inl h1)]
    rfl
  have h1 : r.2 = 0 := by simpa using he
  apply br <;> intro he2 <;> conv => whnf
  · refine ret_pure ?_
    have h2 : r.1.n = all := by simpa using he2
    rw [if_pos (.inr h2)]
    rfl
  have h2 : ¬ r.1.n = all := by simpa using he2
  refine IdxN.lit rfl rfl ?_
  conv => whnf
  refine LoadN.of (hs.mono hV) 7 rfl rfl ?_
  conv => whnf
  refine CallN.pure (h' _ hV) fun v V2 _ hV2 hv => ?_
  subst hv
  refine Prot.refl ?_
  conv => whnf
  refine ret_pure ?_
  rw [if_neg (by simp [h1, h2])]
  rfl
/-- eval, whatever the columns say -/
theorem eval_spec (cs vs : Value) (colX : ByteArray → ByteArray → Val × Int) (hc : ∀ tb nm, InR (colX tb nm).1.n) : ∀ (e : E) (x : XC) (V : View), e.ok → RepE V e x →
    (∀ tb nm V', V.le V' → PSpec 67 [.agg #[cs, vs], .string tb, .string nm] V' (fun v _ => v = pairX (colX tb nm))) → PSpec 42 [.agg #[cs, vs], xagg x] V (fun v _ => v = pairX (evalX colX e))
  | .lit v, ⟨xop, xv, xtb, xnm, xbase, xlen, xcap⟩, V, hok, hr, hcol => by
    obtain ⟨hop, hv⟩ := hr
    simp only at hop hv
    subst hop; subst hv
    refine pspec [] (args := [.v _, .v _]) Try.func42 (by kernel_rfl) rfl ?_
    conv => whnf
    intro b1
    conv => whnf
    intro b2
    conv => whnf
    intro b3
    conv => whnf
    refine br_t rfl ?_
    conv => whnf
    exact ret_pure rfl
  | .col tb nm, ⟨xop, xv, xtb, xnm, xbase, xlen, xcap⟩, V, hok, hr, hcol => by
    obtain ⟨hop, h1, h2⟩ := hr
    simp only at hop h1 h2
    subst hop; subst h1; subst h2
    refine pspec [] (args := [.v _, .v _]) Try.func42 (by kernel_rfl) rfl ?_
    conv => whnf
    intro b1
    conv => whnf
    intro b2
    conv => whnf
    intro b3
    conv => whnf
    refine br_f rfl ?_
    conv => whnf
    refine br_t rfl ?_
    conv => whnf
    refine CallN.pure (hcol _ _ _ (View.le_refl _)) fun v V2 _ hV2 hv => ?_
    subst hv
    conv => whnf
    exact ret_pure rfl
  | .un op a, ⟨xop, xv, xtb, xnm, xbase, xlen, xcap⟩, V, hok, hr, hcol => by
    obtain ⟨hop, hop2, hl, p, off, xa, hb, hs, hra⟩ := hr
    simp only at hop hl hb
    subst hop; subst hl; subst hb
    have ih : ∀ V', V.le V' → PSpec 42 [.agg #[cs, vs], xagg xa] V' (fun v _ => v = pairX (evalX colX a)) := fun V' hV => eval_spec cs vs colX hc a xa V' hok (hra.mono hV) (fun tb nm V2 h2 => hcol tb nm V2 (View.le_trans hV h2))
    refine pspec [] (args := [.v _, .v _]) Try.func42 (by kernel_rfl) rfl ?_
    conv => whnf
    intro b1
    conv => whnf
    intro b2
    conv => whnf
    intro b3
    conv => whnf
    refine br_f (by simp only [beq_eq_false_iff_ne, ne_eq]; omega) ?_
    conv => whnf
    refine br_f (by simp only [beq_eq_false_iff_ne, ne_eq]; omega) ?_
    conv => whnf
    refine CallN.pure (one_spec xop _) fun v V1 _ hV1 hv => ?_
    rw [if_pos hop2] at hv
    subst hv
    conv => whnf
    refine br_f rfl ?_
    conv => whnf
    refine br_f (by simp only [beq_eq_false_iff_ne, ne_eq]; omega) ?_
    conv => whnf
    refine br_f (by simp only [beq_eq_false_iff_ne, ne_eq]; omega) ?_
    conv => whnf
    refine CallN.pure (each1_spec (.agg #[cs, vs]) xa _ p off xcap _ (hs.mono hV1) (fun V' hV' => ih V' (View.le_trans hV1 hV'))) fun v V2 _ hV2 hv => ?_
    unfold Each1 at hv
    split at hv
    · rename_i h0
      obtain ⟨p2, off2, cap2, rfl, hs2⟩ := hv
      conv => whnf
      refine br_f rfl ?_
      conv => whnf
      refine CallN.pure (does1_spec xop hop2 _ (evalX_inR hc a hok) p2 off2 cap2 _ hs2) fun v V3 _ hV3 hv => ?_
      subst hv
      conv => whnf
      refine ret_pure ?_
      rw [evalX, if_pos h0]
      rfl
    · rename_i h0
      subst hv
      conv => whnf
      refine br_t (by simpa using h0) ?_
      conv => whnf
      refine ret_pure ?_
      rw [evalX, if_neg h0]
      rfl
  | .bin op a b, ⟨xop, xv, xtb, xnm, xbase, xlen, xcap⟩, V, hok, hr, hcol => by
    obtain ⟨hop, hop2, hl, p, off, xa, xb, hb, hs, hra, hrb⟩ := hr
    simp only at hop hl hb
    subst hop; subst hl; subst hb
    have ih : ∀ V', V.le V' → PSpec 42 [.agg #[cs, vs], xagg xa] V' (fun v _ => v = pairX (evalX colX a)) := fun V' hV => eval_spec cs vs colX hc a xa V' hok.1 (hra.mono hV) (fun tb nm V2 h2 => hcol tb nm V2 (View.le_trans hV h2))
    have ih2 : ∀ V', V.le V' → PSpec 42 [.agg #[cs, vs], xagg xb] V' (fun v _ => v = pairX (evalX colX b)) := fun V' hV => eval_spec cs vs colX hc b xb V' hok.2 (hrb.mono hV) (fun tb nm V2 h2 => hcol tb nm V2 (View.le_trans hV h2))
    refine pspec [] (args := [.v _, .v _]) Try.func42 (by kernel_rfl) rfl ?_
    conv => whnf
    intro b1
    conv => whnf
    intro b2
    conv => whnf
    intro b3
    conv => whnf
    refine br_f (by simp only [beq_eq_false_iff_ne, ne_eq]; omega) ?_
    conv => whnf
    refine br_f (by simp only [beq_eq_false_iff_ne, ne_eq]; omega) ?_
    conv => whnf
    refine CallN.pure (one_spec xop _) fun v V1 _ hV1 hv => ?_
    rw [if_neg (by omega)] at hv
    subst hv
    conv => whnf
    refine br_f rfl ?_
    conv => whnf
    apply br <;> intro h14 <;> conv => whnf
    · simp only [beq_iff_eq] at h14
      subst h14
      refine CallN.pure (either_spec cs vs 0 ⟨14, xv, xtb, xnm, some ⟨p, off, none⟩, 2, xcap⟩ xa xb _ _ p off _ rfl rfl (hs.mono hV1) (fun V' hV' => ih V' (View.le_trans hV1 hV')) (fun V' hV' => ih2 V' (View.le_trans hV1 hV'))) fun v V2 _ hV2 hv => ?_
      subst hv
      conv => whnf
      refine ret_pure ?_
      rw [show evalX colX (.bin 14 a b) = (if (evalX colX a).2 ≠ 0 ∨ (evalX colX a).1.n = 0 then evalX colX a else evalX colX b) from by simp [evalX]]
      rfl
    apply br <;> intro h15 <;> conv => whnf
    · simp only [beq_iff_eq] at h15
      subst h15
      refine CallN.pure (either_spec cs vs 1 ⟨15, xv, xtb, xnm, some ⟨p, off, none⟩, 2, xcap⟩ xa xb _ _ p off _ rfl rfl (hs.mono hV1) (fun V' hV' => ih V' (View.le_trans hV1 hV')) (fun V' hV' => ih2 V' (View.le_trans hV1 hV'))) fun v V2 _ hV2 hv => ?_
      subst hv
      conv => whnf
      refine ret_pure ?_
      rw [show evalX colX (.bin 15 a b) = (if (evalX colX a).2 ≠ 0 ∨ (evalX colX a).1.n = 1 then evalX colX a else evalX colX b) from by simp [evalX]]
      rfl
    simp only [beq_eq_false_iff_ne, ne_eq] at h14 h15
    have hno : ¬ (xop = 14 ∨ xop = 15) := by omega
    refine CallN.pure (each2_spec (.agg #[cs, vs]) xa xb _ _ p off xcap _ (hs.mono hV1) (fun V' hV' => ih V' (View.le_trans hV1 hV')) (fun V' hV' => ih2 V' (View.le_trans hV1 hV'))) fun v V2 _ hV2 hv => ?_
    unfold Each2 at hv
    split at hv
    · rename_i h0
      split at hv
      · rename_i h1
        obtain ⟨p2, off2, cap2, rfl, hs2⟩ := hv
        conv => whnf
        refine br_f rfl ?_
        conv => whnf
        refine CallN.pure (does2_spec xop (by omega) _ _ (evalX_inR hc a hok.1) (evalX_inR hc b hok.2) p2 off2 cap2 _ hs2) fun v V3 _ hV3 hv => ?_
        subst hv
        conv => whnf
        refine ret_pure ?_
        rw [evalX, if_neg hno, if_pos h0, if_pos h1]
        rfl
      · rename_i h1
        subst hv
        conv => whnf
        refine br_t (by simpa using h1) ?_
        conv => whnf
        refine ret_pure ?_
        rw [evalX, if_neg hno, if_pos h0, if_neg h1]
        rfl
    · rename_i h0
      subst hv
      conv => whnf
      refine br_t (by simpa using h0) ?_
      conv => whnf
      refine ret_pure ?_
      rw [evalX, if_neg hno, if_neg h0]
      rfl
theorem Eval_spec (cb vb : Option Addr) (cl cc vl vc : Nat) (colX : ByteArray → ByteArray → Val × Int) (hc : ∀ tb nm, InR (colX tb nm).1.n) (e : E) (x : XC) (V : View) (hok : e.ok) (hr : RepE V e x)
    (hcol : ∀ tb nm V', V.le V' → PSpec 67 [.agg #[.slice cb cl cc, .slice vb vl vc], .string tb, .string nm] V' (fun v _ => v = pairX (colX tb nm))) : PSpec 20 [.slice cb cl cc, .slice vb vl vc, xagg x] V (fun v _ => v = pairX (evalX colX e)) := by
  refine pspec [] (args := [.v _, .v _, .v _]) Try.func20 (by kernel_rfl) rfl ?_
  conv => whnf
  intro b1
  conv => whnf
  intro b2
  conv => whnf
  refine CallN.pure (eval_spec (.slice cb cl cc) (.slice vb vl vc) colX hc e x _ hok hr hcol) fun v V1 _ hV1 hv => ?_
  subst hv
  conv => whnf
  exact ret_pure rfl
end Go.Proofs.Ytenpginanhnkbaa
