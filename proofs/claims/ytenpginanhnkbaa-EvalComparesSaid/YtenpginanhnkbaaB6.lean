/- One part of a proof: an evaluator of the model, shown right, and contracts that it yields. No condition beyond those that each theorem names. -/
import Derived.Test.YtenpginanhnkbaaB5
namespace Go.Proofs.Ytenpginanhnkbaa
open Go.X
set_option maxRecDepth 100000
set_option linter.unusedSimpArgs false

def twoR (cmpR : Val → Val → Int) (op : Int) (a b : Val) : Val × Int := if 14 ≤ op then (truthV (b.n == 1), 0) else binY (cmpR a b) op a b
/-- the document's answer -/
def refX (cmpR : Val → Val → Int) (colR : ByteArray → ByteArray → Val × Int) : E → Val × Int
  | .lit v => (v, 0)
  | .col tb nm => colR tb nm
  | .un op a => if (refX cmpR colR a).2 = 0 then unX op (refX cmpR colR a).1 else (v0, (refX cmpR colR a).2)
  | .bin op a b =>
    if (refX cmpR colR a).2 ≠ 0 then (v0, (refX cmpR colR a).2)
    else if op = 14 ∧ (refX cmpR colR a).1.n = 0 then (truthV false, 0)
    else if op = 15 ∧ (refX cmpR colR a).1.n = 1 then (truthV true, 0)
    else if (refX cmpR colR b).2 ≠ 0 then (v0, (refX cmpR colR b).2) else twoR cmpR op (refX cmpR colR a).1 (refX cmpR colR b).1
theorem binY_inR (c op : Int) (a b : Val) : InR (binY c op a b).1.n := by
  unfold binY
  repeat' split
  all_goals first | exact whole_inR (fits_inR _) | exact truth_inR _ | exact v0_inR
theorem refX_inR {cmpR : Val → Val → Int} {colR : ByteArray → ByteArray → Val × Int} (hc : ∀ tb nm, InR (colR tb nm).1.n) : ∀ (e : E), e.ok → InR (refX cmpR colR e).1.n
  | .lit v, h => h
  | .col tb nm, _ => hc tb nm
  | .un op a, h => by
    unfold refX
    split
    · exact unX_inR _ _
    · exact v0_inR
  | .bin op a b, h => by
    unfold refX twoR
    repeat' split
    all_goals first | exact binY_inR _ _ _ _ | exact truth_inR _ | exact v0_inR
theorem two14_spec (op : Int) (hop : 14 ≤ op) (a b : Val) (V : View) : PSpec 46 [.int .i64 op, vv a, vv b] V (fun v _ => v = pairX (truthV (b.n == 1), 0)) := by
  refine pspec [] (args := [.v _, .v _, .v _]) Try.func46 (by kernel_rfl) rfl ?_
  conv => whnf
  intro b1
  conv => whnf
  intro b2
  conv => whnf
  intro b3
  conv => whnf
  refine br_t (by simpa using hop) ?_
  conv => whnf
  refine CallN.pure (rtruth_spec _ _) fun v V1 _ hV hv => ?_
  subst hv
  conv => whnf
  exact ret_pure rfl
/-- where comparisons are met, the document can hold the two together -/
def E.fine (ok : Val → Val → Prop) (cmpR : Val → Val → Int) (colR : ByteArray → ByteArray → Val × Int) : E → Prop
  | .lit _ => True
  | .col _ _ => True
  | .un _ a => a.fine ok cmpR colR
  | .bin op a b => a.fine ok cmpR colR ∧ b.fine ok cmpR colR ∧ (8 ≤ op ∧ op ≤ 13 → ok (refX cmpR colR a).1 (refX cmpR colR b).1)
theorem two_gen {ok : Val → Val → Prop} {cmpR : Val → Val → Int} (op : Int) (hop : 5 ≤ op ∧ op ≤ 15) (a b : Val) (ha : InR a.n) (hb : InR b.n) (V : View) (hf : 8 ≤ op ∧ op ≤ 13 → ok a b)
    (hcmp : ∀ a b V', ok a b → PSpec 33 [vv a, vv b] V' (fun v _ => v = .int .i64 (cmpR a b))) : PSpec 46 [.int .i64 op, vv a, vv b] V (fun v _ => v = pairX (twoR cmpR op a b)) := by
  unfold twoR
  split
  · rename_i h; exact two14_spec op h a b V
  · exact two_spec op _ (by omega) a b ha hb V (fun h8 V' _ => hcmp a b V' (hf ⟨h8, by omega⟩))
theorem ref_spec (cs vs : Value) (ok : Val → Val → Prop) (cmpR : Val → Val → Int) (colR : ByteArray → ByteArray → Val × Int) (hc : ∀ tb nm, InR (colR tb nm).1.n)
    (hcmp : ∀ a b V', ok a b → PSpec 33 [vv a, vv b] V' (fun v _ => v = .int .i64 (cmpR a b))) : ∀ (e : E) (x : XC) (V : View), e.ok → e.fine ok cmpR colR → RepE V e x →
    (∀ x V', V.le V' → x.op = 2 → PSpec 21 [cs, vs, xagg x] V' (fun v _ => v = pairX (colR x.tb x.nm))) → PSpec 21 [cs, vs, xagg x] V (fun v _ => v = pairX (refX cmpR colR e))
  | .lit v, ⟨xop, xv, xtb, xnm, xbase, xlen, xcap⟩, V, hok, hf, hr, hcol => by
    obtain ⟨hop, hv⟩ := hr
    simp only at hop hv
    subst hop; subst hv
    refine pspec [] (args := [.v _, .v _, .v _]) Try.func21 (by kernel_rfl) rfl ?_
    conv => whnf
    intro b1
    conv => whnf
    intro b2
    conv => whnf
    refine br_t rfl ?_
    conv => whnf
    exact ret_pure rfl
  | .col tb nm, x, V, hok, hf, ⟨hop, h1, h2⟩, hcol => by
    subst h1; subst h2
    exact hcol x V (View.le_refl _) hop
  | .un op a, ⟨xop, xv, xtb, xnm, xbase, xlen, xcap⟩, V, hok, hf, hr, hcol => by
    obtain ⟨hop, hop2, hl, p, off, xa, hb, hs, hra⟩ := hr
    simp only at hop hl hb
    subst hop; subst hl; subst hb
    have ih : ∀ V', V.le V' → PSpec 21 [cs, vs, xagg xa] V' (fun v _ => v = pairX (refX cmpR colR a)) := fun V' hV => ref_spec cs vs ok cmpR colR hc hcmp a xa V' hok hf (hra.mono hV) (fun x V2 h2 => hcol x V2 (View.le_trans hV h2))
    refine pspec [] (args := [.v _, .v _, .v _]) Try.func21 (by kernel_rfl) rfl ?_
    conv => whnf
    intro b1
    conv => whnf
    intro b2
    conv => whnf
    refine br_f (by simp only [beq_eq_false_iff_ne, ne_eq]; omega) ?_
    conv => whnf
    refine br_f (by simp only [beq_eq_false_iff_ne, ne_eq]; omega) ?_
    conv => whnf
    refine IdxN.lit rfl rfl ?_
    conv => whnf
    refine LoadN.of hs 0 rfl rfl ?_
    conv => whnf
    refine CallN.pure (ih _ (View.le_refl _)) fun v V1 _ hV1 hv => ?_
    subst hv
    conv => whnf
    intro b3
    conv => whnf
    apply br <;> intro h0 <;> conv => whnf
    · have h0 : (refX cmpR colR a).2 ≠ 0 := by simpa using h0
      refine ret_pure ?_
      rw [refX, if_neg h0]
      rfl
    have h0 : (refX cmpR colR a).2 = 0 := by simpa using h0
    rcases hop2 with rfl | rfl
    · refine br_t rfl ?_
      conv => whnf
      refine CallN.pure (rneg_spec _ (refX_inR hc a hok) _) fun v V2 _ hV2 hv => ?_
      subst hv
      conv => whnf
      apply br <;> intro he <;> conv => whnf
      · have he : (fits (-(refX cmpR colR a).1.n)).2 ≠ 0 := by simpa using he
        refine ret_pure ?_
        rw [refX, if_pos h0, show unX 3 (refX cmpR colR a).1 = wholeV (fits (-(refX cmpR colR a).1.n)) from rfl]
        unfold wholeV
        rw [if_neg he]
        rfl
      · have he : (fits (-(refX cmpR colR a).1.n)).2 = 0 := by simpa using he
        refine ret_pure ?_
        rw [refX, if_pos h0, show unX 3 (refX cmpR colR a).1 = wholeV (fits (-(refX cmpR colR a).1.n)) from rfl]
        unfold wholeV
        rw [if_pos he]
        rfl
    · refine br_f rfl ?_
      conv => whnf
      refine br_t rfl ?_
      conv => whnf
      refine CallN.pure (rtruth_spec _ _) fun v V2 _ hV2 hv => ?_
      subst hv
      conv => whnf
      refine ret_pure ?_
      rw [refX, if_pos h0]
      rfl
  | .bin op a b, ⟨xop, xv, xtb, xnm, xbase, xlen, xcap⟩, V, hok, hf, hr, hcol => by
    obtain ⟨hop, hop2, hl, p, off, xa, xb, hb, hs, hra, hrb⟩ := hr
    simp only at hop hl hb
    subst hop; subst hl; subst hb
    have ih : ∀ V', V.le V' → PSpec 21 [cs, vs, xagg xa] V' (fun v _ => v = pairX (refX cmpR colR a)) := fun V' hV => ref_spec cs vs ok cmpR colR hc hcmp a xa V' hok.1 hf.1 (hra.mono hV) (fun x V2 h2 => hcol x V2 (View.le_trans hV h2))
    have ih2 : ∀ V', V.le V' → PSpec 21 [cs, vs, xagg xb] V' (fun v _ => v = pairX (refX cmpR colR b)) := fun V' hV => ref_spec cs vs ok cmpR colR hc hcmp b xb V' hok.2 hf.2.1 (hrb.mono hV) (fun x V2 h2 => hcol x V2 (View.le_trans hV h2))
    refine pspec [] (args := [.v _, .v _, .v _]) Try.func21 (by kernel_rfl) rfl ?_
    conv => whnf
    intro b1
    conv => whnf
    intro b2
    conv => whnf
    refine br_f (by simp only [beq_eq_false_iff_ne, ne_eq]; omega) ?_
    conv => whnf
    refine br_f (by simp only [beq_eq_false_iff_ne, ne_eq]; omega) ?_
    conv => whnf
    refine IdxN.lit rfl rfl ?_
    conv => whnf
    refine LoadN.of hs 0 rfl rfl ?_
    conv => whnf
    refine CallN.pure (ih _ (View.le_refl _)) fun v V1 _ hV1 hv => ?_
    subst hv
    conv => whnf
    intro b3
    conv => whnf
    apply br <;> intro h0 <;> conv => whnf
    · have h0 : (refX cmpR colR a).2 ≠ 0 := by simpa using h0
      refine ret_pure ?_
      rw [refX, if_pos h0]
      rfl
    have h0 : (refX cmpR colR a).2 = 0 := by simpa using h0
    refine br_f (by simp only [beq_eq_false_iff_ne, ne_eq]; omega) ?_
    conv => whnf
    refine br_f (by simp only [beq_eq_false_iff_ne, ne_eq]; omega) ?_
    conv => whnf
    have fin : ¬ (xop = 14 ∧ (refX cmpR colR a).1.n = 0) → ¬ (xop = 15 ∧ (refX cmpR colR a).1.n = 1) → refX cmpR colR (.bin xop a b) = (if (refX cmpR colR b).2 ≠ 0 then (v0, (refX cmpR colR b).2) else twoR cmpR xop (refX cmpR colR a).1 (refX cmpR colR b).1) := fun h1 h2 => by
      rw [refX, if_neg (by simp [h0]), if_neg h1, if_neg h2]
    apply br <;> intro h14 <;> conv => whnf
    · simp only [beq_iff_eq] at h14
      apply br <;> intro h1 <;> conv => whnf
      · refine CallN.pure (rtruth_spec _ _) fun v V2 _ hV2 hv => ?_
        subst hv
        conv => whnf
        refine ret_pure ?_
        rw [refX, if_neg (by simp [h0]), if_pos ⟨h14, by simpa using h1⟩]
        rfl
      rw [fin (by simp_all) (by omega)]
      refine IdxN.lit rfl rfl ?_
      conv => whnf
      refine LoadN.of (hs.mono hV1) 7 rfl rfl ?_
      conv => whnf
      refine CallN.pure (ih2 _ hV1) fun v V2 _ hV2 hv => ?_
      subst hv
      conv => whnf
      intro b4
      conv => whnf
      apply br <;> intro h2 <;> conv => whnf
      · refine ret_pure ?_
        rw [if_pos (by simpa using h2)]
        rfl
      refine CallN.pure (two_gen xop hop2 _ _ (refX_inR hc a hok.1) (refX_inR hc b hok.2) _ hf.2.2 hcmp) fun v V3 _ hV3 hv => ?_
      subst hv
      conv => whnf
      refine ret_pure ?_
      rw [if_neg (by simpa using h2)]
      rfl
    apply br <;> intro h15 <;> conv => whnf
    · simp only [beq_iff_eq] at h15
      apply br <;> intro h1 <;> conv => whnf
      · refine CallN.pure (rtruth_spec _ _) fun v V2 _ hV2 hv => ?_
        subst hv
        conv => whnf
        refine ret_pure ?_
        rw [refX, if_neg (by simp [h0]), if_neg (by omega), if_pos ⟨h15, by simpa using h1⟩]
        rfl
      rw [fin (by omega) (by simp_all)]
      refine IdxN.lit rfl rfl ?_
      conv => whnf
      refine LoadN.of (hs.mono hV1) 7 rfl rfl ?_
      conv => whnf
      refine CallN.pure (ih2 _ hV1) fun v V2 _ hV2 hv => ?_
      subst hv
      conv => whnf
      intro b4
      conv => whnf
      apply br <;> intro h2 <;> conv => whnf
      · refine ret_pure ?_
        rw [if_pos (by simpa using h2)]
        rfl
      refine CallN.pure (two_gen xop hop2 _ _ (refX_inR hc a hok.1) (refX_inR hc b hok.2) _ hf.2.2 hcmp) fun v V3 _ hV3 hv => ?_
      subst hv
      conv => whnf
      refine ret_pure ?_
      rw [if_neg (by simpa using h2)]
      rfl
    simp only [beq_eq_false_iff_ne, ne_eq] at h14 h15
    rw [fin (by simp_all) (by simp_all)]
    refine IdxN.lit rfl rfl ?_
    conv => whnf
    refine LoadN.of (hs.mono hV1) 7 rfl rfl ?_
    conv => whnf
    refine CallN.pure (ih2 _ hV1) fun v V2 _ hV2 hv => ?_
    subst hv
    conv => whnf
    intro b4
    conv => whnf
    apply br <;> intro h2 <;> conv => whnf
    · refine ret_pure ?_
      rw [if_pos (by simpa using h2)]
      rfl
    refine CallN.pure (two_gen xop hop2 _ _ (refX_inR hc a hok.1) (refX_inR hc b hok.2) _ hf.2.2 hcmp) fun v V3 _ hV3 hv => ?_
    subst hv
    conv => whnf
    refine ret_pure ?_
    rw [if_neg (by simpa using h2)]
    rfl
end Go.Proofs.Ytenpginanhnkbaa
