/- One part of a proof: an evaluator of the model, shown right, and contracts that it yields. No condition beyond those that each theorem names. -/
import Derived.Test.YtenpginanhnkbaaCN
section
set_option linter.unusedSimpArgs false
set_option linter.unusedVariables false
namespace Go.Proofs.Ytenpginanhnkbaa
open Go.X
set_option maxRecDepth 100000

/-- the pairs of two tables' rows -/
def joinX (on : List Val → List Val → Bool) (L R : List (List Val)) : List (List Val) := L.flatMap fun a => (R.filter (on a)).map (a ++ ·)
theorem pairs_len {on : List Val → List Val → Bool} (a : List Val) (R : List (List Val)) : ((R.filter (on a)).map (a ++ ·)).length ≤ R.length := by rw [List.length_map]; exact List.length_filter_le _ _
theorem joinX_len {on : List Val → List Val → Bool} : ∀ (L R : List (List Val)), (joinX on L R).length ≤ L.length * R.length
  | [], R => by simp [joinX]
  | a :: L, R => by
    have h1 := joinX_len (on := on) L R
    have h2 := pairs_len (on := on) a R
    unfold joinX at h1 ⊢
    rw [List.flatMap_cons, List.length_append, List.length_cons, Nat.add_mul]
    omega
theorem joined_spec (s : StV) (t u : TabV) (L R : List (List Val)) (lb rb : Option Addr) (lc rc : Nat) (on : List Val → List Val → Bool) (V : View)
    (ht : TabOk V t) (hu : TabOk V u) (hL : RowsAt V L lb) (hR : RowsAt V R rb) (hsL : L.length ≤ 30) (hsR : R.length ≤ 30) (hwL : ∀ r ∈ L, r ≠ [] ∧ r.length ≤ 1000) (hwR : ∀ r ∈ R, r.length ≤ 1000)
    (hon : ∀ cb cc V1, V.le V1 → V1.cells (.slice cb (itemsOf t ++ itemsOf u).length cc) ((itemsOf t ++ itemsOf u).flatMap icells) → ∀ a ∈ L, ∀ b ∈ R, ∀ v V', V1.le V' → RowAt V' (a ++ b) v → ∀ lz, V'.has lz 0 (xcells ⟨8, v0, noText, noText, s.on.1, s.on.2.1, s.on.2.2⟩) →
      PSpec 22 [.slice cb (itemsOf t ++ itemsOf u).length cc, v, .slice (some ⟨lz, 0, none⟩) 1 1] V' (fun v _ => v = .tuple #[.bool (on a b), .int .i64 0])) :
    PSpec 88 [stv s, tabv t, tabv u, .slice lb L.length lc, .slice rb R.length rc] V (RowsR (itemsOf t ++ itemsOf u) (joinX on L R)) := by
  obtain ⟨skind, stb, snm, s3, s4, s5, sit, sjoin, son, swh, sord, sdesc, sinn⟩ := s
  obtain ⟨tnm, tp, tcols, tcap, tq, tql, tqc⟩ := t
  obtain ⟨unm, up, ucols, ucap, uq, uql, uqc⟩ := u
  refine does_of_zfun [] mixed (args := [.v _, .v _, .v _, .v _, .v _]) (ms := []) Try.func88 (by kernel_rfl) rfl ?_
  conv => whnf
  repeat' first
    | (refine br_t rfl ?_; conv => whnf)
    | (refine br_f rfl ?_; conv => whnf)
    | (refine IdxN.lit rfl rfl ?_; conv => whnf)
    | (intro _; conv => whnf)
  rename_i b5 b6 b7 b10 bt V1 hV1 h1
  refine CallN.pure (named_spec [⟨tnm, tp, tcols, tcap, tq, tql, tqc⟩, ⟨unm, up, ucols, ucap, uq, uql, uqc⟩] bt 2 2 _ h1 (fun t' ht' => by
    simp only [List.mem_cons, List.not_mem_nil, or_false] at ht'
    rcases ht' with rfl | rfl
    · exact ht.mono (by repeat (first | exact View.le_refl _ | assumption | exact View.addU_le _ _ _ | refine View.le_trans ?_ (by assumption) | refine View.le_trans ?_ (View.addU_le _ _ _)))
    · exact hu.mono (by repeat (first | exact View.le_refl _ | assumption | exact View.addU_le _ _ _ | refine View.le_trans ?_ (by assumption) | refine View.le_trans ?_ (View.addU_le _ _ _)))) rfl (by show 2 ≤ 4; decide)) fun v V2 _ hV2 ⟨cb, cc, hv, hc⟩ => ?_
  simp only [List.flatMap_cons, List.flatMap_nil, List.append_nil] at hv hc
  subst hv
  have hon := hon cb cc V2 (by repeat (first | exact View.le_refl _ | assumption | exact View.addU_le _ _ _ | refine View.le_trans ?_ (by assumption) | refine View.le_trans ?_ (View.addU_le _ _ _))) hc
  unfold RowsR
  generalize itemsOf ⟨tnm, tp, tcols, tcap, tq, tql, tqc⟩ ++ itemsOf ⟨unm, up, ucols, ucap, uq, uql, uqc⟩ = its at *
  simp only at hon
  conv => whnf
  repeat' first
    | (refine br_t rfl ?_; conv => whnf)
    | (refine br_f rfl ?_; conv => whnf)
    | (refine IdxN.lit rfl rfl ?_; conv => whnf)
    | (intro _; conv => whnf)
  rename_i b12
  refine loopz (σ := Nat × Option Addr × Nat × List (List Val) × List Value)
    (fun x => [(4, .v (.slice rb R.length rc)), (5, .own 5 0), (10, .own 10 0), (11, .v (.int .i64 0)), (12, .own 12 0), (25, .v (.slice lb L.length lc)), (26, .v (.int .i64 L.length)), (27, .v (.int .i64 x.1))])
    (fun x => [(5, .box b5 70 [.int .i64 skind, .string stb, .string snm, .slice s3.1 s3.2.1 s3.2.2, .slice s4.1 s4.2.1 s4.2.2, .slice s5.1 s5.2.1 s5.2.2, .slice sit.1 sit.2.1 sit.2.2, .string sjoin, .slice son.1 son.2.1 son.2.2, .slice swh.1 swh.2.1 swh.2.2, .slice sord.1 sord.2.1 sord.2.2, .bool sdesc, .slice sinn.1 sinn.2.1 sinn.2.2]),
      (10, .box b10 113 [.slice none 0 0, .slice none 0 0]), (12, .box b12 113 [.slice cb its.length cc, .slice x.2.1 x.2.2.2.1.length x.2.2.1]), (63, .row (.slice x.2.1 x.2.2.2.1.length x.2.2.1) 45 1 x.2.2.2.1.length)])
    (fun j x V' => V2.le V' ∧ x.1 ≤ L.length ∧ L.length - x.1 = j ∧ x.2.2.2.1 = joinX on (L.take x.1) R ∧ (x.2.2.2.1 = [] → x.2.1 = none ∧ x.2.2.1 = 0) ∧ CellsAt V' x.2.2.2.1 x.2.2.2.2 ∧ V'.cells (.slice x.2.1 x.2.2.2.1.length x.2.2.1) x.2.2.2.2)
    L.length (0, none, 0, [], []) ?_ ?_ ?_ ?_
  · repeat' (first | exact sees_nil | refine sees_cons rfl rfl rfl ?_)
  · repeat' (first | exact keeps_nil | refine keeps_cons rfl ?_ | refine keeps_free ?_)
  · exact ⟨View.le_refl _, Nat.zero_le _, by simp, rfl, fun _ => ⟨rfl, rfl⟩, CellsAt.nil, rfl⟩
  rintro j ⟨i, base, cp, out, cells⟩ V' ⟨hV, hi, hj, hout, hnil, hca, hcl⟩
  simp only at hi hj hout hnil hca hcl
  have hol : out.length ≤ i * R.length := by
    rw [hout]
    refine Nat.le_trans (joinX_len _ _) (Nat.mul_le_mul_right _ ?_)
    rw [List.length_take]; omega
  conv => whnf
  apply br <;> intro g1 <;> conv => whnf
  · have hi1 : i < L.length := by have := of_decide_eq_true g1; omega
    obtain ⟨a, ha⟩ : ∃ a, L[i]? = some a := ⟨_, List.getElem?_eq_getElem hi1⟩
    have ham := List.mem_of_getElem? ha
    have htake : joinX on (L.take (i + 1)) R = joinX on (L.take i) R ++ (R.filter (on a)).map (a ++ ·) := by
      unfold joinX
      rw [List.take_add_one, ha, List.flatMap_append]
      simp
    obtain ⟨p, off, cv, rfl, hcell, hrow⟩ := hL.at ha
    obtain ⟨ab, ac, hav, hap, hava⟩ := hrow
    subst hav
    have hwi := wrap_nat (i := i) (by omega)
    refine IdxN.of (by omega) (by omega) ?_
    conv => whnf
    refine LoadN.of (hcell.mono (by repeat (first | exact View.le_refl _ | assumption | exact View.addU_le _ _ _ | refine View.le_trans ?_ (by assumption) | refine View.le_trans ?_ (View.addU_le _ _ _)))) 0 (by show off + i * 1 = off + i + 0; omega) rfl ?_
    conv => whnf
    repeat' first
      | (refine br_t rfl ?_; conv => whnf)
      | (refine br_f rfl ?_; conv => whnf)
      | (refine IdxN.lit rfl rfl ?_; conv => whnf)
      | (intro _; conv => whnf)
    refine loopz (σ := Nat × Option Addr × Nat × List (List Val) × List Value)
      (fun x => [(4, .v (.slice rb R.length rc)), (5, .own 5 0), (10, .own 10 0), (11, .v (.int .i64 0)), (12, .own 12 0), (14, .v (.slice ab a.length ac)), (25, .v (.slice (some ⟨p, off, none⟩) L.length lc)), (26, .v (.int .i64 L.length)), (27, .v (.int .i64 i)), (31, .v (.slice rb R.length rc)), (32, .v (.int .i64 R.length)), (33, .v (.int .i64 x.1))])
      (fun x => [(5, .box b5 70 [.int .i64 skind, .string stb, .string snm, .slice s3.1 s3.2.1 s3.2.2, .slice s4.1 s4.2.1 s4.2.2, .slice s5.1 s5.2.1 s5.2.2, .slice sit.1 sit.2.1 sit.2.2, .string sjoin, .slice son.1 son.2.1 son.2.2, .slice swh.1 swh.2.1 swh.2.2, .slice sord.1 sord.2.1 sord.2.2, .bool sdesc, .slice sinn.1 sinn.2.1 sinn.2.2]),
        (10, .box b10 113 [.slice none 0 0, .slice none 0 0]), (12, .box b12 113 [.slice cb its.length cc, .slice x.2.1 x.2.2.2.1.length x.2.2.1]), (63, .row (.slice x.2.1 x.2.2.2.1.length x.2.2.1) 45 1 x.2.2.2.1.length)])
      (fun j x V2 => V'.le V2 ∧ x.1 ≤ R.length ∧ R.length - x.1 = j ∧ x.2.2.2.1 = out ++ ((R.take x.1).filter (on a)).map (a ++ ·) ∧ (x.2.2.2.1 = [] → x.2.1 = none ∧ x.2.2.1 = 0) ∧ CellsAt V2 x.2.2.2.1 x.2.2.2.2 ∧ V2.cells (.slice x.2.1 x.2.2.2.1.length x.2.2.1) x.2.2.2.2)
      R.length (0, base, cp, out, cells) ?_ ?_ ?_ ?_
    · repeat' (first | exact sees_nil | refine sees_cons rfl rfl rfl ?_)
    · repeat' (first | exact keeps_nil | refine keeps_cons rfl ?_ | refine keeps_free ?_)
    · exact ⟨View.le_refl _, Nat.zero_le _, by simp, by simp, hnil, hca, hcl⟩
    clear hnil hca hcl
    rintro j2 ⟨k, base2, cp2, out2, cells2⟩ V3 ⟨hV3, hk, hj2, hout2, hnil, hca, hcl⟩
    simp only at hk hj2 hout2 hnil hca hcl
    have hol2 : out2.length ≤ 930 := by
      rw [hout2, List.length_append]
      have h1 := pairs_len (on := on) a (R.take k)
      have h2 : (R.take k).length ≤ 30 := by rw [List.length_take]; omega
      have h3 : i * R.length ≤ 30 * 30 := Nat.mul_le_mul (by omega) hsR
      omega
    conv => whnf
    apply br <;> intro g2 <;> conv => whnf
    · have hk1 : k < R.length := by have := of_decide_eq_true g2; omega
      obtain ⟨b, hb⟩ : ∃ b, R[k]? = some b := ⟨_, List.getElem?_eq_getElem hk1⟩
      have hbm := List.mem_of_getElem? hb
      have htk : (R.take (k + 1)).filter (on a) = (R.take k).filter (on a) ++ (if on a b then [b] else []) := by
        rw [List.take_add_one, hb, List.filter_append]
        congr 1
        show List.filter (on a) [b] = _
        by_cases h : on a b = true
        · rw [if_pos h]; simp [h]
        · rw [if_neg h]; simp [h]
      obtain ⟨p2, off2, cv2, rfl, hcell2, hrow2⟩ := hR.at hb
      obtain ⟨bb, bc, hbv, hbp, hbva⟩ := hrow2
      subst hbv
      have hwk := wrap_nat (i := k) (by omega)
      refine IdxN.of (by omega) (by omega) ?_
      conv => whnf
      refine LoadN.of (hcell2.mono (by repeat (first | exact View.le_refl _ | assumption | exact View.addU_le _ _ _ | refine View.le_trans ?_ (by assumption) | refine View.le_trans ?_ (View.addU_le _ _ _)))) 0 (by show off2 + k * 1 = off2 + k + 0; omega) rfl ?_
      conv => whnf
      intro l2 Vl hVl hln
      conv => whnf
      refine CallN.pure (concat_spec a b ab bb ac bc l2 _ hln hap hbp (hava.mono (by repeat (first | exact View.le_refl _ | assumption | exact View.addU_le _ _ _ | refine View.le_trans ?_ (by assumption) | refine View.le_trans ?_ (View.addU_le _ _ _)))) (hbva.mono (by repeat (first | exact View.le_refl _ | assumption | exact View.addU_le _ _ _ | refine View.le_trans ?_ (by assumption) | refine View.le_trans ?_ (View.addU_le _ _ _)))) (hwL a ham).1 (hwL a ham).2 (hwR b hbm)) fun v V4 _ hV4 hab => ?_
      obtain ⟨qb, qc, hqv⟩ := row_shape hab
      subst hqv
      conv => whnf
      intro l3 V5 hV5 h5
      conv => whnf
      have h5 : V5.has l3 0 (xcells ⟨8, v0, noText, noText, son.1, son.2.1, son.2.2⟩) := h5
      refine CallN.pure (hon a ham b hbm _ _ (by repeat (first | exact View.le_refl _ | assumption | exact View.addU_le _ _ _ | refine View.le_trans ?_ (by assumption) | refine View.le_trans ?_ (View.addU_le _ _ _))) (hab.mono (by repeat (first | exact View.le_refl _ | assumption | exact View.addU_le _ _ _ | refine View.le_trans ?_ (by assumption) | refine View.le_trans ?_ (View.addU_le _ _ _)))) l3 h5) fun v V6 _ hV6 hv => ?_
      subst hv
      conv => whnf
      repeat' first
        | (refine br_t rfl ?_; conv => whnf)
        | (refine br_f rfl ?_; conv => whnf)
        | (refine IdxN.lit rfl rfl ?_; conv => whnf)
        | (intro _; conv => whnf)
      apply br <;> intro g4 <;> conv => whnf
      · rw [if_pos g4] at htk
        intro b3 V7 hV7 h6
        conv => whnf
        rcases out2 with _ | ⟨r0, out1⟩
        · obtain ⟨rfl, rfl⟩ := hnil rfl
          conv => whnf
          have hce : cells2 = [] := List.eq_nil_of_length_eq_zero (by rw [hca.len]; rfl)
          refine AppN.to (([] : List (List Val)) ++ [a ++ b]).length rfl cells2 [.slice qb (a ++ b).length qc] (by rw [hce]; rfl) (by rw [hce]; rfl) h6 rfl rfl (by simp) (by decide) fun base' cap' V8 hV8 hc8 => ?_
          conv => whnf
          refine ⟨j2 - 1, (k + 1, base', cap', ([] : List (List Val)) ++ [a ++ b], cells2 ++ [.slice qb (a ++ b).length qc]), by omega, ?_, ?_, ?_⟩
          · repeat' (first | exact sees_nil | refine sees_cons rfl rfl rfl ?_ | refine sees_cons rfl rfl (by rw [← hwk]; rfl) ?_)
          · repeat' (first | exact keeps_nil | refine keeps_cons rfl ?_ | refine keeps_free ?_)
          · refine ⟨View.le_trans hV3 (by repeat (first | exact View.le_refl _ | assumption | exact View.addU_le _ _ _ | refine View.le_trans ?_ (by assumption) | refine View.le_trans ?_ (View.addU_le _ _ _))), hk1, by show _ - (k + 1) = _; omega, ?_, fun h => by simp at h, (hca.mono (by repeat (first | exact View.le_refl _ | assumption | exact View.addU_le _ _ _ | refine View.le_trans ?_ (by assumption) | refine View.le_trans ?_ (View.addU_le _ _ _)))).snoc (hab.mono (by repeat (first | exact View.le_refl _ | assumption | exact View.addU_le _ _ _ | refine View.le_trans ?_ (by assumption) | refine View.le_trans ?_ (View.addU_le _ _ _)))), hc8⟩
            show ([] : List (List Val)) ++ [a ++ b] = _
            rw [htk, List.map_append, ← List.append_assoc, ← hout2]; rfl
        · conv => whnf
          refine ⟨⟨63, _, rfl, ?_⟩⟩
          refine AppN.to ((r0 :: out1) ++ [a ++ b]).length (by simp) cells2 [.slice qb (a ++ b).length qc] (hcl.mono (by repeat (first | exact View.le_refl _ | assumption | exact View.addU_le _ _ _ | refine View.le_trans ?_ (by assumption) | refine View.le_trans ?_ (View.addU_le _ _ _)))) (by rw [hca.len]; exact (Nat.mul_one _).symm) h6 rfl rfl (by simp only [List.length_append, List.length_cons, List.length_nil] at hol2 ⊢; omega) (by decide) fun base' cap' V8 hV8 hc8 => ?_
          conv => whnf
          refine ⟨j2 - 1, (k + 1, base', cap', (r0 :: out1) ++ [a ++ b], cells2 ++ [.slice qb (a ++ b).length qc]), by omega, ?_, ?_, ?_⟩
          · repeat' (first | exact sees_nil | refine sees_cons rfl rfl rfl ?_ | refine sees_cons rfl rfl (by rw [← hwk]; rfl) ?_)
          · repeat' (first | exact keeps_nil | refine keeps_cons rfl ?_ | refine keeps_free ?_)
          · refine ⟨View.le_trans hV3 (by repeat (first | exact View.le_refl _ | assumption | exact View.addU_le _ _ _ | refine View.le_trans ?_ (by assumption) | refine View.le_trans ?_ (View.addU_le _ _ _))), hk1, by show _ - (k + 1) = _; omega, ?_, fun h => by simp at h, (hca.mono (by repeat (first | exact View.le_refl _ | assumption | exact View.addU_le _ _ _ | refine View.le_trans ?_ (by assumption) | refine View.le_trans ?_ (View.addU_le _ _ _)))).snoc (hab.mono (by repeat (first | exact View.le_refl _ | assumption | exact View.addU_le _ _ _ | refine View.le_trans ?_ (by assumption) | refine View.le_trans ?_ (View.addU_le _ _ _)))), hc8⟩
            show (r0 :: out1) ++ [a ++ b] = _
            rw [htk, List.map_append, ← List.append_assoc, ← hout2]; rfl
      · rw [if_neg (by rw [g4]; simp), List.append_nil] at htk
        refine ⟨j2 - 1, (k + 1, base2, cp2, out2, cells2), by omega, ?_, ?_, ?_⟩
        · repeat' (first | exact sees_nil | refine sees_cons rfl rfl rfl ?_ | refine sees_cons rfl rfl (by rw [← hwk]; rfl) ?_)
        · repeat' (first | exact keeps_nil | refine keeps_cons rfl ?_ | refine keeps_free ?_)
        · exact ⟨View.le_trans hV3 (by repeat (first | exact View.le_refl _ | assumption | exact View.addU_le _ _ _ | refine View.le_trans ?_ (by assumption) | refine View.le_trans ?_ (View.addU_le _ _ _))), hk1, by show _ - (k + 1) = _; omega, by show out2 = _; rw [htk]; exact hout2, hnil, hca.mono (by repeat (first | exact View.le_refl _ | assumption | exact View.addU_le _ _ _ | refine View.le_trans ?_ (by assumption) | refine View.le_trans ?_ (View.addU_le _ _ _))), hcl.mono (by repeat (first | exact View.le_refl _ | assumption | exact View.addU_le _ _ _ | refine View.le_trans ?_ (by assumption) | refine View.le_trans ?_ (View.addU_le _ _ _)))⟩
    · have hk1 : ¬ k < R.length := by have := of_decide_eq_false g2; omega
      rw [List.take_of_length_le (by omega)] at hout2
      repeat' first
        | (refine br_t rfl ?_; conv => whnf)
        | (refine br_f rfl ?_; conv => whnf)
        | (refine IdxN.lit rfl rfl ?_; conv => whnf)
        | (intro _; conv => whnf)
      refine ⟨j - 1, (i + 1, base2, cp2, out2, cells2), by omega, ?_, ?_, ?_⟩
      · repeat' (first | exact sees_nil | refine sees_cons rfl rfl rfl ?_ | refine sees_cons rfl rfl (by rw [← hwi]; rfl) ?_)
      · repeat' (first | exact keeps_nil | refine keeps_cons rfl ?_ | refine keeps_free ?_)
      · exact ⟨View.le_trans hV hV3, hi1, by show _ - (i + 1) = _; omega, by show out2 = _; rw [hout2, htake, hout], hnil, hca, hcl⟩
  · have hi1 : ¬ i < L.length := by have := of_decide_eq_false g1; omega
    rw [List.take_of_length_le (by omega)] at hout
    subst hout
    repeat' first
      | (refine br_t rfl ?_; conv => whnf)
      | (refine br_f rfl ?_; conv => whnf)
      | (refine IdxN.lit rfl rfl ?_; conv => whnf)
      | (intro _; conv => whnf)
    exact ret_pure ⟨cb, cc, base, cp, rfl, hc.mono (by repeat (first | exact View.le_refl _ | assumption | exact View.addU_le _ _ _ | refine View.le_trans ?_ (by assumption) | refine View.le_trans ?_ (View.addU_le _ _ _))), plain_cells hcl, RowsAt.of_cells hca hcl (by have : i * R.length ≤ 30 * 30 := Nat.mul_le_mul (by omega) hsR; omega)⟩
end Go.Proofs.Ytenpginanhnkbaa
end

section
set_option linter.unusedSimpArgs false
set_option linter.unusedVariables false
namespace Go.Proofs.Ytenpginanhnkbaa
open Go.X
set_option maxRecDepth 100000

/-- a select's rows, of two tables -/
theorem rows2_spec (s : StV) (t u : TabV) (rows R : List (List Val)) (rb ob : Option Addr) (rc oc : Nat) (out2 : List (List Val)) (V : View) (hjn : s.join.toList ≠ []) (ht : TabOk V t) (hr : RowsAt V rows rb) (hs : rows.length ≤ 1000) (hw : ∀ r ∈ rows, r.length ≤ 1000)
    (hjd : ∀ V1, V.le V1 → PSpec 88 [stv s, tabv t, tabv u, .slice rb rows.length rc, .slice ob R.length oc] V1 (RowsR (itemsOf t ++ itemsOf u) out2)) :
    PSpec 60 [stv s, tabv t, tabv u, .slice rb rows.length rc, .slice ob R.length oc] V (RowsR (itemsOf t ++ itemsOf u) out2) := by
  obtain ⟨skind, stb, snm, s3, s4, s5, sit, sjoin, son, swh, sord, sdesc, sinn⟩ := s
  obtain ⟨tnm, tp, tcols, tcap, tq, tql, tqc⟩ := t
  obtain ⟨unm, up, ucols, ucap, uq, uql, uqc⟩ := u
  simp only at hjn
  refine does_of_zfun [(5, [(0, []), (1, []), (2, []), (3, []), (4, []), (5, []), (6, []), (7, [])])] mixed (args := [.v _, .v _, .v _, .v _, .v _]) (ms := []) Try.func60 (by kernel_rfl) rfl ?_
  conv => whnf
  repeat' first
    | (refine br_t rfl ?_; conv => whnf)
    | (refine br_f rfl ?_; conv => whnf)
    | (refine IdxN.lit rfl rfl ?_; conv => whnf)
    | (intro _; conv => whnf)
  rename_i b5 b6 b7 b10 bt V1 hV1 h1
  refine CallN.pure (named_spec [⟨tnm, tp, tcols, tcap, tq, tql, tqc⟩] bt 1 1 _ h1 (fun t' ht' => by rw [List.mem_singleton.1 ht']; exact ht.mono (by repeat (first | exact View.le_refl _ | assumption | exact View.addU_le _ _ _ | refine View.le_trans ?_ (by assumption) | refine View.le_trans ?_ (View.addU_le _ _ _)))) rfl (by show 1 ≤ 4; decide)) fun v V2 _ hV2 ⟨cb, cc, hv, hc⟩ => ?_
  simp only [List.flatMap_cons, List.flatMap_nil, List.append_nil] at hv hc
  subst hv
  conv => whnf
  repeat' first
    | (refine br_t rfl ?_; conv => whnf)
    | (refine br_f rfl ?_; conv => whnf)
    | (refine IdxN.lit rfl rfl ?_; conv => whnf)
    | (intro _; conv => whnf)
  rename_i b12
  refine loopz (σ := Nat × Option Addr × Nat × List (List Val) × List Value)
    (fun x => [(3, .v (.slice rb rows.length rc)), (4, .v (.slice ob R.length oc)), (5, .own 5 0), (6, .own 6 0), (7, .own 7 0), (10, .own 10 0), (12, .own 12 0), (19, .v (.slice rb rows.length rc)), (20, .v (.int .i64 rows.length)), (21, .v (.int .i64 x.1))])
    (fun x => (5, .box b5 70 [.int .i64 skind, .string stb, .string snm, .slice s3.1 s3.2.1 s3.2.2, .slice s4.1 s4.2.1 s4.2.2, .slice s5.1 s5.2.1 s5.2.2, .slice sit.1 sit.2.1 sit.2.2, .string sjoin, .slice son.1 son.2.1 son.2.2, .slice swh.1 swh.2.1 swh.2.2, .slice sord.1 sord.2.1 sord.2.2, .bool sdesc, .slice sinn.1 sinn.2.1 sinn.2.2]) ::
      (6, .box b6 27 [.string tnm, .slice (some ⟨tp, 0, none⟩) tcols.length tcap, .slice tq tql tqc]) :: (7, .box b7 27 [.string unm, .slice (some ⟨up, 0, none⟩) ucols.length ucap, .slice uq uql uqc]) :: (10, .box b10 113 [.slice none 0 0, .slice none 0 0]) :: (12, .box b12 113 [.slice cb (itemsOf ⟨tnm, tp, tcols, tcap, tq, tql, tqc⟩).length cc, .slice x.2.1 x.2.2.2.1.length x.2.2.1]) ::
      (match x.2.2.2.1 with | [] => [] | _ :: _ => [(30, .row (.slice x.2.1 x.2.2.2.1.length x.2.2.1) 45 1 x.2.2.2.1.length)]))
    (fun j x V' => V2.le V' ∧ x.1 ≤ rows.length ∧ rows.length - x.1 = j ∧ x.2.2.2.1 = rows.take x.1 ∧ (x.2.2.2.1 = [] → x.2.1 = none ∧ x.2.2.1 = 0) ∧ CellsAt V' x.2.2.2.1 x.2.2.2.2 ∧ V'.cells (.slice x.2.1 x.2.2.2.1.length x.2.2.1) x.2.2.2.2)
    rows.length (0, none, 0, [], []) ?_ ?_ ?_ ?_
  · repeat' (first | exact sees_nil | refine sees_cons rfl rfl rfl ?_)
  · repeat' (first | exact keeps_nil | refine keeps_cons rfl ?_ | refine keeps_free ?_)
  · exact ⟨View.le_refl _, Nat.zero_le _, by simp, rfl, fun _ => ⟨rfl, rfl⟩, CellsAt.nil, rfl⟩
  rintro j ⟨i, base, cp, out, cells⟩ V' ⟨hV, hi, hj, hout, hnil, hca, hcl⟩
  simp only at hi hj hout hnil hca hcl
  rcases out with _ | ⟨r0, out1⟩
  · obtain ⟨hb0, hcp0⟩ := hnil rfl
    subst hb0; subst hcp0
    conv => whnf
    apply br <;> intro h3 <;> conv => whnf
    · have hi0 : (i : Int) < rows.length := of_decide_eq_true h3
      have hi1 : i < rows.length := by omega
      obtain ⟨r, hr1⟩ : ∃ r, rows[i]? = some r := ⟨_, List.getElem?_eq_getElem hi1⟩
      obtain ⟨p, off, c, rfl, hcell, hrow⟩ := hr.at hr1
      obtain ⟨rbase, rcap, hrv, hrp, hrva⟩ := hrow
      subst hrv
      refine IdxN.of (by omega) (by omega) ?_
      conv => whnf
      refine LoadN.of (hcell.mono (by repeat (first | exact View.le_refl _ | assumption | exact View.addU_le _ _ _ | refine View.le_trans ?_ (by assumption) | refine View.le_trans ?_ (View.addU_le _ _ _)))) 0 (by show off + i * 1 = off + i + 0; omega) rfl ?_
      conv => whnf
      refine CallN.pure (clone_spec r rbase rcap _ hrp (hrva.mono (by repeat (first | exact View.le_refl _ | assumption | exact View.addU_le _ _ _ | refine View.le_trans ?_ (by assumption) | refine View.le_trans ?_ (View.addU_le _ _ _)))) (hw r (List.mem_of_getElem? hr1))) fun v V3 _ hV3 hv => ?_
      obtain ⟨qb, qc, hqv⟩ := row_shape hv
      subst hqv
      refine Prot.refl ?_
      conv => whnf
      repeat' first
        | (refine br_t rfl ?_; conv => whnf)
        | (refine br_f rfl ?_; conv => whnf)
        | (refine IdxN.lit rfl rfl ?_; conv => whnf)
        | (intro _; conv => whnf)
      rename_i lb lk
      skip
      refine AppN.to (([] : List (List Val)) ++ [r]).length (by simp) cells [.slice qb r.length qc] (hcl.mono (by repeat (first | exact View.le_refl _ | assumption | exact View.addU_le _ _ _ | refine View.le_trans ?_ (by assumption) | refine View.le_trans ?_ (View.addU_le _ _ _)))) (by rw [hca.len]; exact (Nat.mul_one _).symm) lk.has rfl rfl (by simp only [List.length_append, List.length_cons, List.length_nil]; have := congrArg List.length hout; rw [List.length_take] at this; simp only [List.length_cons, List.length_nil] at this; omega) (by decide) fun base' cap' V4 hV4 hc4 => ?_
      conv => whnf
      have hwi := wrap_nat (i := i) (by omega)
      refine ⟨j - 1, (i + 1, base', cap', ([] : List (List Val)) ++ [r], cells ++ [.slice qb r.length qc]), by omega, ?_, ?_, ?_⟩
      · repeat' (first | exact sees_nil | refine sees_cons rfl rfl rfl ?_ | refine sees_cons rfl rfl (by rw [← hwi]; rfl) ?_)
      · repeat' (first | exact keeps_nil | refine keeps_cons rfl ?_ | refine keeps_free ?_)
      · refine ⟨View.le_trans hV (by repeat (first | exact View.le_refl _ | assumption | exact View.addU_le _ _ _ | refine View.le_trans ?_ (by assumption) | refine View.le_trans ?_ (View.addU_le _ _ _))), hi1, by show _ - (i + 1) = _; omega, ?_, fun h => by simp at h, (hca.mono (by repeat (first | exact View.le_refl _ | assumption | exact View.addU_le _ _ _ | refine View.le_trans ?_ (by assumption) | refine View.le_trans ?_ (View.addU_le _ _ _)))).snoc (hv.mono (by repeat (first | exact View.le_refl _ | assumption | exact View.addU_le _ _ _ | refine View.le_trans ?_ (by assumption) | refine View.le_trans ?_ (View.addU_le _ _ _)))), hc4⟩
        show ([] : List (List Val)) ++ [r] = _
        rw [List.take_add_one, hr1, ← hout]; rfl
    · have hi0 : ¬ (i : Int) < rows.length := of_decide_eq_false h3
      refine br_f (by rw [beq_eq_false_iff_ne]; intro h; exact hjn (by rw [h]; simp [ByteArray.toList_eq])) ?_
      conv => whnf
      repeat' first
        | (refine br_t rfl ?_; conv => whnf)
        | (refine br_f rfl ?_; conv => whnf)
        | (refine IdxN.lit rfl rfl ?_; conv => whnf)
        | (intro _; conv => whnf)
      refine CallN.pure (hjd _ (by repeat (first | exact View.le_refl _ | assumption | exact View.addU_le _ _ _ | refine View.le_trans ?_ (by assumption) | refine View.le_trans ?_ (View.addU_le _ _ _)))) fun v V3 _ hV3 ⟨cb3, cc3, rb3, rc3, hv, hc3, hp3, hr3⟩ => ?_
      subst hv
      conv => whnf
      repeat' first
        | (refine br_t rfl ?_; conv => whnf)
        | (refine br_f rfl ?_; conv => whnf)
        | (refine IdxN.lit rfl rfl ?_; conv => whnf)
        | (intro _; conv => whnf)
      exact ret_pure ⟨cb3, cc3, rb3, rc3, rfl, hc3, hp3, hr3⟩
  · conv => whnf
    apply br <;> intro h3 <;> conv => whnf
    · have hi0 : (i : Int) < rows.length := of_decide_eq_true h3
      have hi1 : i < rows.length := by omega
      obtain ⟨r, hr1⟩ : ∃ r, rows[i]? = some r := ⟨_, List.getElem?_eq_getElem hi1⟩
      obtain ⟨p, off, c, rfl, hcell, hrow⟩ := hr.at hr1
      obtain ⟨rbase, rcap, hrv, hrp, hrva⟩ := hrow
      subst hrv
      refine IdxN.of (by omega) (by omega) ?_
      conv => whnf
      refine LoadN.of (hcell.mono (by repeat (first | exact View.le_refl _ | assumption | exact View.addU_le _ _ _ | refine View.le_trans ?_ (by assumption) | refine View.le_trans ?_ (View.addU_le _ _ _)))) 0 (by show off + i * 1 = off + i + 0; omega) rfl ?_
      conv => whnf
      refine CallN.pure (clone_spec r rbase rcap _ hrp (hrva.mono (by repeat (first | exact View.le_refl _ | assumption | exact View.addU_le _ _ _ | refine View.le_trans ?_ (by assumption) | refine View.le_trans ?_ (View.addU_le _ _ _)))) (hw r (List.mem_of_getElem? hr1))) fun v V3 _ hV3 hv => ?_
      obtain ⟨qb, qc, hqv⟩ := row_shape hv
      subst hqv
      refine Prot.refl ?_
      conv => whnf
      repeat' first
        | (refine br_t rfl ?_; conv => whnf)
        | (refine br_f rfl ?_; conv => whnf)
        | (refine IdxN.lit rfl rfl ?_; conv => whnf)
        | (intro _; conv => whnf)
      rename_i lb lk
      refine ⟨⟨30, _, rfl, rfl, ?_⟩⟩
      refine AppN.to ((r0 :: out1) ++ [r]).length (by simp) cells [.slice qb r.length qc] (hcl.mono (by repeat (first | exact View.le_refl _ | assumption | exact View.addU_le _ _ _ | refine View.le_trans ?_ (by assumption) | refine View.le_trans ?_ (View.addU_le _ _ _)))) (by rw [hca.len]; exact (Nat.mul_one _).symm) lk.has rfl rfl (by simp only [List.length_append, List.length_cons, List.length_nil]; have := congrArg List.length hout; rw [List.length_take] at this; simp only [List.length_cons, List.length_nil] at this; omega) (by decide) fun base' cap' V4 hV4 hc4 => ?_
      conv => whnf
      have hwi := wrap_nat (i := i) (by omega)
      refine ⟨j - 1, (i + 1, base', cap', (r0 :: out1) ++ [r], cells ++ [.slice qb r.length qc]), by omega, ?_, ?_, ?_⟩
      · repeat' (first | exact sees_nil | refine sees_cons rfl rfl rfl ?_ | refine sees_cons rfl rfl (by rw [← hwi]; rfl) ?_)
      · repeat' (first | exact keeps_nil | refine keeps_cons rfl ?_ | refine keeps_free ?_)
      · refine ⟨View.le_trans hV (by repeat (first | exact View.le_refl _ | assumption | exact View.addU_le _ _ _ | refine View.le_trans ?_ (by assumption) | refine View.le_trans ?_ (View.addU_le _ _ _))), hi1, by show _ - (i + 1) = _; omega, ?_, fun h => by simp at h, (hca.mono (by repeat (first | exact View.le_refl _ | assumption | exact View.addU_le _ _ _ | refine View.le_trans ?_ (by assumption) | refine View.le_trans ?_ (View.addU_le _ _ _)))).snoc (hv.mono (by repeat (first | exact View.le_refl _ | assumption | exact View.addU_le _ _ _ | refine View.le_trans ?_ (by assumption) | refine View.le_trans ?_ (View.addU_le _ _ _)))), hc4⟩
        show (r0 :: out1) ++ [r] = _
        rw [List.take_add_one, hr1, ← hout]; rfl
    · have hi0 : ¬ (i : Int) < rows.length := of_decide_eq_false h3
      refine br_f (by rw [beq_eq_false_iff_ne]; intro h; exact hjn (by rw [h]; simp [ByteArray.toList_eq])) ?_
      conv => whnf
      repeat' first
        | (refine br_t rfl ?_; conv => whnf)
        | (refine br_f rfl ?_; conv => whnf)
        | (refine IdxN.lit rfl rfl ?_; conv => whnf)
        | (intro _; conv => whnf)
      refine CallN.pure (hjd _ (by repeat (first | exact View.le_refl _ | assumption | exact View.addU_le _ _ _ | refine View.le_trans ?_ (by assumption) | refine View.le_trans ?_ (View.addU_le _ _ _)))) fun v V3 _ hV3 ⟨cb3, cc3, rb3, rc3, hv, hc3, hp3, hr3⟩ => ?_
      subst hv
      conv => whnf
      repeat' first
        | (refine br_t rfl ?_; conv => whnf)
        | (refine br_f rfl ?_; conv => whnf)
        | (refine IdxN.lit rfl rfl ?_; conv => whnf)
        | (intro _; conv => whnf)
      exact ret_pure ⟨cb3, cc3, rb3, rc3, rfl, hc3, hp3, hr3⟩
end Go.Proofs.Ytenpginanhnkbaa
end
