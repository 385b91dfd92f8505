/- One part of a proof: an evaluator of the model, shown right, and contracts that it yields. No condition beyond those that each theorem names. -/
import Derived.Test.YtenpginanhnkbaaCU
section
set_option linter.unusedSimpArgs false
set_option linter.unusedVariables false
namespace Go.Proofs.Ytenpginanhnkbaa
open Go.X
set_option maxRecDepth 100000

set_option maxHeartbeats 4000000 in
theorem orders_all (s : Src) (n : Int) (d : Bool) (V : View) (h1 : s.as V) (hn : 0 ≤ n ∧ n ≤ 255) : PSpec 10 [s.slice, .int .u8 n, .bool d] V (fun v _ => v = .bool true) := by
  refine does_of_zfun [(21, [(0, []), (1, []), (2, []), (3, []), (4, []), (5, []), (6, []), (7, []), (8, []), (9, []), (10, []), (11, []), (12, []), (13, []), (14, []), (15, []), (16, [])]), (22, [(0, []), (1, []), (2, []), (3, []), (4, []), (5, []), (6, []), (7, []), (8, []), (9, []), (10, []), (11, []), (12, []), (13, []), (14, []), (15, []), (16, []), (17, []), (18, []), (19, []), (20, []), (21, []), (22, []), (23, []), (24, []), (25, []), (26, []), (27, []), (28, []), (29, []), (30, []), (31, []), (32, []), (33, []), (34, [])])] mixed (args := [.v _, .v _, .v _]) (ms := []) Try.func10 (by kernel_rfl) rfl ?_
  conv => whnf
  refine CallN.pure (begun12_spec _) fun v V1 _ hV1 hv => ?_
  subst hv
  conv => whnf
  repeat' first
    | (refine br_t rfl ?_; conv => whnf)
    | (refine br_f rfl ?_; conv => whnf)
    | (refine IdxN.lit rfl rfl ?_; conv => whnf)
    | (intro _; conv => whnf)
  apply br <;> intro g1 <;> conv => whnf
  · exact ret_pure rfl
  have g1 : s.l.length ≤ 60 := by have := of_decide_eq_false g1; omega
  have ok := h1.ok g1 (by decide)
  refine CallN.pure (schema_spec _) fun v V2 _ hV2 ⟨r, p, q, p2, hv, t1, t2, t3⟩ => ?_
  subst hv
  conv => whnf
  repeat' first
    | (refine br_t rfl ?_; conv => whnf)
    | (refine br_f rfl ?_; conv => whnf)
    | (refine IdxN.lit rfl rfl ?_; conv => whnf)
    | (intro _; conv => whnf)
  refine LoadN.of (t1.mono (by repeat (first | exact View.le_refl _ | assumption | exact View.addU_le _ _ _ | refine View.le_trans ?_ (by assumption) | refine View.le_trans ?_ (View.addU_le _ _ _)))) 0 rfl rfl ?_
  conv => whnf
  repeat' first
    | (refine br_t rfl ?_; conv => whnf)
    | (refine br_f rfl ?_; conv => whnf)
    | (refine IdxN.lit rfl rfl ?_; conv => whnf)
    | (intro _; conv => whnf)
  rename_i b7
  have hlie : ColsLie V2 colsT p := colsLie_T t2
  refine CallN.news (rowsO_spec s colsT (txt [116]) p 3 3 (some ⟨q, 0, none⟩) 1 1 15 _ (ok.mono (by repeat (first | exact View.le_refl _ | assumption | exact View.addU_le _ _ _ | refine View.le_trans ?_ (by assumption) | refine View.le_trans ?_ (View.addU_le _ _ _)))) (hlie.mono (by repeat (first | exact View.le_refl _ | assumption | exact View.addU_le _ _ _ | refine View.le_trans ?_ (by assumption) | refine View.le_trans ?_ (View.addU_le _ _ _)))) rfl (by decide) rfl) fun v V3 bs hV3 ⟨rows, base, rcap, hv, hrowc, hrlen, hh⟩ => ?_
  subst hv
  have hM : 0 ≤ n.tmod 3 ∧ n.tmod 3 < 3 := by rw [Int.tmod_eq_emod_of_nonneg hn.1]; omega
  rcases hh with ⟨h0, hb⟩ | ⟨g, cells, ex, h0, hbase, hca, hcs, hb⟩
  · subst h0
    subst hb
    refine ⟨[], rfl, List.nodup_nil, fun x hx => (by cases hx), ?_⟩
    conv => whnf
    repeat' first
      | (refine br_t rfl ?_; conv => whnf)
      | (refine br_f rfl ?_; conv => whnf)
      | (refine IdxN.lit rfl rfl ?_; conv => whnf)
      | (intro _; conv => whnf)
    refine unrollz 1 ?_
    conv => whnf
    repeat' first
      | (refine br_t rfl ?_; conv => whnf)
      | (refine br_f rfl ?_; conv => whnf)
      | (refine IdxN.lit rfl rfl ?_; conv => whnf)
      | (intro _; conv => whnf)
    have e0 : (sortX (IntKind.i64.wrap (n.tmod 3)) d []).length = 0 := by
      unfold sortX
      split
      · rfl
      · rfl
    refine CallN.pure (sort_spec [] base rcap _ d _ ⟨⟨[], CellsAt.nil, fun h => absurd rfl h⟩, by decide⟩ (by decide) (fun r hr => (by cases hr))) fun v V4 _ hV4 ⟨b1, c1, hv, _, _⟩ => ?_
    rw [e0] at hv
    subst hv
    conv => whnf
    repeat' first
      | (refine br_t rfl ?_; conv => whnf)
      | (refine br_f rfl ?_; conv => whnf)
      | (refine IdxN.lit rfl rfl ?_; conv => whnf)
      | (intro _; conv => whnf)
    refine unrollz 1 ?_
    conv => whnf
    repeat' first
      | (refine br_t rfl ?_; conv => whnf)
      | (refine br_f rfl ?_; conv => whnf)
      | (refine IdxN.lit rfl rfl ?_; conv => whnf)
      | (intro _; conv => whnf)
    refine unrollz 1 ?_
    conv => whnf
    repeat' first
      | (refine br_t rfl ?_; conv => whnf)
      | (refine br_f rfl ?_; conv => whnf)
      | (refine IdxN.lit rfl rfl ?_; conv => whnf)
      | (intro _; conv => whnf)
    exact ret_pure rfl
  · subst hbase
    have hcl := hca.len
    refine ⟨(3, .box g 45 (cells ++ ex)) :: dynR mkRow 0 cells, ?_, ?_, ?_, ?_⟩
    · rw [hb, List.map_cons, dynR_snd]
    · refine List.nodup_cons.2 ⟨fun hin => ?_, dynR_nodup _ _⟩
      have : 0 + 1000 ≤ (3 : Nat) := dynR_fst _ _ _ hin
      omega
    · intro x hx
      rcases List.mem_cons.1 hx with rfl | hx
      · rfl
      · have := dynR_fst _ _ _ (List.mem_map.2 ⟨x, hx, rfl⟩)
        have e : x.1 = x.1 - 1000 + 1000 := by omega
        rw [e]; rfl
    conv => whnf
    repeat' first
      | (refine br_t rfl ?_; conv => whnf)
      | (refine br_f rfl ?_; conv => whnf)
      | (refine IdxN.lit rfl rfl ?_; conv => whnf)
      | (intro _; conv => whnf)
    refine loopz (σ := Nat × List Value × List Value)
      (fun x => [(1, .v (.int .u8 n)), (2, .v (.bool d)), (8, .v (.slice (some ⟨g, 0, none⟩) rows.length rcap)), (9, .v (.int .i64 x.1))])
      (fun x => (3, .box g 45 (x.2.1 ++ (x.2.2 ++ ex))) :: dynR mkRow x.1 x.2.2)
      (fun j x V' => V3.le V' ∧ x.1 ≤ rows.length ∧ rows.length - x.1 = j ∧ x.2.2 = cells.drop x.1 ∧ CellsAt V' (tagR 0 (rows.take x.1)) x.2.1 ∧ (∀ c ∈ x.2.1, ∃ b n cp, c = .slice b n cp))
      rows.length (0, [], cells) ?_ ?_ ?_ ?_
    · repeat' (first | exact sees_nil | refine sees_cons rfl rfl rfl ?_)
    · refine keeps_cons rfl (keeps_dynR _ 0 fun j c hj => ?_)
      show memOf (dynR mkRow 0 cells) (0 + j + 1000) = _
      rw [Nat.zero_add, memOf_dynR, if_pos (Nat.zero_le _), Nat.sub_zero, show cells[j]? = some c from hj]
    · exact ⟨View.le_refl _, Nat.zero_le _, rfl, rfl, CellsAt.nil, fun c hc => (by cases hc)⟩
    rintro j ⟨i, done, rest⟩ V' ⟨hV, hi, hj, hrest, hdone, hds⟩
    simp only at hi hj hrest hdone hds
    have hdl : done.length = i := by rw [hdone.len, tagR_len, List.length_take]; omega
    conv => whnf
    apply br <;> intro h3 <;> conv => whnf
    · have hi1 : i < rows.length := by have := of_decide_eq_true h3; omega
      obtain ⟨r1, hr1⟩ : ∃ r, rows[i]? = some r := ⟨_, List.getElem?_eq_getElem hi1⟩
      obtain ⟨c1, hc1⟩ : ∃ c, cells[i]? = some c := ⟨_, List.getElem?_eq_getElem (by omega)⟩
      have hdrop : cells.drop i = c1 :: cells.drop (i + 1) := by
        rw [List.drop_eq_getElem_cons (by omega)]
        have e1 : cells[i] = c1 := by rw [List.getElem?_eq_getElem (by omega)] at hc1; exact Option.some.inj hc1
        rw [e1]
      rw [hdrop] at hrest
      subst hrest
      obtain ⟨x, y, z, hxyz, hrT⟩ := rowC_T (hrowc r1 (List.mem_of_getElem? hr1))
      subst hxyz
      have hrow := hca.at' i _ _ hr1 hc1
      obtain ⟨b0, cp0, hrv, hrp, hrva⟩ := hrow
      subst hrv
      have hcl0 : V3.cells (.slice b0 3 cp0) ([x, y, z].flatMap vcells) := (row_news hrp hrva).resolve_left (by simp)
      have hlen : (done ++ ((Value.slice b0 3 cp0 :: cells.drop (i + 1)) ++ ex)).length = cells.length + ex.length := by
        simp only [List.length_append, List.length_cons, List.length_drop]; omega
      refine IdxN.of (by omega) (by omega) ?_
      conv => whnf
      refine LoadN.own 3 rfl (l := [.slice b0 3 cp0]) (by show 0 + i * 1 + 1 ≤ (done ++ ((Value.slice b0 3 cp0 :: cells.drop (i + 1)) ++ ex)).length; omega) ?_ ?_
      conv => whnf
      · show ((done ++ ((Value.slice b0 3 cp0 :: cells.drop (i + 1)) ++ ex)).drop (0 + i * 1)).take 1 = _
        rw [List.drop_append_of_le_length (by omega), List.drop_of_length_le (by omega)]
        rfl
      intro lb Vl hVl lk
      conv => whnf
      have lk : Vl.has lb 0 (vcells (tagV i)) := lk
      have hwi := wrap_nat (i := i) (by omega)
      refine ⟨⟨i + 1000, 3, ?_, ?_⟩⟩
      · show memOf (dynR mkRow i (Value.slice b0 3 cp0 :: cells.drop (i + 1))) (i + 1000) = _
        rw [memOf_dynR, if_pos (Nat.le_refl _), Nat.sub_self]
        rfl
      refine AppN.to 4 rfl ([x, y, z].flatMap vcells) (vcells (tagV i)) (hcl0.mono (by repeat (first | exact View.le_refl _ | assumption | exact View.addU_le _ _ _ | refine View.le_trans ?_ (by assumption) | refine View.le_trans ?_ (View.addU_le _ _ _)))) rfl lk rfl rfl (by decide) (by decide) fun base' cap' V4 hV4 hc4 => ?_
      conv => whnf
      refine IdxN.of (by omega) (by omega) ?_
      conv => whnf
      refine StoN.own 3 rfl (by show 0 + i * 1 + 1 ≤ (done ++ ((Value.slice b0 3 cp0 :: cells.drop (i + 1)) ++ ex)).length; omega) ?_
      conv => whnf
      have hset : setAt (done ++ ((Value.slice b0 3 cp0 :: cells.drop (i + 1)) ++ ex)) (0 + i * 1) [Value.slice base' 4 cap'] = (done ++ [Value.slice base' 4 cap']) ++ (cells.drop (i + 1) ++ ex) := by
        rw [show 0 + i * 1 = done.length by omega, List.cons_append, setAt_mid, List.append_assoc]; rfl
      refine ⟨j - 1, (i + 1, done ++ [Value.slice base' 4 cap'], cells.drop (i + 1)), by omega, ?_, ?_, ?_⟩
      · repeat' (first | exact sees_nil | refine sees_cons rfl rfl rfl ?_ | refine sees_cons rfl rfl (by rw [← hwi]; rfl) ?_)
      · refine keeps_cons (by rw [← hset]; rfl) (keeps_dynR _ (i + 1) fun j c hj => ?_)
        have hj : (cells.drop (i + 1))[j]? = some c := hj
        have hbq : Nat.beq (i + 1 + j + 1000) (i + 1000) = false := by
          cases hb : Nat.beq (i + 1 + j + 1000) (i + 1000) with
          | false => rfl
          | true =>
            have := Nat.eq_of_beq_eq_true hb
            omega
        show (match Nat.beq (i + 1 + j + 1000) (i + 1000) with | true => none | false => memOf (dynR mkRow i (Value.slice b0 3 cp0 :: cells.drop (i + 1))) (i + 1 + j + 1000)) = _
        rw [hbq]
        show memOf (dynR mkRow i (Value.slice b0 3 cp0 :: cells.drop (i + 1))) ((i + 1 + j) + 1000) = _
        rw [memOf_dynR, if_pos (by omega), show i + 1 + j - i = j + 1 by omega, List.getElem?_cons_succ, hj]
      · refine ⟨View.le_trans hV (by repeat (first | exact View.le_refl _ | assumption | exact View.addU_le _ _ _ | refine View.le_trans ?_ (by assumption) | refine View.le_trans ?_ (View.addU_le _ _ _))), hi1, by show _ - (i + 1) = _; omega, rfl, ?_, fun c hc => ?_⟩
        · show CellsAt V4 (tagR 0 (rows.take (i + 1))) _
          rw [List.take_add_one, hr1]
          show CellsAt V4 (tagR 0 (rows.take i ++ [[x, y, z]])) _
          rw [tagR_snoc, List.length_take, Nat.min_eq_left hi, Nat.zero_add]
          exact (hdone.mono (by repeat (first | exact View.le_refl _ | assumption | exact View.addU_le _ _ _ | refine View.le_trans ?_ (by assumption) | refine View.le_trans ?_ (View.addU_le _ _ _)))).snoc ⟨base', cap', rfl, .inr (plain_cells hc4), ValsAt.of_cells hc4 (by simp)⟩
        · rcases List.mem_append.1 hc with h6 | h6
          · exact hds c h6
          · exact ⟨_, _, _, List.mem_singleton.1 h6⟩
    · have hi1 : i = rows.length := by have := of_decide_eq_false h3; omega
      subst hi1
      rw [List.drop_of_length_le (by omega)] at hrest
      subst hrest
      rw [List.take_length] at hdone
      repeat' first
        | (refine br_t rfl ?_; conv => whnf)
        | (refine br_f rfl ?_; conv => whnf)
        | (refine IdxN.lit rfl rfl ?_; conv => whnf)
        | (intro _; conv => whnf)
      have hkw : IntKind.i64.wrap (n.tmod 3) = n.tmod 3 := by rw [wrapE]; omega
      rw [hkw]
      obtain ⟨k, hk⟩ := Int.eq_ofNat_of_zero_le hM.1
      rw [hk] at hM ⊢
      have hk3 : k < 3 := by omega
      have hrT : ∀ r ∈ rows, ∃ x y z, r = [x, y, z] ∧ RowT x y z := fun r hr => rowC_T (hrowc r hr)
      have R := rises k d rows hrT
      have hd0 : done ≠ [] := fun e => h0 (List.eq_nil_of_length_eq_zero (by rw [← hdl, e]; rfl))
      have ht0 : tagR 0 rows ≠ [] := fun e => h0 (List.eq_nil_of_length_eq_zero (by rw [← tagR_len rows 0, e]; rfl))
      refine CallN.lendP 3 (pre := done) (ex := ex) rfl fun lp => ?_
      have hsp := sortN_spec (tagR 0 rows) (some ⟨g, 0, none⟩) rcap k d (V'.add g done) ⟨⟨done, hdone.mono lp, fun _ => ⟨g, 0, rfl, View.add_has⟩⟩, by rw [tagR_len]; omega⟩ (by rw [tagR_len]; omega) (fun r hr => by
        obtain ⟨x, y, z, m, rfl, _, _⟩ := tag_mem hrT hr
        exact ⟨by show k < 4; omega, by show 4 ≤ 1000; decide⟩) ht0
      rw [tagR_len] at hsp
      refine CallN.pure hsp fun v V5 _ hV5 ⟨p5, cap5, cl, hv, hp5, hc5, hnew⟩ => ⟨⟨_, rfl⟩, rfl, fun hb hVc => ?_⟩
      subst hv
      have hpg : p5 ≠ g := fun e => by
        subst e
        obtain ⟨c0, l0, rfl⟩ := List.exists_cons_of_ne_nil hd0
        have h1 : (V'.add p5 (c0 :: l0)) p5 0 = some c0 := View.add_has (b := p5) (cells := c0 :: l0) 0 c0 rfl
        rw [hnew 0] at h1; cases h1
      have hp5 : (V5.cut g).has p5 0 cl := fun i u hu => View.cut_of (hp5 i u hu) hpg
      generalize sortR k d (tagR 0 rows) = y at *
      have hc5 : CellsAt (V5.cut g) y cl := ⟨hc5.len, fun i r c hr hc => (hc5.at' i r c hr hc).cut2 (by
        obtain ⟨a1, a2, a3, a4, rfl, _⟩ := R.shape r (List.mem_of_getElem? hr)
        exact List.cons_ne_nil _ _) hb hds⟩
      generalize V5.cut g = W at *
      have hyl := R.len
      have hcll := hc5.len
      conv => whnf
      repeat' first
        | (refine br_t rfl ?_; conv => whnf)
        | (refine br_f rfl ?_; conv => whnf)
        | (refine IdxN.lit rfl rfl ?_; conv => whnf)
        | (intro _; conv => whnf)
      rename_i b12
      refine loopz (σ := Nat)
        (fun i => [(2, .v (.bool d)), (8, .v (.slice (some ⟨g, 0, none⟩) rows.length rcap)), (10, .v (.int .i64 k)), (11, .v (.slice (some ⟨p5, 0, none⟩) rows.length cap5)), (12, .own 12 0), (13, .v (.int .i64 i))])
        (fun i => [(12, .box b12 76 (seenL (seenS y i)))])
        (fun j i V' => W.le V' ∧ i ≤ rows.length ∧ rows.length - i = j)
        rows.length 0 ?_ ?_ ?_ ?_
      · repeat' (first | exact sees_nil | refine sees_cons rfl rfl rfl ?_)
      · repeat' (first | exact keeps_nil | refine keeps_cons rfl ?_)
      · exact ⟨View.le_refl _, Nat.zero_le _, rfl⟩
      rintro j i V6 ⟨hV6, hi, hj⟩
      conv => whnf
      apply br <;> intro h4 <;> conv => whnf
      · have hi1 : i < rows.length := by have := of_decide_eq_true h4; omega
        obtain ⟨s1, hs1⟩ : ∃ r, y[i]? = some r := ⟨_, List.getElem?_eq_getElem (by omega)⟩
        obtain ⟨c1, hc1⟩ : ∃ c, cl[i]? = some c := ⟨_, List.getElem?_eq_getElem (by omega)⟩
        have hseen := seenS_succ hs1
        obtain ⟨x1, x2, x3, m, hs1e, hT1, hm⟩ := R.shape s1 (List.mem_of_getElem? hs1)
        have hidx : idxR s1 = m := by rw [hs1e]; exact idx_tag (r := [x1, x2, x3]) rfl m
        rw [hidx] at hseen
        have hrow1 := hc5.at' i _ _ hs1 hc1
        have hcell1 := has_one hp5 hc1
        subst hs1e
        obtain ⟨b1, cp1, rfl, _, hva1⟩ := hrow1
        obtain ⟨p6, o6, rfl, h6⟩ := hva1.at (i := 3) (x := tagV m) rfl
        refine IdxN.of (by omega) (by omega) ?_
        conv => whnf
        refine LoadN.of (hcell1.mono (by repeat (first | exact View.le_refl _ | assumption | exact View.addU_le _ _ _ | refine View.le_trans ?_ (by assumption) | refine View.le_trans ?_ (View.addU_le _ _ _)))) 0 (by show 0 + i * 1 = 0 + i + 0; omega) rfl ?_
        conv => whnf
        repeat' first
          | (refine br_t rfl ?_; conv => whnf)
          | (refine br_f rfl ?_; conv => whnf)
          | (refine IdxN.lit rfl rfl ?_; conv => whnf)
          | (intro _; conv => whnf)
        refine IdxN.of (by omega) (by omega) ?_
        conv => whnf
        refine LoadN.of (hcell1.mono (by repeat (first | exact View.le_refl _ | assumption | exact View.addU_le _ _ _ | refine View.le_trans ?_ (by assumption) | refine View.le_trans ?_ (View.addU_le _ _ _)))) 0 (by show 0 + i * 1 = 0 + i + 0; omega) rfl ?_
        conv => whnf
        repeat' first
          | (refine br_t rfl ?_; conv => whnf)
          | (refine br_f rfl ?_; conv => whnf)
          | (refine IdxN.lit rfl rfl ?_; conv => whnf)
          | (intro _; conv => whnf)
        refine LoadN.of (h6.mono (by repeat (first | exact View.le_refl _ | assumption | exact View.addU_le _ _ _ | refine View.le_trans ?_ (by assumption) | refine View.le_trans ?_ (View.addU_le _ _ _)))) 1 rfl rfl ?_
        conv => whnf
        have m0 : decide ((tagV m).n < 0) = false := decide_eq_false (by show ¬ (m : Int) < 0; omega)
        have m20 : decide ((tagV m).n > 19) = false := decide_eq_false (by show ¬ (m : Int) > 19; omega)
        refine br_f m0 ?_
        conv => whnf
        refine IdxN.of (by omega) (by omega) ?_
        conv => whnf
        refine LoadN.of (hcell1.mono (by repeat (first | exact View.le_refl _ | assumption | exact View.addU_le _ _ _ | refine View.le_trans ?_ (by assumption) | refine View.le_trans ?_ (View.addU_le _ _ _)))) 0 (by show 0 + i * 1 = 0 + i + 0; omega) rfl ?_
        conv => whnf
        repeat' first
          | (refine br_t rfl ?_; conv => whnf)
          | (refine br_f rfl ?_; conv => whnf)
          | (refine IdxN.lit rfl rfl ?_; conv => whnf)
          | (intro _; conv => whnf)
        refine LoadN.of (h6.mono (by repeat (first | exact View.le_refl _ | assumption | exact View.addU_le _ _ _ | refine View.le_trans ?_ (by assumption) | refine View.le_trans ?_ (View.addU_le _ _ _)))) 1 rfl rfl ?_
        conv => whnf
        refine br_f m20 ?_
        conv => whnf
        repeat' first
          | (refine br_t rfl ?_; conv => whnf)
          | (refine br_f rfl ?_; conv => whnf)
          | (refine IdxN.lit rfl rfl ?_; conv => whnf)
          | (intro _; conv => whnf)
        refine IdxN.of (by omega) (by omega) ?_
        conv => whnf
        refine LoadN.of (hcell1.mono (by repeat (first | exact View.le_refl _ | assumption | exact View.addU_le _ _ _ | refine View.le_trans ?_ (by assumption) | refine View.le_trans ?_ (View.addU_le _ _ _)))) 0 (by show 0 + i * 1 = 0 + i + 0; omega) rfl ?_
        conv => whnf
        repeat' first
          | (refine br_t rfl ?_; conv => whnf)
          | (refine br_f rfl ?_; conv => whnf)
          | (refine IdxN.lit rfl rfl ?_; conv => whnf)
          | (intro _; conv => whnf)
        refine LoadN.of (h6.mono (by repeat (first | exact View.le_refl _ | assumption | exact View.addU_le _ _ _ | refine View.le_trans ?_ (by assumption) | refine View.le_trans ?_ (View.addU_le _ _ _)))) 1 rfl rfl ?_
        conv => whnf
        have hb20 : Nat.blt m 20 = true := by
          show Nat.ble (m + 1) 20 = true
          rw [Nat.ble_eq]; omega
        generalize he : effOf Try.prog _ _ = e
        obtain rfl : e = .val (.own 12 (0 + m * 1)) := by
          rw [← he]
          show (match Nat.blt m 20 with | true => Eff.val (.own 12 (0 + m * 1)) | false => .bad) = _
          rw [hb20]
        clear he
        conv => whnf
        have hb21 : (0 + m * 1 + (Value.bool true).cells.toList.length).ble (seenL (seenS y i)).length = true := by rw [Nat.ble_eq]; show 0 + m * 1 + 1 ≤ 20; omega
        have hset2 : setAt (seenL (seenS y i)) (0 + m * 1) (Value.bool true).cells.toList = seenL (seenS y (i + 1)) := by
          rw [hseen, show 0 + m * 1 = m by omega]
          exact seenL_set _ m (by omega)
        rw [hb21, hset2]
        conv => whnf
        have hwi := wrap_nat (i := i) (by omega)
        apply br <;> intro h5 <;> conv => whnf
        · refine ⟨j - 1, i + 1, by omega, ?_, ?_, View.le_trans hV6 (by repeat (first | exact View.le_refl _ | assumption | exact View.addU_le _ _ _ | refine View.le_trans ?_ (by assumption) | refine View.le_trans ?_ (View.addU_le _ _ _))), hi1, by omega⟩
          · repeat' (first | exact sees_nil | refine sees_cons rfl rfl rfl ?_ | refine sees_cons rfl rfl (by rw [← hwi]; rfl) ?_)
          · repeat' (first | exact keeps_nil | refine keeps_cons rfl ?_)
        have hi0 : i ≠ 0 := fun e => by
          rw [e] at h5
          exact absurd h5 (by decide)
        obtain ⟨s0, hs0⟩ : ∃ r, y[i - 1]? = some r := ⟨_, List.getElem?_eq_getElem (by omega)⟩
        obtain ⟨c0, hc0⟩ : ∃ c, cl[i - 1]? = some c := ⟨_, List.getElem?_eq_getElem (by omega)⟩
        obtain ⟨z1, z2, z3, m1, rfl, hT0, hm1⟩ := R.shape s0 (List.mem_of_getElem? hs0)
        have hidx0 : idxR [z1, z2, z3, tagV m1] = m1 := idx_tag (r := [z1, z2, z3]) rfl m1
        have hstep := R.step (i - 1) _ _ hs0 (by rw [show i - 1 + 1 = i by omega]; exact hs1)
        rw [hidx0, hidx] at hstep
        have hrow0 := hc5.at' (i - 1) _ _ hs0 hc0
        have hcell0 := has_one hp5 hc0
        obtain ⟨b0, cp0, rfl, _, hva0⟩ := hrow0
        obtain ⟨u0, hu0⟩ : ∃ u, [z1, z2, z3, tagV m1][k]? = some u := ⟨_, List.getElem?_eq_getElem (by show k < 4; omega)⟩
        obtain ⟨u1, hu1⟩ : ∃ u, [x1, x2, x3, tagV m][k]? = some u := ⟨_, List.getElem?_eq_getElem (by show k < 4; omega)⟩
        have hk0 : keyX k [z1, z2, z3, tagV m1] = u0 := by rw [keyX, hu0]
        have hk1 : keyX k [x1, x2, x3, tagV m] = u1 := by rw [keyX, hu1]
        rw [hk0, hk1] at hstep
        obtain ⟨p7, o7, rfl, h70⟩ := hva0.at hu0
        obtain ⟨p7', o7', he7, h73⟩ := hva0.at (i := 3) (x := tagV m1) rfl
        simp only [Option.some.injEq, Addr.mk.injEq, and_true] at he7
        obtain ⟨rfl, rfl⟩ := he7
        obtain ⟨p8, o8, he8, h81⟩ := hva1.at hu1
        simp only [Option.some.injEq, Addr.mk.injEq, and_true] at he8
        obtain ⟨rfl, rfl⟩ := he8
        have hw : IntKind.i64.wrap ((i : Int) - 1) = ((i - 1 : Nat) : Int) := by rw [wrapE]; omega
        refine IdxN.of (by rw [hw]; omega) (by rw [hw]; omega) ?_
        conv => whnf
        refine LoadN.of (hcell0.mono (by repeat (first | exact View.le_refl _ | assumption | exact View.addU_le _ _ _ | refine View.le_trans ?_ (by assumption) | refine View.le_trans ?_ (View.addU_le _ _ _)))) 0 (by rw [hw]; show 0 + (((i - 1 : Nat) : Int)).toNat * 1 = 0 + (i - 1) + 0; omega) rfl ?_
        conv => whnf
        refine IdxN.of (by omega) (by show (k : Int) < 4; omega) ?_
        conv => whnf
        refine LoadN.of (h70.mono (by repeat (first | exact View.le_refl _ | assumption | exact View.addU_le _ _ _ | refine View.le_trans ?_ (by assumption) | refine View.le_trans ?_ (View.addU_le _ _ _)))) 0 (by show o7 + ((k : Nat) : Int).toNat * 3 = o7 + k * 3 + 0; omega) rfl ?_
        conv => whnf
        refine IdxN.of (by omega) (by omega) ?_
        conv => whnf
        refine LoadN.of (hcell1.mono (by repeat (first | exact View.le_refl _ | assumption | exact View.addU_le _ _ _ | refine View.le_trans ?_ (by assumption) | refine View.le_trans ?_ (View.addU_le _ _ _)))) 0 (by show 0 + i * 1 = 0 + i + 0; omega) rfl ?_
        conv => whnf
        refine IdxN.of (by omega) (by show (k : Int) < 4; omega) ?_
        conv => whnf
        refine LoadN.of (h81.mono (by repeat (first | exact View.le_refl _ | assumption | exact View.addU_le _ _ _ | refine View.le_trans ?_ (by assumption) | refine View.le_trans ?_ (View.addU_le _ _ _)))) 0 (by show o6 + ((k : Nat) : Int).toNat * 3 = o6 + k * 3 + 0; omega) rfl ?_
        conv => whnf
        obtain ⟨td0, sz0⟩ := (R.shape _ (List.mem_of_getElem? hs0)).vals (List.mem_of_getElem? hu0)
        obtain ⟨td1, sz1⟩ := (R.shape _ (List.mem_of_getElem? hs1)).vals (List.mem_of_getElem? hu1)
        obtain ⟨q1, q2, q3⟩ := step_cmp td0 td1 hstep
        refine CallN.pure (rcmpv_spec u0 u1 sz0 _) fun v V7 _ hV7 hv => ?_
        subst hv
        refine Prot.refl ?_
        generalize cmpR u0 u1 = cc at *
        cases d
        · have q2 := q2 rfl
          have hno : decide (cc > 0) = false := decide_eq_false (by omega)
          conv => whnf
          repeat (first | (intro _; conv => whnf) | (refine br_t rfl ?_; conv => whnf) | (refine br_f rfl ?_; conv => whnf) | (refine br_f hno ?_; conv => whnf))
          apply br <;> intro h7 <;> conv => whnf
          · have q3 := q3 (by simpa using h7)
            repeat (first | (intro _; conv => whnf) | (refine br_t rfl ?_; conv => whnf) | (refine br_f rfl ?_; conv => whnf) | (refine IdxN.lit rfl rfl ?_; conv => whnf) | (refine br_f hno ?_; conv => whnf) | (refine br_t h7 ?_; conv => whnf))
            refine IdxN.of (by rw [hw]; omega) (by rw [hw]; omega) ?_
            conv => whnf
            repeat (first | (intro _; conv => whnf) | (refine br_t rfl ?_; conv => whnf) | (refine br_f rfl ?_; conv => whnf) | (refine IdxN.lit rfl rfl ?_; conv => whnf) | (refine br_f hno ?_; conv => whnf) | (refine br_t h7 ?_; conv => whnf))
            refine LoadN.of (hcell0.mono (by repeat (first | exact View.le_refl _ | assumption | exact View.addU_le _ _ _ | refine View.le_trans ?_ (by assumption) | refine View.le_trans ?_ (View.addU_le _ _ _)))) 0 (by rw [hw]; show 0 + (((i - 1 : Nat) : Int)).toNat * 1 = 0 + (i - 1) + 0; omega) rfl ?_
            conv => whnf
            repeat (first | (intro _; conv => whnf) | (refine br_t rfl ?_; conv => whnf) | (refine br_f rfl ?_; conv => whnf) | (refine IdxN.lit rfl rfl ?_; conv => whnf) | (refine br_f hno ?_; conv => whnf) | (refine br_t h7 ?_; conv => whnf))
            refine LoadN.of (h73.mono (by repeat (first | exact View.le_refl _ | assumption | exact View.addU_le _ _ _ | refine View.le_trans ?_ (by assumption) | refine View.le_trans ?_ (View.addU_le _ _ _)))) 1 rfl rfl ?_
            conv => whnf
            repeat (first | (intro _; conv => whnf) | (refine br_t rfl ?_; conv => whnf) | (refine br_f rfl ?_; conv => whnf) | (refine IdxN.lit rfl rfl ?_; conv => whnf) | (refine br_f hno ?_; conv => whnf) | (refine br_t h7 ?_; conv => whnf))
            refine IdxN.of (by omega) (by omega) ?_
            conv => whnf
            repeat (first | (intro _; conv => whnf) | (refine br_t rfl ?_; conv => whnf) | (refine br_f rfl ?_; conv => whnf) | (refine IdxN.lit rfl rfl ?_; conv => whnf) | (refine br_f hno ?_; conv => whnf) | (refine br_t h7 ?_; conv => whnf))
            refine LoadN.of (hcell1.mono (by repeat (first | exact View.le_refl _ | assumption | exact View.addU_le _ _ _ | refine View.le_trans ?_ (by assumption) | refine View.le_trans ?_ (View.addU_le _ _ _)))) 0 (by show 0 + i * 1 = 0 + i + 0; omega) rfl ?_
            conv => whnf
            repeat (first | (intro _; conv => whnf) | (refine br_t rfl ?_; conv => whnf) | (refine br_f rfl ?_; conv => whnf) | (refine IdxN.lit rfl rfl ?_; conv => whnf) | (refine br_f hno ?_; conv => whnf) | (refine br_t h7 ?_; conv => whnf))
            refine LoadN.of (h6.mono (by repeat (first | exact View.le_refl _ | assumption | exact View.addU_le _ _ _ | refine View.le_trans ?_ (by assumption) | refine View.le_trans ?_ (View.addU_le _ _ _)))) 1 rfl rfl ?_
            conv => whnf
            repeat (first | (intro _; conv => whnf) | (refine br_t rfl ?_; conv => whnf) | (refine br_f rfl ?_; conv => whnf) | (refine IdxN.lit rfl rfl ?_; conv => whnf) | (refine br_f hno ?_; conv => whnf) | (refine br_t h7 ?_; conv => whnf))
            have hgt : decide ((tagV m1).n > (tagV m).n) = false := decide_eq_false (by show ¬ (m1 : Int) > m; omega)
            repeat (first | (intro _; conv => whnf) | (refine br_t rfl ?_; conv => whnf) | (refine br_f rfl ?_; conv => whnf) | (refine br_f hno ?_; conv => whnf) | (refine br_t h7 ?_; conv => whnf) | (refine br_f hgt ?_; conv => whnf))
            refine ⟨j - 1, i + 1, by omega, ?_, ?_, View.le_trans hV6 (by repeat (first | exact View.le_refl _ | assumption | exact View.addU_le _ _ _ | refine View.le_trans ?_ (by assumption) | refine View.le_trans ?_ (View.addU_le _ _ _))), hi1, by omega⟩
            · repeat' (first | exact sees_nil | refine sees_cons rfl rfl rfl ?_ | refine sees_cons rfl rfl (by rw [← hwi]; rfl) ?_)
            · repeat' (first | exact keeps_nil | refine keeps_cons rfl ?_)
          · repeat (first | (intro _; conv => whnf) | (refine br_t rfl ?_; conv => whnf) | (refine br_f rfl ?_; conv => whnf) | (refine br_f hno ?_; conv => whnf) | (refine br_f h7 ?_; conv => whnf))
            refine ⟨j - 1, i + 1, by omega, ?_, ?_, View.le_trans hV6 (by repeat (first | exact View.le_refl _ | assumption | exact View.addU_le _ _ _ | refine View.le_trans ?_ (by assumption) | refine View.le_trans ?_ (View.addU_le _ _ _))), hi1, by omega⟩
            · repeat' (first | exact sees_nil | refine sees_cons rfl rfl rfl ?_ | refine sees_cons rfl rfl (by rw [← hwi]; rfl) ?_)
            · repeat' (first | exact keeps_nil | refine keeps_cons rfl ?_)
        · have q1 := q1 rfl
          have hno : decide (cc < 0) = false := decide_eq_false (by omega)
          conv => whnf
          repeat (first | (intro _; conv => whnf) | (refine br_t rfl ?_; conv => whnf) | (refine br_f rfl ?_; conv => whnf) | (refine br_f hno ?_; conv => whnf))
          apply br <;> intro h7 <;> conv => whnf
          · have q3 := q3 (by simpa using h7)
            repeat (first | (intro _; conv => whnf) | (refine br_t rfl ?_; conv => whnf) | (refine br_f rfl ?_; conv => whnf) | (refine IdxN.lit rfl rfl ?_; conv => whnf) | (refine br_f hno ?_; conv => whnf) | (refine br_t h7 ?_; conv => whnf))
            refine IdxN.of (by rw [hw]; omega) (by rw [hw]; omega) ?_
            conv => whnf
            repeat (first | (intro _; conv => whnf) | (refine br_t rfl ?_; conv => whnf) | (refine br_f rfl ?_; conv => whnf) | (refine IdxN.lit rfl rfl ?_; conv => whnf) | (refine br_f hno ?_; conv => whnf) | (refine br_t h7 ?_; conv => whnf))
            refine LoadN.of (hcell0.mono (by repeat (first | exact View.le_refl _ | assumption | exact View.addU_le _ _ _ | refine View.le_trans ?_ (by assumption) | refine View.le_trans ?_ (View.addU_le _ _ _)))) 0 (by rw [hw]; show 0 + (((i - 1 : Nat) : Int)).toNat * 1 = 0 + (i - 1) + 0; omega) rfl ?_
            conv => whnf
            repeat (first | (intro _; conv => whnf) | (refine br_t rfl ?_; conv => whnf) | (refine br_f rfl ?_; conv => whnf) | (refine IdxN.lit rfl rfl ?_; conv => whnf) | (refine br_f hno ?_; conv => whnf) | (refine br_t h7 ?_; conv => whnf))
            refine LoadN.of (h73.mono (by repeat (first | exact View.le_refl _ | assumption | exact View.addU_le _ _ _ | refine View.le_trans ?_ (by assumption) | refine View.le_trans ?_ (View.addU_le _ _ _)))) 1 rfl rfl ?_
            conv => whnf
            repeat (first | (intro _; conv => whnf) | (refine br_t rfl ?_; conv => whnf) | (refine br_f rfl ?_; conv => whnf) | (refine IdxN.lit rfl rfl ?_; conv => whnf) | (refine br_f hno ?_; conv => whnf) | (refine br_t h7 ?_; conv => whnf))
            refine IdxN.of (by omega) (by omega) ?_
            conv => whnf
            repeat (first | (intro _; conv => whnf) | (refine br_t rfl ?_; conv => whnf) | (refine br_f rfl ?_; conv => whnf) | (refine IdxN.lit rfl rfl ?_; conv => whnf) | (refine br_f hno ?_; conv => whnf) | (refine br_t h7 ?_; conv => whnf))
            refine LoadN.of (hcell1.mono (by repeat (first | exact View.le_refl _ | assumption | exact View.addU_le _ _ _ | refine View.le_trans ?_ (by assumption) | refine View.le_trans ?_ (View.addU_le _ _ _)))) 0 (by show 0 + i * 1 = 0 + i + 0; omega) rfl ?_
            conv => whnf
            repeat (first | (intro _; conv => whnf) | (refine br_t rfl ?_; conv => whnf) | (refine br_f rfl ?_; conv => whnf) | (refine IdxN.lit rfl rfl ?_; conv => whnf) | (refine br_f hno ?_; conv => whnf) | (refine br_t h7 ?_; conv => whnf))
            refine LoadN.of (h6.mono (by repeat (first | exact View.le_refl _ | assumption | exact View.addU_le _ _ _ | refine View.le_trans ?_ (by assumption) | refine View.le_trans ?_ (View.addU_le _ _ _)))) 1 rfl rfl ?_
            conv => whnf
            repeat (first | (intro _; conv => whnf) | (refine br_t rfl ?_; conv => whnf) | (refine br_f rfl ?_; conv => whnf) | (refine IdxN.lit rfl rfl ?_; conv => whnf) | (refine br_f hno ?_; conv => whnf) | (refine br_t h7 ?_; conv => whnf))
            have hgt : decide ((tagV m1).n > (tagV m).n) = false := decide_eq_false (by show ¬ (m1 : Int) > m; omega)
            repeat (first | (intro _; conv => whnf) | (refine br_t rfl ?_; conv => whnf) | (refine br_f rfl ?_; conv => whnf) | (refine br_f hno ?_; conv => whnf) | (refine br_t h7 ?_; conv => whnf) | (refine br_f hgt ?_; conv => whnf))
            refine ⟨j - 1, i + 1, by omega, ?_, ?_, View.le_trans hV6 (by repeat (first | exact View.le_refl _ | assumption | exact View.addU_le _ _ _ | refine View.le_trans ?_ (by assumption) | refine View.le_trans ?_ (View.addU_le _ _ _))), hi1, by omega⟩
            · repeat' (first | exact sees_nil | refine sees_cons rfl rfl rfl ?_ | refine sees_cons rfl rfl (by rw [← hwi]; rfl) ?_)
            · repeat' (first | exact keeps_nil | refine keeps_cons rfl ?_)
          · repeat (first | (intro _; conv => whnf) | (refine br_t rfl ?_; conv => whnf) | (refine br_f rfl ?_; conv => whnf) | (refine br_f hno ?_; conv => whnf) | (refine br_f h7 ?_; conv => whnf))
            refine ⟨j - 1, i + 1, by omega, ?_, ?_, View.le_trans hV6 (by repeat (first | exact View.le_refl _ | assumption | exact View.addU_le _ _ _ | refine View.le_trans ?_ (by assumption) | refine View.le_trans ?_ (View.addU_le _ _ _))), hi1, by omega⟩
            · repeat' (first | exact sees_nil | refine sees_cons rfl rfl rfl ?_ | refine sees_cons rfl rfl (by rw [← hwi]; rfl) ?_)
            · repeat' (first | exact keeps_nil | refine keeps_cons rfl ?_)
      · have hi1 : i = rows.length := by have := of_decide_eq_false h4; omega
        subst hi1
        repeat' first
          | (refine br_t rfl ?_; conv => whnf)
          | (refine br_f rfl ?_; conv => whnf)
          | (refine IdxN.lit rfl rfl ?_; conv => whnf)
          | (intro _; conv => whnf)
        refine loopz (σ := Nat)
          (fun i => [(8, .v (.slice (some ⟨g, 0, none⟩) rows.length rcap)), (11, .v (.slice (some ⟨p5, 0, none⟩) rows.length cap5)), (12, .own 12 0), (15, .v (.int .i64 i))])
          (fun _ => [(12, .box b12 76 (seenL (seenS y rows.length)))])
          (fun j i V' => V6.le V' ∧ i ≤ rows.length ∧ rows.length - i = j)
          rows.length 0 ?_ ?_ ?_ ?_
        · repeat' (first | exact sees_nil | refine sees_cons rfl rfl rfl ?_)
        · repeat' (first | exact keeps_nil | refine keeps_cons rfl ?_)
        · exact ⟨View.le_refl _, Nat.zero_le _, rfl⟩
        rintro j2 i2 V8 ⟨hV8, hi2, hj2⟩
        conv => whnf
        apply br <;> intro h8 <;> conv => whnf
        · have hi3 : i2 < rows.length := by have := of_decide_eq_true h8; omega
          have hb20 : Nat.blt i2 20 = true := by
            show Nat.ble (i2 + 1) 20 = true
            rw [Nat.ble_eq]; omega
          generalize he : effOf Try.prog _ _ = e
          obtain rfl : e = .val (.own 12 (0 + i2 * 1)) := by
            rw [← he]
            show (match Nat.blt i2 20 with | true => Eff.val (.own 12 (0 + i2 * 1)) | false => .bad) = _
            rw [hb20]
          clear he
          conv => whnf
          have hS : seenS y rows.length i2 = true := by
            have := seenS_all R hi3
            rw [hyl] at this
            exact this
          have htake : ((seenL (seenS y rows.length)).drop (0 + i2 * 1)).take 1 = [.bool true] := by
            have h1 := seenL_get (seenS y rows.length) i2 (by omega)
            have h2 := (List.getElem?_eq_some_iff.1 h1)
            rw [show 0 + i2 * 1 = i2 by omega, List.drop_eq_getElem_cons h2.1, h2.2, hS]
            rfl
          generalize he : effOf Try.prog _ _ = e
          obtain rfl : e = .val (.v (.bool true)) := by
            rw [← he]
            show (match asVar Try.prog 4 (((seenL (seenS y rows.length)).drop (0 + i2 * 1)).take 1) with | some v => (match Nat.beq (((seenL (seenS y rows.length)).drop (0 + i2 * 1)).take 1).length 1 with | true => Eff.val (.v v) | false => .bad) | none => .bad) = _
            rw [htake]
            rfl
          clear he
          conv => whnf
          repeat' first
            | (refine br_t rfl ?_; conv => whnf)
            | (refine br_f rfl ?_; conv => whnf)
            | (refine IdxN.lit rfl rfl ?_; conv => whnf)
            | (intro _; conv => whnf)
          have hwi2 := wrap_nat (i := i2) (by omega)
          refine ⟨j2 - 1, i2 + 1, by omega, ?_, ?_, View.le_trans hV8 (by repeat (first | exact View.le_refl _ | assumption | exact View.addU_le _ _ _ | refine View.le_trans ?_ (by assumption) | refine View.le_trans ?_ (View.addU_le _ _ _))), hi3, by omega⟩
          · repeat' (first | exact sees_nil | refine sees_cons rfl rfl rfl ?_ | refine sees_cons rfl rfl (by rw [← hwi2]; rfl) ?_)
          · repeat' (first | exact keeps_nil | refine keeps_cons rfl ?_)
        · repeat' first
            | (refine br_t rfl ?_; conv => whnf)
            | (refine br_f rfl ?_; conv => whnf)
            | (refine IdxN.lit rfl rfl ?_; conv => whnf)
            | (intro _; conv => whnf)
          refine ret_pure ?_
          simp
          rfl
end Go.Proofs.Ytenpginanhnkbaa
end
