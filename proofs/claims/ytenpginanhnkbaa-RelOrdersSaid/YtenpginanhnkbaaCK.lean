/- One part of a proof: an evaluator of the model, shown right, and contracts that it yields. No condition beyond those that each theorem names. -/
import Derived.Test.YtenpginanhnkbaaCJ
section
set_option linter.unusedSimpArgs false
set_option linter.unusedVariables false
namespace Go.Proofs.Ytenpginanhnkbaa
open Go.X
set_option maxRecDepth 100000

def evR (r : List Val) (e : E) : Val × Int := evalX (fun tb nm => colAt tb nm itemsT r) e
theorem rowC_T {r : List Val} (h : RowC colsT r) : ∃ x y z, r = [x, y, z] ∧ RowT x y z := by
  have hl : r.length = 3 := h.len
  match r, hl with
  | [x, y, z], _ => exact ⟨x, y, z, rfl, h.kind 0 _ x rfl rfl, h.kind 1 _ y rfl rfl, h.kind 2 _ z rfl rfl⟩
theorem or_hold (r : List Val) (e f : E) : holdsX (evR r (.bin 15 e f)) = (if (holdsX (evR r e)).2 ≠ 0 then (false, (holdsX (evR r e)).2) else if (holdsX (evR r e)).1 then (true, 0) else holdsX (evR r f)) := by
  have h1 : evR r (.bin 15 e f) = if (evR r e).2 ≠ 0 ∨ (evR r e).1.n = 15 - 14 then evR r e else evR r f := by
    show evalX _ (.bin 15 e f) = _
    rw [evalX, if_pos (.inr rfl)]; rfl
  rw [h1]
  by_cases h2 : (evR r e).2 = 0
  · by_cases h3 : (evR r e).1.n = 1
    · rw [if_pos (.inr h3)]
      simp [holdsX, h2, h3]
    · rw [if_neg (by intro h; rcases h with h | h; exact h h2; exact h3 h)]
      have h4 : ((evR r e).1.n == 1) = false := by simpa using h3
      simp [holdsX, h2, h4]
  · rw [if_pos (.inl h2)]
    simp [holdsX, h2]
def HW (hold : List Val → Bool × Int) (rows out l : List (List Val)) : Prop := whereX hold rows = (if (whereX hold l).2 = 0 then (out ++ (whereX hold l).1, 0) else ((whereX hold rows).1, (whereX hold l).2))
theorem step_err {hold : List Val → Bool × Int} {rows out l : List (List Val)} {r : List Val} (hw : HW hold rows out (r :: l)) (h : (hold r).2 ≠ 0) : (whereX hold rows).2 = (hold r).2 := by
  unfold HW at hw
  rw [whereX, if_pos h] at hw
  simp only [if_neg h] at hw
  exact congrArg Prod.snd hw
theorem step_in {hold : List Val → Bool × Int} {rows out l : List (List Val)} {r : List Val} (hw : HW hold rows out (r :: l)) (h : hold r = (true, 0)) : HW hold rows (out ++ [r]) l := by
  unfold HW at hw ⊢
  rw [whereX, h] at hw
  rw [List.append_assoc]
  exact hw
theorem step_out {hold : List Val → Bool × Int} {rows out l : List (List Val)} {r : List Val} (hw : HW hold rows out (r :: l)) (h : hold r = (false, 0)) : HW hold rows out l := by
  unfold HW at hw ⊢
  rw [whereX, h] at hw
  exact hw
theorem step_end {hold : List Val → Bool × Int} {rows out : List (List Val)} (hw : HW hold rows out []) : whereX hold rows = (out, 0) := by
  unfold HW at hw
  simpa [whereX] using hw
theorem tabT_items (p : Nat) (q : Option Addr) (ql qc : Nat) : itemsOf ⟨txt [116], p, colsT, 3, q, ql, qc⟩ = itemsT := rfl
theorem colsLie_T {V : View} {p : Nat} (h : V.has p 0 (colsT.flatMap ccells)) : ColsLie V colsT p := ⟨h, by decide, by decide⟩
set_option maxHeartbeats 4000000 in
theorem where_all (s1 s2 s3 : Src) (V : View) (h1 : s1.as V) (h2 : s2.as V) (h3 : s3.as V) : PSpec 11 [s1.slice, s2.slice, s3.slice] V (fun v _ => v = .bool true) := by
  refine does_of_zfun [(16, [(0, []), (1, []), (2, []), (3, []), (4, []), (5, []), (6, []), (7, []), (8, []), (9, []), (10, []), (11, []), (12, [])]), (17, [(0, []), (1, []), (2, []), (3, []), (4, []), (5, []), (6, []), (7, []), (8, []), (9, []), (10, []), (11, []), (12, [])])] mixed (args := [.v _, .v _, .v _]) (ms := []) Try.func11 (by kernel_rfl) rfl ?_
  conv => whnf
  refine CallN.pure (begun12_spec _) fun v V1 _ hV1 hv => ?_
  subst hv
  conv => whnf
  repeat' first
    | (refine br_t rfl ?_; conv => whnf)
    | (refine br_f rfl ?_; conv => whnf)
    | (refine IdxN.lit rfl rfl ?_; conv => whnf)
    | (intro _; conv => whnf)
  apply br <;> intro g1 <;> conv => whnf
  · repeat (refine br_t g1 ?_; conv => whnf)
    exact ret_pure rfl
  repeat (refine br_f g1 ?_; conv => whnf)
  apply br <;> intro g2 <;> conv => whnf
  · repeat (first | (refine br_t g2 ?_; conv => whnf) | (refine br_f g1 ?_; conv => whnf))
    exact ret_pure rfl
  repeat (first | (refine br_f g2 ?_; conv => whnf) | (refine br_f g1 ?_; conv => whnf))
  apply br <;> intro g3 <;> conv => whnf
  · repeat (first | (refine br_t g3 ?_; conv => whnf) | (refine br_f g1 ?_; conv => whnf) | (refine br_f g2 ?_; conv => whnf))
    exact ret_pure rfl
  have g1 : s1.l.length ≤ 50 := by have := of_decide_eq_false g1; omega
  have g2 : s2.l.length ≤ 50 := by have := of_decide_eq_false g2; omega
  have g3 : s3.l.length ≤ 60 := by have := of_decide_eq_false g3; omega
  have ok1 := h1.ok g1 (by decide)
  have ok2 := h2.ok g2 (by decide)
  have ok3 := h3.ok g3 (by decide)
  have far1 : FarOk s1 0 := ⟨by decide, by omega⟩
  have far2 : FarOk s2 0 := ⟨by decide, by omega⟩
  refine CallN.pure (schema_spec _) fun v V2 _ hV2 ⟨r, p, q, p2, hv, t1, t2, t3⟩ => ?_
  subst hv
  conv => whnf
  repeat' first
    | (refine br_t rfl ?_; conv => whnf)
    | (refine br_f rfl ?_; conv => whnf)
    | (refine IdxN.lit rfl rfl ?_; conv => whnf)
    | (intro _; conv => whnf)
  refine LoadN.of (t1.mono (by repeat (first | exact View.le_refl _ | assumption | exact View.addU_le _ _ _ | refine View.le_trans ?_ (by assumption) | refine View.le_trans ?_ (View.addU_le _ _ _)))) 0 rfl rfl ?_
  conv => whnf
  repeat' first
    | (refine br_t rfl ?_; conv => whnf)
    | (refine br_f rfl ?_; conv => whnf)
    | (refine IdxN.lit rfl rfl ?_; conv => whnf)
    | (intro _; conv => whnf)
  rename_i bt
  refine CallN.pure (cols_spec p q _ (t2.mono (by repeat (first | exact View.le_refl _ | assumption | exact View.addU_le _ _ _ | refine View.le_trans ?_ (by assumption) | refine View.le_trans ?_ (View.addU_le _ _ _))))) fun v V3 _ hV3 ⟨a, ao, ac, b, bo, bc, hv, c1, c2⟩ => ?_
  subst hv
  conv => whnf
  have hcols : ColsAt V3 itemsT kindsT a ao b bo := ⟨c1, c2, rfl, by decide⟩
  refine CallN.new 48 rfl (made_spec s1 _) fun v V4 bs hV4 ⟨b4, hv, hb⟩ => ⟨picks b4 s1 0, .own 48 0, hb, by subst hv; rfl, ?_⟩
  subst hv
  conv => whnf
  refine CallN.box 48 rfl (expr_spec b4 s1 itemsT kindsT a ao ac b bo bc 5 3 0 0 _ far1 (ok1.mono (by repeat (first | exact View.le_refl _ | assumption | exact View.addU_le _ _ _ | refine View.le_trans ?_ (by assumption) | refine View.le_trans ?_ (View.addU_le _ _ _)))) (hcols.mono (by repeat (first | exact View.le_refl _ | assumption | exact View.addU_le _ _ _ | refine View.le_trans ?_ (by assumption) | refine View.le_trans ?_ (View.addU_le _ _ _)))) (by decide) (by decide) (by decide)) fun v V5 bs hV5 ⟨e, xe, k5, hv, hrep, hwt, hf5, hb5, hhe⟩ => ⟨85, picksC s1 k5, hb5, ?_⟩
  subst hv
  obtain ⟨xop, xv, xtb, xnm, xbase, xlen, xcap⟩ := xe
  conv => whnf
  repeat' first
    | (refine br_t rfl ?_; conv => whnf)
    | (refine br_f rfl ?_; conv => whnf)
    | (refine IdxN.lit rfl rfl ?_; conv => whnf)
    | (intro _; conv => whnf)
  rename_i be
  refine CallN.new 53 rfl (made_spec s2 _) fun v V6 bs hV6 ⟨b6, hv, hb⟩ => ⟨picks b6 s2 0, .own 53 0, hb, by subst hv; rfl, ?_⟩
  subst hv
  conv => whnf
  refine CallN.box 53 rfl (expr_spec b6 s2 itemsT kindsT a ao ac b bo bc 5 3 0 0 _ far2 (ok2.mono (by repeat (first | exact View.le_refl _ | assumption | exact View.addU_le _ _ _ | refine View.le_trans ?_ (by assumption) | refine View.le_trans ?_ (View.addU_le _ _ _)))) (hcols.mono (by repeat (first | exact View.le_refl _ | assumption | exact View.addU_le _ _ _ | refine View.le_trans ?_ (by assumption) | refine View.le_trans ?_ (View.addU_le _ _ _)))) (by decide) (by decide) (by decide)) fun v V7 bs hV7 ⟨f, xf, k7, hv, hrepf, hwtf, hf7, hb7, hhf⟩ => ⟨85, picksC s2 k7, hb7, ?_⟩
  subst hv
  obtain ⟨yop, yv, ytb, ynm, ybase, ylen, ycap⟩ := xf
  conv => whnf
  repeat' first
    | (refine br_t rfl ?_; conv => whnf)
    | (refine br_f rfl ?_; conv => whnf)
    | (refine IdxN.lit rfl rfl ?_; conv => whnf)
    | (intro _; conv => whnf)
  rename_i bf lz Vz hVz hlz bz
  have hlz : Vz.has lz 0 (xcells ⟨xop, xv, xtb, xnm, xbase, xlen, xcap⟩ ++ xcells ⟨yop, yv, ytb, ynm, ybase, ylen, ycap⟩) := hlz
  have hlie : ColsLie V2 colsT p := colsLie_T t2
  refine CallN.pure (rows_spec s3 colsT (txt [116]) p 3 3 (some ⟨q, 0, none⟩) 1 1 12 _ (ok3.mono (by repeat (first | exact View.le_refl _ | assumption | exact View.addU_le _ _ _ | refine View.le_trans ?_ (by assumption) | refine View.le_trans ?_ (View.addU_le _ _ _)))) (hlie.mono (by repeat (first | exact View.le_refl _ | assumption | exact View.addU_le _ _ _ | refine View.le_trans ?_ (by assumption) | refine View.le_trans ?_ (View.addU_le _ _ _)))) rfl (by decide)) fun v V8 _ hV8 ⟨rows, ⟨rb, rc, hv, hrp, hrows⟩, hrowc, hrlen⟩ => ?_
  subst hv
  conv => whnf
  refine loopz (σ := Nat × Option Addr × Nat × List (List Val) × List Value × Int × Bool)
    (fun x => [(7, .own 7 0), (8, .v (.slice (some ⟨a, ao, none⟩) 3 ac)), (10, .own 10 0), (11, .own 11 0), (12, .own 12 0), (13, .v (.slice rb rows.length rc)), (14, .v (.slice x.2.1 x.2.2.2.1.length x.2.2.1)), (15, .v (.int .i64 x.2.2.2.2.2.1)), (16, .v (.int .i64 x.1))])
    (fun x => (7, .box bt 27 [.string (txt [116]), .slice (some ⟨p, 0, none⟩) 3 3, .slice (some ⟨q, 0, none⟩) 1 1]) ::
      (10, .box be 41 (xcells ⟨xop, xv, xtb, xnm, xbase, xlen, xcap⟩)) :: (11, .box bf 41 (xcells ⟨yop, yv, ytb, ynm, ybase, ylen, ycap⟩)) :: (12, .box bz 41 (xcells ⟨15, v0, noText, noText, some ⟨lz, 0, none⟩, 2, 2⟩)) ::
      (match x.2.2.2.1 with | [] => [] | _ :: _ => (match x.2.2.2.2.2.2 with | true => [(108, .row (.slice x.2.1 x.2.2.2.1.length x.2.2.1) 45 1 x.2.2.2.1.length)] | false => [(121, .row (.slice x.2.1 x.2.2.2.1.length x.2.2.1) 45 1 x.2.2.2.1.length)])))
    (fun j x V' => V8.le V' ∧ x.1 ≤ rows.length ∧ rows.length - x.1 = j ∧ x.2.2.2.1.length ≤ x.1 ∧ (x.2.2.2.1 = [] → x.2.1 = none ∧ x.2.2.1 = 0) ∧ CellsAt V' x.2.2.2.1 x.2.2.2.2.1 ∧ V'.cells (.slice x.2.1 x.2.2.2.1.length x.2.2.1) x.2.2.2.2.1 ∧
      (x.2.2.2.2.2.1 = 0 → whereX (fun r => holdsX (evR r (.bin 15 e f))) rows = (if (whereX (fun r => holdsX (evR r (.bin 15 e f))) (rows.drop x.1)).2 = 0 then (x.2.2.2.1 ++ (whereX (fun r => holdsX (evR r (.bin 15 e f))) (rows.drop x.1)).1, 0) else ((whereX (fun r => holdsX (evR r (.bin 15 e f))) rows).1, (whereX (fun r => holdsX (evR r (.bin 15 e f))) (rows.drop x.1)).2))) ∧
      (x.2.2.2.2.2.1 ≠ 0 → (whereX (fun r => holdsX (evR r (.bin 15 e f))) rows).2 = x.2.2.2.2.2.1))
    rows.length (0, none, 0, [], [], 0, true) ?_ ?_ ?_ ?_
  · repeat' (first | exact sees_nil | refine sees_cons rfl rfl rfl ?_)
  · repeat' (first | exact keeps_nil | refine keeps_cons rfl ?_ | refine keeps_free ?_)
  · refine ⟨View.le_refl _, Nat.zero_le _, by simp, Nat.le_refl _, fun _ => ⟨rfl, rfl⟩, CellsAt.nil, rfl, fun _ => ?_, fun h => absurd rfl h⟩
    simp only [List.drop_zero, List.nil_append]
    split
    · rename_i h0; rw [← h0]
    · rfl
  generalize hwx : (fun r => holdsX (evR r (.bin 15 e f))) = hold
  rintro j ⟨i, base, cp, out, cells, er, dd⟩ V' ⟨hV, hi, hj, hl, hnil, hca, hcl, hw, hwe⟩
  simp only at hi hj hl hnil hca hcl hw hwe
  rcases out with _ | ⟨r0, out1⟩
  · obtain ⟨hb0, hcp0⟩ := hnil rfl
    subst hb0; subst hcp0
    conv => whnf
    apply br <;> intro h3 <;> conv => whnf
    · have hi0 : (i : Int) < rows.length := of_decide_eq_true h3
      have hi1 : i < rows.length := by omega
      repeat' first
        | (refine br_t rfl ?_; conv => whnf)
        | (refine br_f rfl ?_; conv => whnf)
        | (refine IdxN.lit rfl rfl ?_; conv => whnf)
        | (intro _; conv => whnf)
      apply br <;> intro h4 <;> conv => whnf
      · have h4 : er = 0 := by simpa using h4
        have hw := hw h4
        obtain ⟨r, hr1⟩ : ∃ r, rows[i]? = some r := ⟨_, List.getElem?_eq_getElem hi1⟩
        have hdrop : rows.drop i = r :: rows.drop (i + 1) := by
          rw [List.drop_eq_getElem_cons hi1]
          have e1 : rows[i] = r := by rw [List.getElem?_eq_getElem hi1] at hr1; exact Option.some.inj hr1
          rw [e1]
        have hw : HW hold rows ([] : List (List Val)) (rows.drop i) := hw
        rw [hdrop] at hw
        have hor : hold r = (if (holdsX (evR r e)).2 ≠ 0 then (false, (holdsX (evR r e)).2) else if (holdsX (evR r e)).1 then (true, 0) else holdsX (evR r f)) := by rw [← hwx]; exact or_hold r e f
        have hwi := wrap_nat (i := i) (by omega)
        obtain ⟨x, y, z, hxyz, hrT⟩ := rowC_T (hrowc r (List.mem_of_getElem? hr1))
        obtain ⟨p9, off, c, hb9, hcell, hrow⟩ := hrows.at hr1
        obtain ⟨rbase, rcap, hrv, _, hrva⟩ := hrow
        obtain ⟨d9, dof, hb10, hrow9⟩ := hrva.has (by rw [hxyz]; simp)
        subst hb9; subst hrv; subst hb10
        refine IdxN.of (by omega) (by omega) ?_
        conv => whnf
        refine LoadN.of (hcell.mono (by repeat (first | exact View.le_refl _ | assumption | exact View.addU_le _ _ _ | refine View.le_trans ?_ (by assumption) | refine View.le_trans ?_ (View.addU_le _ _ _)))) 0 (by show off + i * 1 = off + i + 0; omega) rfl ?_
        conv => whnf
        repeat' first
          | (refine br_t rfl ?_; conv => whnf)
          | (refine br_f rfl ?_; conv => whnf)
          | (refine IdxN.lit rfl rfl ?_; conv => whnf)
          | (intro _; conv => whnf)
        rename_i l1 hl1
        subst hxyz
        refine CallN.pure (rholds_spec _ _ l1 0 1 ⟨xop, xv, xtb, xnm, xbase, xlen, xcap⟩ (evR [x, y, z] e) _ (by exact hl1.has) (fun V2 hV2 => ref_T x y z hrT a ao _ d9 dof _ _ (c1.mono (by repeat (first | exact View.le_refl _ | assumption | exact View.addU_le _ _ _ | refine View.le_trans ?_ (by assumption) | refine View.le_trans ?_ (View.addU_le _ _ _)))) (hrow9.mono (by repeat (first | exact View.le_refl _ | assumption | exact View.addU_le _ _ _ | refine View.le_trans ?_ (by assumption) | refine View.le_trans ?_ (View.addU_le _ _ _)))) hwt (xe := ⟨xop, xv, xtb, xnm, xbase, xlen, xcap⟩) (hrep.mono (by repeat (first | exact View.le_refl _ | assumption | exact View.addU_le _ _ _ | refine View.le_trans ?_ (by assumption) | refine View.le_trans ?_ (View.addU_le _ _ _)))).re)) fun v V9 _ hV9 hv => ?_
        subst hv
        refine Prot.refl ?_
        conv => whnf
        repeat' first
          | (refine br_t rfl ?_; conv => whnf)
          | (refine br_f rfl ?_; conv => whnf)
          | (refine IdxN.lit rfl rfl ?_; conv => whnf)
          | (intro _; conv => whnf)
        refine IdxN.of (by omega) (by omega) ?_
        conv => whnf
        refine LoadN.of (hcell.mono (by repeat (first | exact View.le_refl _ | assumption | exact View.addU_le _ _ _ | refine View.le_trans ?_ (by assumption) | refine View.le_trans ?_ (View.addU_le _ _ _)))) 0 (by show off + i * 1 = off + i + 0; omega) rfl ?_
        conv => whnf
        repeat' first
          | (refine br_t rfl ?_; conv => whnf)
          | (refine br_f rfl ?_; conv => whnf)
          | (refine IdxN.lit rfl rfl ?_; conv => whnf)
          | (intro _; conv => whnf)
        rename_i l2 hl2
        refine CallN.pure (rholds_spec _ _ l2 0 1 ⟨yop, yv, ytb, ynm, ybase, ylen, ycap⟩ (evR [x, y, z] f) _ (by exact hl2.has) (fun V2 hV2 => ref_T x y z hrT a ao _ d9 dof _ _ (c1.mono (by repeat (first | exact View.le_refl _ | assumption | exact View.addU_le _ _ _ | refine View.le_trans ?_ (by assumption) | refine View.le_trans ?_ (View.addU_le _ _ _)))) (hrow9.mono (by repeat (first | exact View.le_refl _ | assumption | exact View.addU_le _ _ _ | refine View.le_trans ?_ (by assumption) | refine View.le_trans ?_ (View.addU_le _ _ _)))) hwtf (xe := ⟨yop, yv, ytb, ynm, ybase, ylen, ycap⟩) (hrepf.mono (by repeat (first | exact View.le_refl _ | assumption | exact View.addU_le _ _ _ | refine View.le_trans ?_ (by assumption) | refine View.le_trans ?_ (View.addU_le _ _ _)))).re)) fun v V10 _ hV10 hv => ?_
        subst hv
        refine Prot.refl ?_
        conv => whnf
        repeat' first
          | (refine br_t rfl ?_; conv => whnf)
          | (refine br_f rfl ?_; conv => whnf)
          | (refine IdxN.lit rfl rfl ?_; conv => whnf)
          | (intro _; conv => whnf)
        apply br <;> intro g4 <;> conv => whnf
        · have g4 : (holdsX (evR [x, y, z] e)).2 ≠ 0 := by simpa using g4
          rw [if_pos g4] at hor
          refine ⟨j - 1, (i + 1, none, 0, ([] : List (List Val)), cells, (holdsX (evR [x, y, z] e)).2, dd), by omega, ?_, ?_, ?_⟩
          · repeat' (first | exact sees_nil | refine sees_cons rfl rfl rfl ?_ | refine sees_cons rfl rfl (by rw [← hwi]; rfl) ?_)
          · repeat' (first | exact keeps_nil | refine keeps_cons rfl ?_ | refine keeps_free ?_)
          refine ⟨View.le_trans hV (by repeat (first | exact View.le_refl _ | assumption | exact View.addU_le _ _ _ | refine View.le_trans ?_ (by assumption) | refine View.le_trans ?_ (View.addU_le _ _ _))), hi1, by show _ - (i + 1) = _; omega, by show (([] : List (List Val))).length ≤ i + 1; omega, hnil, hca.mono (by repeat (first | exact View.le_refl _ | assumption | exact View.addU_le _ _ _ | refine View.le_trans ?_ (by assumption) | refine View.le_trans ?_ (View.addU_le _ _ _))), hcl.mono (by repeat (first | exact View.le_refl _ | assumption | exact View.addU_le _ _ _ | refine View.le_trans ?_ (by assumption) | refine View.le_trans ?_ (View.addU_le _ _ _))), fun h => absurd h g4, fun _ => ?_⟩
          rw [step_err hw (by rw [hor]; exact g4), hor]
        · have g4 : (holdsX (evR [x, y, z] e)).2 = 0 := by simpa using g4
          rw [if_neg (fun h => h g4)] at hor
          apply br <;> intro g5 <;> conv => whnf
          · rw [if_pos g5] at hor
            refine IdxN.of (by omega) (by omega) ?_
            conv => whnf
            refine LoadN.of (hcell.mono (by repeat (first | exact View.le_refl _ | assumption | exact View.addU_le _ _ _ | refine View.le_trans ?_ (by assumption) | refine View.le_trans ?_ (View.addU_le _ _ _)))) 0 (by show off + i * 1 = off + i + 0; omega) rfl ?_
            conv => whnf
            intro ln Vn hVn hln
            conv => whnf
            skip
            refine AppN.to (([] : List (List Val)) ++ [[x, y, z]]).length (by simp) cells [.slice (some ⟨d9, dof, none⟩) [x, y, z].length rcap] (hcl.mono (by repeat (first | exact View.le_refl _ | assumption | exact View.addU_le _ _ _ | refine View.le_trans ?_ (by assumption) | refine View.le_trans ?_ (View.addU_le _ _ _)))) (by rw [hca.len]; exact (Nat.mul_one _).symm) hln rfl rfl (by simp only [List.length_append, List.length_cons, List.length_nil] at hl ⊢; omega) (by decide) fun base' cap' Vm hVm hcm => ?_
            conv => whnf
            refine ⟨j - 1, (i + 1, base', cap', ([] : List (List Val)) ++ [[x, y, z]], cells ++ [.slice (some ⟨d9, dof, none⟩) [x, y, z].length rcap], er, true), by omega, ?_, ?_, ?_⟩
            · repeat' (first | exact sees_nil | refine sees_cons rfl rfl rfl ?_ | refine sees_cons rfl rfl (by rw [← hwi]; rfl) ?_)
            · repeat' (first | exact keeps_nil | refine keeps_cons rfl ?_ | refine keeps_free ?_)
            · exact ⟨View.le_trans hV (by repeat (first | exact View.le_refl _ | assumption | exact View.addU_le _ _ _ | refine View.le_trans ?_ (by assumption) | refine View.le_trans ?_ (View.addU_le _ _ _))), hi1, by show _ - (i + 1) = _; omega, by show (([] : List (List Val)) ++ [[x, y, z]]).length ≤ i + 1; simp only [List.length_append, List.length_cons, List.length_nil] at hl ⊢; omega, fun h => by simp at h, (hca.mono (by repeat (first | exact View.le_refl _ | assumption | exact View.addU_le _ _ _ | refine View.le_trans ?_ (by assumption) | refine View.le_trans ?_ (View.addU_le _ _ _)))).snoc ⟨_, _, rfl, .inr (.inr ⟨_, _, rfl⟩), hrva.mono (by repeat (first | exact View.le_refl _ | assumption | exact View.addU_le _ _ _ | refine View.le_trans ?_ (by assumption) | refine View.le_trans ?_ (View.addU_le _ _ _)))⟩, hcm, fun _ => step_in hw hor, fun h => absurd h4 h⟩
          · rw [if_neg (by rw [g5]; simp)] at hor
            apply br <;> intro g6 <;> conv => whnf
            · have g6 : (holdsX (evR [x, y, z] f)).2 ≠ 0 := by simpa using g6
              refine ⟨j - 1, (i + 1, none, 0, ([] : List (List Val)), cells, (holdsX (evR [x, y, z] f)).2, dd), by omega, ?_, ?_, ?_⟩
              · repeat' (first | exact sees_nil | refine sees_cons rfl rfl rfl ?_ | refine sees_cons rfl rfl (by rw [← hwi]; rfl) ?_)
              · repeat' (first | exact keeps_nil | refine keeps_cons rfl ?_ | refine keeps_free ?_)
              refine ⟨View.le_trans hV (by repeat (first | exact View.le_refl _ | assumption | exact View.addU_le _ _ _ | refine View.le_trans ?_ (by assumption) | refine View.le_trans ?_ (View.addU_le _ _ _))), hi1, by show _ - (i + 1) = _; omega, by show (([] : List (List Val))).length ≤ i + 1; omega, hnil, hca.mono (by repeat (first | exact View.le_refl _ | assumption | exact View.addU_le _ _ _ | refine View.le_trans ?_ (by assumption) | refine View.le_trans ?_ (View.addU_le _ _ _))), hcl.mono (by repeat (first | exact View.le_refl _ | assumption | exact View.addU_le _ _ _ | refine View.le_trans ?_ (by assumption) | refine View.le_trans ?_ (View.addU_le _ _ _))), fun h => absurd h g6, fun _ => ?_⟩
              rw [step_err hw (by rw [hor]; exact g6), hor]
            · have g6 : (holdsX (evR [x, y, z] f)).2 = 0 := by simpa using g6
              apply br <;> intro g7 <;> conv => whnf
              · have hor : hold [x, y, z] = (true, 0) := by rw [hor, ← g6, ← g7]
                refine IdxN.of (by omega) (by omega) ?_
                conv => whnf
                refine LoadN.of (hcell.mono (by repeat (first | exact View.le_refl _ | assumption | exact View.addU_le _ _ _ | refine View.le_trans ?_ (by assumption) | refine View.le_trans ?_ (View.addU_le _ _ _)))) 0 (by show off + i * 1 = off + i + 0; omega) rfl ?_
                conv => whnf
                intro ln Vn hVn hln
                conv => whnf
                skip
                refine AppN.to (([] : List (List Val)) ++ [[x, y, z]]).length (by simp) cells [.slice (some ⟨d9, dof, none⟩) [x, y, z].length rcap] (hcl.mono (by repeat (first | exact View.le_refl _ | assumption | exact View.addU_le _ _ _ | refine View.le_trans ?_ (by assumption) | refine View.le_trans ?_ (View.addU_le _ _ _)))) (by rw [hca.len]; exact (Nat.mul_one _).symm) hln rfl rfl (by simp only [List.length_append, List.length_cons, List.length_nil] at hl ⊢; omega) (by decide) fun base' cap' Vm hVm hcm => ?_
                conv => whnf
                refine ⟨j - 1, (i + 1, base', cap', ([] : List (List Val)) ++ [[x, y, z]], cells ++ [.slice (some ⟨d9, dof, none⟩) [x, y, z].length rcap], er, false), by omega, ?_, ?_, ?_⟩
                · repeat' (first | exact sees_nil | refine sees_cons rfl rfl rfl ?_ | refine sees_cons rfl rfl (by rw [← hwi]; rfl) ?_)
                · repeat' (first | exact keeps_nil | refine keeps_cons rfl ?_ | refine keeps_free ?_)
                · exact ⟨View.le_trans hV (by repeat (first | exact View.le_refl _ | assumption | exact View.addU_le _ _ _ | refine View.le_trans ?_ (by assumption) | refine View.le_trans ?_ (View.addU_le _ _ _))), hi1, by show _ - (i + 1) = _; omega, by show (([] : List (List Val)) ++ [[x, y, z]]).length ≤ i + 1; simp only [List.length_append, List.length_cons, List.length_nil] at hl ⊢; omega, fun h => by simp at h, (hca.mono (by repeat (first | exact View.le_refl _ | assumption | exact View.addU_le _ _ _ | refine View.le_trans ?_ (by assumption) | refine View.le_trans ?_ (View.addU_le _ _ _)))).snoc ⟨_, _, rfl, .inr (.inr ⟨_, _, rfl⟩), hrva.mono (by repeat (first | exact View.le_refl _ | assumption | exact View.addU_le _ _ _ | refine View.le_trans ?_ (by assumption) | refine View.le_trans ?_ (View.addU_le _ _ _)))⟩, hcm, fun _ => step_in hw hor, fun h => absurd h4 h⟩
              · have hor : hold [x, y, z] = (false, 0) := by rw [hor, ← g6, ← g7]
                refine ⟨j - 1, (i + 1, none, 0, ([] : List (List Val)), cells, er, dd), by omega, ?_, ?_, ?_⟩
                · repeat' (first | exact sees_nil | refine sees_cons rfl rfl rfl ?_ | refine sees_cons rfl rfl (by rw [← hwi]; rfl) ?_)
                · repeat' (first | exact keeps_nil | refine keeps_cons rfl ?_ | refine keeps_free ?_)
                exact ⟨View.le_trans hV (by repeat (first | exact View.le_refl _ | assumption | exact View.addU_le _ _ _ | refine View.le_trans ?_ (by assumption) | refine View.le_trans ?_ (View.addU_le _ _ _))), hi1, by show _ - (i + 1) = _; omega, by show (([] : List (List Val))).length ≤ i + 1; omega, hnil, hca.mono (by repeat (first | exact View.le_refl _ | assumption | exact View.addU_le _ _ _ | refine View.le_trans ?_ (by assumption) | refine View.le_trans ?_ (View.addU_le _ _ _))), hcl.mono (by repeat (first | exact View.le_refl _ | assumption | exact View.addU_le _ _ _ | refine View.le_trans ?_ (by assumption) | refine View.le_trans ?_ (View.addU_le _ _ _))), fun _ => step_out hw hor, fun h => absurd h4 h⟩
      · have h4 : er ≠ 0 := by simpa using h4
        repeat' first
          | (refine br_t rfl ?_; conv => whnf)
          | (refine br_f rfl ?_; conv => whnf)
          | (refine IdxN.lit rfl rfl ?_; conv => whnf)
          | (intro _; conv => whnf)
        rename_i lw Vw hVw hlw
        have hlw : Vw.has lw 0 (xcells ⟨15, v0, noText, noText, some ⟨lz, 0, none⟩, 2, 2⟩) := hlw
        have hold_spec : ∀ cb cc, ∀ V1, Vw.le V1 → V1.cells (.slice cb (itemsOf ⟨txt [116], p, colsT, 3, some ⟨q, 0, none⟩, 1, 1⟩).length cc) ((itemsOf ⟨txt [116], p, colsT, 3, some ⟨q, 0, none⟩, 1, 1⟩).flatMap icells) → ∀ r ∈ rows, ∀ v V', V1.le V' → RowAt V' r v → PSpec 22 [.slice cb (itemsOf ⟨txt [116], p, colsT, 3, some ⟨q, 0, none⟩, 1, 1⟩).length cc, v, .slice (some ⟨lw, 0, none⟩) 1 1] V' (fun v _ => v = .tuple #[.bool (hold r).1, .int .i64 (hold r).2]) := by
          intro cb cc V4 hV4 hc r hr v V5 hV5 hra
          obtain ⟨x, y, z, hxyz, hrT⟩ := rowC_T (hrowc r hr)
          obtain ⟨p9, o9, hcb, hc9⟩ := cells_some hc (by intro h; cases h)
          obtain ⟨qb, qc, hqv, _, hqva⟩ := hra
          obtain ⟨d9, dof, hqb, hrow⟩ := hqva.has (by rw [hxyz]; simp)
          subst hcb; subst hqv; subst hqb; subst hxyz
          rw [← hwx]
          exact holds_T x y z hrT p9 o9 cc d9 dof qc lw 0 1 V5 (hc9.mono (by repeat (first | exact View.le_refl _ | assumption | exact View.addU_le _ _ _ | refine View.le_trans ?_ (by assumption) | refine View.le_trans ?_ (View.addU_le _ _ _)))) hrow (.both (by decide) hwt hwtf) (xe := ⟨15, v0, noText, noText, some ⟨lz, 0, none⟩, 2, 2⟩) ⟨rfl, by decide, rfl, lz, 0, ⟨xop, xv, xtb, xnm, xbase, xlen, xcap⟩, ⟨yop, yv, ytb, ynm, ybase, ylen, ycap⟩, rfl, (hlz.mono (by repeat (first | exact View.le_refl _ | assumption | exact View.addU_le _ _ _ | refine View.le_trans ?_ (by assumption) | refine View.le_trans ?_ (View.addU_le _ _ _)))), (hrep.mono (by repeat (first | exact View.le_refl _ | assumption | exact View.addU_le _ _ _ | refine View.le_trans ?_ (by assumption) | refine View.le_trans ?_ (View.addU_le _ _ _)))).re, (hrepf.mono (by repeat (first | exact View.le_refl _ | assumption | exact View.addU_le _ _ _ | refine View.le_trans ?_ (by assumption) | refine View.le_trans ?_ (View.addU_le _ _ _)))).re⟩ (hlw.mono (by repeat (first | exact View.le_refl _ | assumption | exact View.addU_le _ _ _ | refine View.le_trans ?_ (by assumption) | refine View.le_trans ?_ (View.addU_le _ _ _))))
        refine CallN.pure (select1_spec ⟨6, txt [116], noText, (none, 0, 0), (none, 0, 0), (none, 0, 0), (none, 0, 0), noText, (none, 0, 0), (some ⟨lw, 0, none⟩, 1, 1), (none, 0, 0), false, (none, 0, 0)⟩ ⟨txt [116], p, colsT, 3, some ⟨q, 0, none⟩, 1, 1⟩ ⟨noText, 0, [], 0, none, 0, 0⟩ _ rfl
          rows rb none rc 0 0 hold _ noText_list rfl rfl (hlie.mono (by repeat (first | exact View.le_refl _ | assumption | exact View.addU_le _ _ _ | refine View.le_trans ?_ (by assumption) | refine View.le_trans ?_ (View.addU_le _ _ _)))) (hrows.mono (by repeat (first | exact View.le_refl _ | assumption | exact View.addU_le _ _ _ | refine View.le_trans ?_ (by assumption) | refine View.le_trans ?_ (View.addU_le _ _ _)))) (by omega) (fun r hr => by have : r.length = 3 := (hrowc r hr).len; omega) hold_spec) fun v V11 _ hV11 ⟨gx, hv, hok, hbad⟩ => ?_
        have hwe := hwe h4
        rw [hwe] at hv hok hbad
        have hgx := hbad h4
        subst hgx
        subst hv
        conv => whnf
        refine br_t (by simpa using h4) ?_
        conv => whnf
        repeat' first
          | (refine br_t rfl ?_; conv => whnf)
          | (refine br_f rfl ?_; conv => whnf)
          | (refine IdxN.lit rfl rfl ?_; conv => whnf)
          | (intro _; conv => whnf)
        refine br_t (by simp) ?_
        conv => whnf
        repeat' first
          | (refine br_t rfl ?_; conv => whnf)
          | (refine br_f rfl ?_; conv => whnf)
          | (refine IdxN.lit rfl rfl ?_; conv => whnf)
          | (intro _; conv => whnf)
        exact ret_pure rfl
    · have hi0 : ¬ (i : Int) < rows.length := of_decide_eq_false h3
      repeat (refine br_f h3 ?_; conv => whnf)
      repeat' first
        | (refine br_t rfl ?_; conv => whnf)
        | (refine br_f rfl ?_; conv => whnf)
        | (refine IdxN.lit rfl rfl ?_; conv => whnf)
        | (intro _; conv => whnf)
      rename_i lw Vw hVw hlw
      have hlw : Vw.has lw 0 (xcells ⟨15, v0, noText, noText, some ⟨lz, 0, none⟩, 2, 2⟩) := hlw
      have hold_spec : ∀ cb cc, ∀ V1, Vw.le V1 → V1.cells (.slice cb (itemsOf ⟨txt [116], p, colsT, 3, some ⟨q, 0, none⟩, 1, 1⟩).length cc) ((itemsOf ⟨txt [116], p, colsT, 3, some ⟨q, 0, none⟩, 1, 1⟩).flatMap icells) → ∀ r ∈ rows, ∀ v V', V1.le V' → RowAt V' r v → PSpec 22 [.slice cb (itemsOf ⟨txt [116], p, colsT, 3, some ⟨q, 0, none⟩, 1, 1⟩).length cc, v, .slice (some ⟨lw, 0, none⟩) 1 1] V' (fun v _ => v = .tuple #[.bool (hold r).1, .int .i64 (hold r).2]) := by
        intro cb cc V4 hV4 hc r hr v V5 hV5 hra
        obtain ⟨x, y, z, hxyz, hrT⟩ := rowC_T (hrowc r hr)
        obtain ⟨p9, o9, hcb, hc9⟩ := cells_some hc (by intro h; cases h)
        obtain ⟨qb, qc, hqv, _, hqva⟩ := hra
        obtain ⟨d9, dof, hqb, hrow⟩ := hqva.has (by rw [hxyz]; simp)
        subst hcb; subst hqv; subst hqb; subst hxyz
        rw [← hwx]
        exact holds_T x y z hrT p9 o9 cc d9 dof qc lw 0 1 V5 (hc9.mono (by repeat (first | exact View.le_refl _ | assumption | exact View.addU_le _ _ _ | refine View.le_trans ?_ (by assumption) | refine View.le_trans ?_ (View.addU_le _ _ _)))) hrow (.both (by decide) hwt hwtf) (xe := ⟨15, v0, noText, noText, some ⟨lz, 0, none⟩, 2, 2⟩) ⟨rfl, by decide, rfl, lz, 0, ⟨xop, xv, xtb, xnm, xbase, xlen, xcap⟩, ⟨yop, yv, ytb, ynm, ybase, ylen, ycap⟩, rfl, (hlz.mono (by repeat (first | exact View.le_refl _ | assumption | exact View.addU_le _ _ _ | refine View.le_trans ?_ (by assumption) | refine View.le_trans ?_ (View.addU_le _ _ _)))), (hrep.mono (by repeat (first | exact View.le_refl _ | assumption | exact View.addU_le _ _ _ | refine View.le_trans ?_ (by assumption) | refine View.le_trans ?_ (View.addU_le _ _ _)))).re, (hrepf.mono (by repeat (first | exact View.le_refl _ | assumption | exact View.addU_le _ _ _ | refine View.le_trans ?_ (by assumption) | refine View.le_trans ?_ (View.addU_le _ _ _)))).re⟩ (hlw.mono (by repeat (first | exact View.le_refl _ | assumption | exact View.addU_le _ _ _ | refine View.le_trans ?_ (by assumption) | refine View.le_trans ?_ (View.addU_le _ _ _))))
      refine CallN.pure (select1_spec ⟨6, txt [116], noText, (none, 0, 0), (none, 0, 0), (none, 0, 0), (none, 0, 0), noText, (none, 0, 0), (some ⟨lw, 0, none⟩, 1, 1), (none, 0, 0), false, (none, 0, 0)⟩ ⟨txt [116], p, colsT, 3, some ⟨q, 0, none⟩, 1, 1⟩ ⟨noText, 0, [], 0, none, 0, 0⟩ _ rfl
        rows rb none rc 0 0 hold _ noText_list rfl rfl (hlie.mono (by repeat (first | exact View.le_refl _ | assumption | exact View.addU_le _ _ _ | refine View.le_trans ?_ (by assumption) | refine View.le_trans ?_ (View.addU_le _ _ _)))) (hrows.mono (by repeat (first | exact View.le_refl _ | assumption | exact View.addU_le _ _ _ | refine View.le_trans ?_ (by assumption) | refine View.le_trans ?_ (View.addU_le _ _ _)))) (by omega) (fun r hr => by have : r.length = 3 := (hrowc r hr).len; omega) hold_spec) fun v V11 _ hV11 ⟨gx, hv, hok, hbad⟩ => ?_
      by_cases h4 : er = 0
      · have hw := hw h4
        have hw : HW hold rows ([] : List (List Val)) (rows.drop i) := hw
        rw [List.drop_eq_nil_of_le (by omega)] at hw
        rw [step_end hw] at hv hok
        obtain ⟨gb, gc, hgx, hgp, hgr⟩ := hok rfl
        subst hgx
        subst hv
        conv => whnf
        refine br_f (by simpa using h4) ?_
        conv => whnf
        repeat' first
          | (refine br_t rfl ?_; conv => whnf)
          | (refine br_f rfl ?_; conv => whnf)
          | (refine IdxN.lit rfl rfl ?_; conv => whnf)
          | (intro _; conv => whnf)
        have hlo : (([] : List (List Val))).length ≤ 9223372036854775807 := by omega
        refine CallN.pure (samerows_spec ([] : List (List Val)) gb none gc 0 _ (hgr.mono (by repeat (first | exact View.le_refl _ | assumption | exact View.addU_le _ _ _ | refine View.le_trans ?_ (by assumption) | refine View.le_trans ?_ (View.addU_le _ _ _)))) (RowsAt.of_cells (hca.mono (by repeat (first | exact View.le_refl _ | assumption | exact View.addU_le _ _ _ | refine View.le_trans ?_ (by assumption) | refine View.le_trans ?_ (View.addU_le _ _ _)))) (hcl.mono (by repeat (first | exact View.le_refl _ | assumption | exact View.addU_le _ _ _ | refine View.le_trans ?_ (by assumption) | refine View.le_trans ?_ (View.addU_le _ _ _)))) hlo)) fun v V12 _ hV12 hv => ?_
        subst hv
        conv => whnf
        repeat' first
          | (refine br_t rfl ?_; conv => whnf)
          | (refine br_f rfl ?_; conv => whnf)
          | (refine IdxN.lit rfl rfl ?_; conv => whnf)
          | (intro _; conv => whnf)
        exact ret_pure rfl
      · have hwe := hwe h4
        rw [hwe] at hv hok hbad
        have hgx := hbad h4
        subst hgx
        subst hv
        conv => whnf
        refine br_t (by simpa using h4) ?_
        conv => whnf
        repeat' first
          | (refine br_t rfl ?_; conv => whnf)
          | (refine br_f rfl ?_; conv => whnf)
          | (refine IdxN.lit rfl rfl ?_; conv => whnf)
          | (intro _; conv => whnf)
        refine br_t (by simp) ?_
        conv => whnf
        repeat' first
          | (refine br_t rfl ?_; conv => whnf)
          | (refine br_f rfl ?_; conv => whnf)
          | (refine IdxN.lit rfl rfl ?_; conv => whnf)
          | (intro _; conv => whnf)
        exact ret_pure rfl
  · cases dd
    · conv => whnf
      apply br <;> intro h3 <;> conv => whnf
      · have hi0 : (i : Int) < rows.length := of_decide_eq_true h3
        have hi1 : i < rows.length := by omega
        repeat' first
          | (refine br_t rfl ?_; conv => whnf)
          | (refine br_f rfl ?_; conv => whnf)
          | (refine IdxN.lit rfl rfl ?_; conv => whnf)
          | (intro _; conv => whnf)
        apply br <;> intro h4 <;> conv => whnf
        · have h4 : er = 0 := by simpa using h4
          have hw := hw h4
          obtain ⟨r, hr1⟩ : ∃ r, rows[i]? = some r := ⟨_, List.getElem?_eq_getElem hi1⟩
          have hdrop : rows.drop i = r :: rows.drop (i + 1) := by
            rw [List.drop_eq_getElem_cons hi1]
            have e1 : rows[i] = r := by rw [List.getElem?_eq_getElem hi1] at hr1; exact Option.some.inj hr1
            rw [e1]
          have hw : HW hold rows (r0 :: out1) (rows.drop i) := hw
          rw [hdrop] at hw
          have hor : hold r = (if (holdsX (evR r e)).2 ≠ 0 then (false, (holdsX (evR r e)).2) else if (holdsX (evR r e)).1 then (true, 0) else holdsX (evR r f)) := by rw [← hwx]; exact or_hold r e f
          have hwi := wrap_nat (i := i) (by omega)
          obtain ⟨x, y, z, hxyz, hrT⟩ := rowC_T (hrowc r (List.mem_of_getElem? hr1))
          obtain ⟨p9, off, c, hb9, hcell, hrow⟩ := hrows.at hr1
          obtain ⟨rbase, rcap, hrv, _, hrva⟩ := hrow
          obtain ⟨d9, dof, hb10, hrow9⟩ := hrva.has (by rw [hxyz]; simp)
          subst hb9; subst hrv; subst hb10
          refine IdxN.of (by omega) (by omega) ?_
          conv => whnf
          refine LoadN.of (hcell.mono (by repeat (first | exact View.le_refl _ | assumption | exact View.addU_le _ _ _ | refine View.le_trans ?_ (by assumption) | refine View.le_trans ?_ (View.addU_le _ _ _)))) 0 (by show off + i * 1 = off + i + 0; omega) rfl ?_
          conv => whnf
          repeat' first
            | (refine br_t rfl ?_; conv => whnf)
            | (refine br_f rfl ?_; conv => whnf)
            | (refine IdxN.lit rfl rfl ?_; conv => whnf)
            | (intro _; conv => whnf)
          rename_i l1 hl1
          subst hxyz
          refine CallN.pure (rholds_spec _ _ l1 0 1 ⟨xop, xv, xtb, xnm, xbase, xlen, xcap⟩ (evR [x, y, z] e) _ (by exact hl1.has) (fun V2 hV2 => ref_T x y z hrT a ao _ d9 dof _ _ (c1.mono (by repeat (first | exact View.le_refl _ | assumption | exact View.addU_le _ _ _ | refine View.le_trans ?_ (by assumption) | refine View.le_trans ?_ (View.addU_le _ _ _)))) (hrow9.mono (by repeat (first | exact View.le_refl _ | assumption | exact View.addU_le _ _ _ | refine View.le_trans ?_ (by assumption) | refine View.le_trans ?_ (View.addU_le _ _ _)))) hwt (xe := ⟨xop, xv, xtb, xnm, xbase, xlen, xcap⟩) (hrep.mono (by repeat (first | exact View.le_refl _ | assumption | exact View.addU_le _ _ _ | refine View.le_trans ?_ (by assumption) | refine View.le_trans ?_ (View.addU_le _ _ _)))).re)) fun v V9 _ hV9 hv => ?_
          subst hv
          refine Prot.refl ?_
          conv => whnf
          repeat' first
            | (refine br_t rfl ?_; conv => whnf)
            | (refine br_f rfl ?_; conv => whnf)
            | (refine IdxN.lit rfl rfl ?_; conv => whnf)
            | (intro _; conv => whnf)
          refine IdxN.of (by omega) (by omega) ?_
          conv => whnf
          refine LoadN.of (hcell.mono (by repeat (first | exact View.le_refl _ | assumption | exact View.addU_le _ _ _ | refine View.le_trans ?_ (by assumption) | refine View.le_trans ?_ (View.addU_le _ _ _)))) 0 (by show off + i * 1 = off + i + 0; omega) rfl ?_
          conv => whnf
          repeat' first
            | (refine br_t rfl ?_; conv => whnf)
            | (refine br_f rfl ?_; conv => whnf)
            | (refine IdxN.lit rfl rfl ?_; conv => whnf)
            | (intro _; conv => whnf)
          rename_i l2 hl2
          refine CallN.pure (rholds_spec _ _ l2 0 1 ⟨yop, yv, ytb, ynm, ybase, ylen, ycap⟩ (evR [x, y, z] f) _ (by exact hl2.has) (fun V2 hV2 => ref_T x y z hrT a ao _ d9 dof _ _ (c1.mono (by repeat (first | exact View.le_refl _ | assumption | exact View.addU_le _ _ _ | refine View.le_trans ?_ (by assumption) | refine View.le_trans ?_ (View.addU_le _ _ _)))) (hrow9.mono (by repeat (first | exact View.le_refl _ | assumption | exact View.addU_le _ _ _ | refine View.le_trans ?_ (by assumption) | refine View.le_trans ?_ (View.addU_le _ _ _)))) hwtf (xe := ⟨yop, yv, ytb, ynm, ybase, ylen, ycap⟩) (hrepf.mono (by repeat (first | exact View.le_refl _ | assumption | exact View.addU_le _ _ _ | refine View.le_trans ?_ (by assumption) | refine View.le_trans ?_ (View.addU_le _ _ _)))).re)) fun v V10 _ hV10 hv => ?_
          subst hv
          refine Prot.refl ?_
          conv => whnf
          repeat' first
            | (refine br_t rfl ?_; conv => whnf)
            | (refine br_f rfl ?_; conv => whnf)
            | (refine IdxN.lit rfl rfl ?_; conv => whnf)
            | (intro _; conv => whnf)
          apply br <;> intro g4 <;> conv => whnf
          · have g4 : (holdsX (evR [x, y, z] e)).2 ≠ 0 := by simpa using g4
            rw [if_pos g4] at hor
            refine ⟨j - 1, (i + 1, base, cp, (r0 :: out1), cells, (holdsX (evR [x, y, z] e)).2, false), by omega, ?_, ?_, ?_⟩
            · repeat' (first | exact sees_nil | refine sees_cons rfl rfl rfl ?_ | refine sees_cons rfl rfl (by rw [← hwi]; rfl) ?_)
            · repeat' (first | exact keeps_nil | refine keeps_cons rfl ?_ | refine keeps_free ?_)
            refine ⟨View.le_trans hV (by repeat (first | exact View.le_refl _ | assumption | exact View.addU_le _ _ _ | refine View.le_trans ?_ (by assumption) | refine View.le_trans ?_ (View.addU_le _ _ _))), hi1, by show _ - (i + 1) = _; omega, by show ((r0 :: out1)).length ≤ i + 1; omega, hnil, hca.mono (by repeat (first | exact View.le_refl _ | assumption | exact View.addU_le _ _ _ | refine View.le_trans ?_ (by assumption) | refine View.le_trans ?_ (View.addU_le _ _ _))), hcl.mono (by repeat (first | exact View.le_refl _ | assumption | exact View.addU_le _ _ _ | refine View.le_trans ?_ (by assumption) | refine View.le_trans ?_ (View.addU_le _ _ _))), fun h => absurd h g4, fun _ => ?_⟩
            rw [step_err hw (by rw [hor]; exact g4), hor]
          · have g4 : (holdsX (evR [x, y, z] e)).2 = 0 := by simpa using g4
            rw [if_neg (fun h => h g4)] at hor
            apply br <;> intro g5 <;> conv => whnf
            · rw [if_pos g5] at hor
              refine IdxN.of (by omega) (by omega) ?_
              conv => whnf
              refine LoadN.of (hcell.mono (by repeat (first | exact View.le_refl _ | assumption | exact View.addU_le _ _ _ | refine View.le_trans ?_ (by assumption) | refine View.le_trans ?_ (View.addU_le _ _ _)))) 0 (by show off + i * 1 = off + i + 0; omega) rfl ?_
              conv => whnf
              intro ln Vn hVn hln
              conv => whnf
              refine ⟨⟨121, _, rfl, ?_⟩⟩
              refine AppN.to ((r0 :: out1) ++ [[x, y, z]]).length (by simp) cells [.slice (some ⟨d9, dof, none⟩) [x, y, z].length rcap] (hcl.mono (by repeat (first | exact View.le_refl _ | assumption | exact View.addU_le _ _ _ | refine View.le_trans ?_ (by assumption) | refine View.le_trans ?_ (View.addU_le _ _ _)))) (by rw [hca.len]; exact (Nat.mul_one _).symm) hln rfl rfl (by simp only [List.length_append, List.length_cons, List.length_nil] at hl ⊢; omega) (by decide) fun base' cap' Vm hVm hcm => ?_
              conv => whnf
              refine ⟨j - 1, (i + 1, base', cap', (r0 :: out1) ++ [[x, y, z]], cells ++ [.slice (some ⟨d9, dof, none⟩) [x, y, z].length rcap], er, true), by omega, ?_, ?_, ?_⟩
              · repeat' (first | exact sees_nil | refine sees_cons rfl rfl rfl ?_ | refine sees_cons rfl rfl (by rw [← hwi]; rfl) ?_)
              · repeat' (first | exact keeps_nil | refine keeps_cons rfl ?_ | refine keeps_free ?_)
              · exact ⟨View.le_trans hV (by repeat (first | exact View.le_refl _ | assumption | exact View.addU_le _ _ _ | refine View.le_trans ?_ (by assumption) | refine View.le_trans ?_ (View.addU_le _ _ _))), hi1, by show _ - (i + 1) = _; omega, by show ((r0 :: out1) ++ [[x, y, z]]).length ≤ i + 1; simp only [List.length_append, List.length_cons, List.length_nil] at hl ⊢; omega, fun h => by simp at h, (hca.mono (by repeat (first | exact View.le_refl _ | assumption | exact View.addU_le _ _ _ | refine View.le_trans ?_ (by assumption) | refine View.le_trans ?_ (View.addU_le _ _ _)))).snoc ⟨_, _, rfl, .inr (.inr ⟨_, _, rfl⟩), hrva.mono (by repeat (first | exact View.le_refl _ | assumption | exact View.addU_le _ _ _ | refine View.le_trans ?_ (by assumption) | refine View.le_trans ?_ (View.addU_le _ _ _)))⟩, hcm, fun _ => step_in hw hor, fun h => absurd h4 h⟩
            · rw [if_neg (by rw [g5]; simp)] at hor
              apply br <;> intro g6 <;> conv => whnf
              · have g6 : (holdsX (evR [x, y, z] f)).2 ≠ 0 := by simpa using g6
                refine ⟨j - 1, (i + 1, base, cp, (r0 :: out1), cells, (holdsX (evR [x, y, z] f)).2, false), by omega, ?_, ?_, ?_⟩
                · repeat' (first | exact sees_nil | refine sees_cons rfl rfl rfl ?_ | refine sees_cons rfl rfl (by rw [← hwi]; rfl) ?_)
                · repeat' (first | exact keeps_nil | refine keeps_cons rfl ?_ | refine keeps_free ?_)
                refine ⟨View.le_trans hV (by repeat (first | exact View.le_refl _ | assumption | exact View.addU_le _ _ _ | refine View.le_trans ?_ (by assumption) | refine View.le_trans ?_ (View.addU_le _ _ _))), hi1, by show _ - (i + 1) = _; omega, by show ((r0 :: out1)).length ≤ i + 1; omega, hnil, hca.mono (by repeat (first | exact View.le_refl _ | assumption | exact View.addU_le _ _ _ | refine View.le_trans ?_ (by assumption) | refine View.le_trans ?_ (View.addU_le _ _ _))), hcl.mono (by repeat (first | exact View.le_refl _ | assumption | exact View.addU_le _ _ _ | refine View.le_trans ?_ (by assumption) | refine View.le_trans ?_ (View.addU_le _ _ _))), fun h => absurd h g6, fun _ => ?_⟩
                rw [step_err hw (by rw [hor]; exact g6), hor]
              · have g6 : (holdsX (evR [x, y, z] f)).2 = 0 := by simpa using g6
                apply br <;> intro g7 <;> conv => whnf
                · have hor : hold [x, y, z] = (true, 0) := by rw [hor, ← g6, ← g7]
                  refine IdxN.of (by omega) (by omega) ?_
                  conv => whnf
                  refine LoadN.of (hcell.mono (by repeat (first | exact View.le_refl _ | assumption | exact View.addU_le _ _ _ | refine View.le_trans ?_ (by assumption) | refine View.le_trans ?_ (View.addU_le _ _ _)))) 0 (by show off + i * 1 = off + i + 0; omega) rfl ?_
                  conv => whnf
                  intro ln Vn hVn hln
                  conv => whnf
                  refine ⟨⟨121, _, rfl, ?_⟩⟩
                  refine AppN.to ((r0 :: out1) ++ [[x, y, z]]).length (by simp) cells [.slice (some ⟨d9, dof, none⟩) [x, y, z].length rcap] (hcl.mono (by repeat (first | exact View.le_refl _ | assumption | exact View.addU_le _ _ _ | refine View.le_trans ?_ (by assumption) | refine View.le_trans ?_ (View.addU_le _ _ _)))) (by rw [hca.len]; exact (Nat.mul_one _).symm) hln rfl rfl (by simp only [List.length_append, List.length_cons, List.length_nil] at hl ⊢; omega) (by decide) fun base' cap' Vm hVm hcm => ?_
                  conv => whnf
                  refine ⟨j - 1, (i + 1, base', cap', (r0 :: out1) ++ [[x, y, z]], cells ++ [.slice (some ⟨d9, dof, none⟩) [x, y, z].length rcap], er, false), by omega, ?_, ?_, ?_⟩
                  · repeat' (first | exact sees_nil | refine sees_cons rfl rfl rfl ?_ | refine sees_cons rfl rfl (by rw [← hwi]; rfl) ?_)
                  · repeat' (first | exact keeps_nil | refine keeps_cons rfl ?_ | refine keeps_free ?_)
                  · exact ⟨View.le_trans hV (by repeat (first | exact View.le_refl _ | assumption | exact View.addU_le _ _ _ | refine View.le_trans ?_ (by assumption) | refine View.le_trans ?_ (View.addU_le _ _ _))), hi1, by show _ - (i + 1) = _; omega, by show ((r0 :: out1) ++ [[x, y, z]]).length ≤ i + 1; simp only [List.length_append, List.length_cons, List.length_nil] at hl ⊢; omega, fun h => by simp at h, (hca.mono (by repeat (first | exact View.le_refl _ | assumption | exact View.addU_le _ _ _ | refine View.le_trans ?_ (by assumption) | refine View.le_trans ?_ (View.addU_le _ _ _)))).snoc ⟨_, _, rfl, .inr (.inr ⟨_, _, rfl⟩), hrva.mono (by repeat (first | exact View.le_refl _ | assumption | exact View.addU_le _ _ _ | refine View.le_trans ?_ (by assumption) | refine View.le_trans ?_ (View.addU_le _ _ _)))⟩, hcm, fun _ => step_in hw hor, fun h => absurd h4 h⟩
                · have hor : hold [x, y, z] = (false, 0) := by rw [hor, ← g6, ← g7]
                  refine ⟨j - 1, (i + 1, base, cp, (r0 :: out1), cells, er, false), by omega, ?_, ?_, ?_⟩
                  · repeat' (first | exact sees_nil | refine sees_cons rfl rfl rfl ?_ | refine sees_cons rfl rfl (by rw [← hwi]; rfl) ?_)
                  · repeat' (first | exact keeps_nil | refine keeps_cons rfl ?_ | refine keeps_free ?_)
                  exact ⟨View.le_trans hV (by repeat (first | exact View.le_refl _ | assumption | exact View.addU_le _ _ _ | refine View.le_trans ?_ (by assumption) | refine View.le_trans ?_ (View.addU_le _ _ _))), hi1, by show _ - (i + 1) = _; omega, by show ((r0 :: out1)).length ≤ i + 1; omega, hnil, hca.mono (by repeat (first | exact View.le_refl _ | assumption | exact View.addU_le _ _ _ | refine View.le_trans ?_ (by assumption) | refine View.le_trans ?_ (View.addU_le _ _ _))), hcl.mono (by repeat (first | exact View.le_refl _ | assumption | exact View.addU_le _ _ _ | refine View.le_trans ?_ (by assumption) | refine View.le_trans ?_ (View.addU_le _ _ _))), fun _ => step_out hw hor, fun h => absurd h4 h⟩
        · have h4 : er ≠ 0 := by simpa using h4
          repeat' first
            | (refine br_t rfl ?_; conv => whnf)
            | (refine br_f rfl ?_; conv => whnf)
            | (refine IdxN.lit rfl rfl ?_; conv => whnf)
            | (intro _; conv => whnf)
          rename_i lw Vw hVw hlw
          have hlw : Vw.has lw 0 (xcells ⟨15, v0, noText, noText, some ⟨lz, 0, none⟩, 2, 2⟩) := hlw
          have hold_spec : ∀ cb cc, ∀ V1, Vw.le V1 → V1.cells (.slice cb (itemsOf ⟨txt [116], p, colsT, 3, some ⟨q, 0, none⟩, 1, 1⟩).length cc) ((itemsOf ⟨txt [116], p, colsT, 3, some ⟨q, 0, none⟩, 1, 1⟩).flatMap icells) → ∀ r ∈ rows, ∀ v V', V1.le V' → RowAt V' r v → PSpec 22 [.slice cb (itemsOf ⟨txt [116], p, colsT, 3, some ⟨q, 0, none⟩, 1, 1⟩).length cc, v, .slice (some ⟨lw, 0, none⟩) 1 1] V' (fun v _ => v = .tuple #[.bool (hold r).1, .int .i64 (hold r).2]) := by
            intro cb cc V4 hV4 hc r hr v V5 hV5 hra
            obtain ⟨x, y, z, hxyz, hrT⟩ := rowC_T (hrowc r hr)
            obtain ⟨p9, o9, hcb, hc9⟩ := cells_some hc (by intro h; cases h)
            obtain ⟨qb, qc, hqv, _, hqva⟩ := hra
            obtain ⟨d9, dof, hqb, hrow⟩ := hqva.has (by rw [hxyz]; simp)
            subst hcb; subst hqv; subst hqb; subst hxyz
            rw [← hwx]
            exact holds_T x y z hrT p9 o9 cc d9 dof qc lw 0 1 V5 (hc9.mono (by repeat (first | exact View.le_refl _ | assumption | exact View.addU_le _ _ _ | refine View.le_trans ?_ (by assumption) | refine View.le_trans ?_ (View.addU_le _ _ _)))) hrow (.both (by decide) hwt hwtf) (xe := ⟨15, v0, noText, noText, some ⟨lz, 0, none⟩, 2, 2⟩) ⟨rfl, by decide, rfl, lz, 0, ⟨xop, xv, xtb, xnm, xbase, xlen, xcap⟩, ⟨yop, yv, ytb, ynm, ybase, ylen, ycap⟩, rfl, (hlz.mono (by repeat (first | exact View.le_refl _ | assumption | exact View.addU_le _ _ _ | refine View.le_trans ?_ (by assumption) | refine View.le_trans ?_ (View.addU_le _ _ _)))), (hrep.mono (by repeat (first | exact View.le_refl _ | assumption | exact View.addU_le _ _ _ | refine View.le_trans ?_ (by assumption) | refine View.le_trans ?_ (View.addU_le _ _ _)))).re, (hrepf.mono (by repeat (first | exact View.le_refl _ | assumption | exact View.addU_le _ _ _ | refine View.le_trans ?_ (by assumption) | refine View.le_trans ?_ (View.addU_le _ _ _)))).re⟩ (hlw.mono (by repeat (first | exact View.le_refl _ | assumption | exact View.addU_le _ _ _ | refine View.le_trans ?_ (by assumption) | refine View.le_trans ?_ (View.addU_le _ _ _))))
          refine CallN.pure (select1_spec ⟨6, txt [116], noText, (none, 0, 0), (none, 0, 0), (none, 0, 0), (none, 0, 0), noText, (none, 0, 0), (some ⟨lw, 0, none⟩, 1, 1), (none, 0, 0), false, (none, 0, 0)⟩ ⟨txt [116], p, colsT, 3, some ⟨q, 0, none⟩, 1, 1⟩ ⟨noText, 0, [], 0, none, 0, 0⟩ _ rfl
            rows rb none rc 0 0 hold _ noText_list rfl rfl (hlie.mono (by repeat (first | exact View.le_refl _ | assumption | exact View.addU_le _ _ _ | refine View.le_trans ?_ (by assumption) | refine View.le_trans ?_ (View.addU_le _ _ _)))) (hrows.mono (by repeat (first | exact View.le_refl _ | assumption | exact View.addU_le _ _ _ | refine View.le_trans ?_ (by assumption) | refine View.le_trans ?_ (View.addU_le _ _ _)))) (by omega) (fun r hr => by have : r.length = 3 := (hrowc r hr).len; omega) hold_spec) fun v V11 _ hV11 ⟨gx, hv, hok, hbad⟩ => ?_
          have hwe := hwe h4
          rw [hwe] at hv hok hbad
          have hgx := hbad h4
          subst hgx
          subst hv
          conv => whnf
          refine br_t (by simpa using h4) ?_
          conv => whnf
          repeat' first
            | (refine br_t rfl ?_; conv => whnf)
            | (refine br_f rfl ?_; conv => whnf)
            | (refine IdxN.lit rfl rfl ?_; conv => whnf)
            | (intro _; conv => whnf)
          refine br_t (by simp) ?_
          conv => whnf
          repeat' first
            | (refine br_t rfl ?_; conv => whnf)
            | (refine br_f rfl ?_; conv => whnf)
            | (refine IdxN.lit rfl rfl ?_; conv => whnf)
            | (intro _; conv => whnf)
          exact ret_pure rfl
      · have hi0 : ¬ (i : Int) < rows.length := of_decide_eq_false h3
        repeat (refine br_f h3 ?_; conv => whnf)
        repeat' first
          | (refine br_t rfl ?_; conv => whnf)
          | (refine br_f rfl ?_; conv => whnf)
          | (refine IdxN.lit rfl rfl ?_; conv => whnf)
          | (intro _; conv => whnf)
        rename_i lw Vw hVw hlw
        have hlw : Vw.has lw 0 (xcells ⟨15, v0, noText, noText, some ⟨lz, 0, none⟩, 2, 2⟩) := hlw
        have hold_spec : ∀ cb cc, ∀ V1, Vw.le V1 → V1.cells (.slice cb (itemsOf ⟨txt [116], p, colsT, 3, some ⟨q, 0, none⟩, 1, 1⟩).length cc) ((itemsOf ⟨txt [116], p, colsT, 3, some ⟨q, 0, none⟩, 1, 1⟩).flatMap icells) → ∀ r ∈ rows, ∀ v V', V1.le V' → RowAt V' r v → PSpec 22 [.slice cb (itemsOf ⟨txt [116], p, colsT, 3, some ⟨q, 0, none⟩, 1, 1⟩).length cc, v, .slice (some ⟨lw, 0, none⟩) 1 1] V' (fun v _ => v = .tuple #[.bool (hold r).1, .int .i64 (hold r).2]) := by
          intro cb cc V4 hV4 hc r hr v V5 hV5 hra
          obtain ⟨x, y, z, hxyz, hrT⟩ := rowC_T (hrowc r hr)
          obtain ⟨p9, o9, hcb, hc9⟩ := cells_some hc (by intro h; cases h)
          obtain ⟨qb, qc, hqv, _, hqva⟩ := hra
          obtain ⟨d9, dof, hqb, hrow⟩ := hqva.has (by rw [hxyz]; simp)
          subst hcb; subst hqv; subst hqb; subst hxyz
          rw [← hwx]
          exact holds_T x y z hrT p9 o9 cc d9 dof qc lw 0 1 V5 (hc9.mono (by repeat (first | exact View.le_refl _ | assumption | exact View.addU_le _ _ _ | refine View.le_trans ?_ (by assumption) | refine View.le_trans ?_ (View.addU_le _ _ _)))) hrow (.both (by decide) hwt hwtf) (xe := ⟨15, v0, noText, noText, some ⟨lz, 0, none⟩, 2, 2⟩) ⟨rfl, by decide, rfl, lz, 0, ⟨xop, xv, xtb, xnm, xbase, xlen, xcap⟩, ⟨yop, yv, ytb, ynm, ybase, ylen, ycap⟩, rfl, (hlz.mono (by repeat (first | exact View.le_refl _ | assumption | exact View.addU_le _ _ _ | refine View.le_trans ?_ (by assumption) | refine View.le_trans ?_ (View.addU_le _ _ _)))), (hrep.mono (by repeat (first | exact View.le_refl _ | assumption | exact View.addU_le _ _ _ | refine View.le_trans ?_ (by assumption) | refine View.le_trans ?_ (View.addU_le _ _ _)))).re, (hrepf.mono (by repeat (first | exact View.le_refl _ | assumption | exact View.addU_le _ _ _ | refine View.le_trans ?_ (by assumption) | refine View.le_trans ?_ (View.addU_le _ _ _)))).re⟩ (hlw.mono (by repeat (first | exact View.le_refl _ | assumption | exact View.addU_le _ _ _ | refine View.le_trans ?_ (by assumption) | refine View.le_trans ?_ (View.addU_le _ _ _))))
        refine CallN.pure (select1_spec ⟨6, txt [116], noText, (none, 0, 0), (none, 0, 0), (none, 0, 0), (none, 0, 0), noText, (none, 0, 0), (some ⟨lw, 0, none⟩, 1, 1), (none, 0, 0), false, (none, 0, 0)⟩ ⟨txt [116], p, colsT, 3, some ⟨q, 0, none⟩, 1, 1⟩ ⟨noText, 0, [], 0, none, 0, 0⟩ _ rfl
          rows rb none rc 0 0 hold _ noText_list rfl rfl (hlie.mono (by repeat (first | exact View.le_refl _ | assumption | exact View.addU_le _ _ _ | refine View.le_trans ?_ (by assumption) | refine View.le_trans ?_ (View.addU_le _ _ _)))) (hrows.mono (by repeat (first | exact View.le_refl _ | assumption | exact View.addU_le _ _ _ | refine View.le_trans ?_ (by assumption) | refine View.le_trans ?_ (View.addU_le _ _ _)))) (by omega) (fun r hr => by have : r.length = 3 := (hrowc r hr).len; omega) hold_spec) fun v V11 _ hV11 ⟨gx, hv, hok, hbad⟩ => ?_
        by_cases h4 : er = 0
        · have hw := hw h4
          have hw : HW hold rows (r0 :: out1) (rows.drop i) := hw
          rw [List.drop_eq_nil_of_le (by omega)] at hw
          rw [step_end hw] at hv hok
          obtain ⟨gb, gc, hgx, hgp, hgr⟩ := hok rfl
          subst hgx
          subst hv
          conv => whnf
          refine br_f (by simpa using h4) ?_
          conv => whnf
          repeat' first
            | (refine br_t rfl ?_; conv => whnf)
            | (refine br_f rfl ?_; conv => whnf)
            | (refine IdxN.lit rfl rfl ?_; conv => whnf)
            | (intro _; conv => whnf)
          have hlo : ((r0 :: out1)).length ≤ 9223372036854775807 := by omega
          refine CallN.pure (samerows_spec (r0 :: out1) gb base gc cp _ (hgr.mono (by repeat (first | exact View.le_refl _ | assumption | exact View.addU_le _ _ _ | refine View.le_trans ?_ (by assumption) | refine View.le_trans ?_ (View.addU_le _ _ _)))) (RowsAt.of_cells (hca.mono (by repeat (first | exact View.le_refl _ | assumption | exact View.addU_le _ _ _ | refine View.le_trans ?_ (by assumption) | refine View.le_trans ?_ (View.addU_le _ _ _)))) (hcl.mono (by repeat (first | exact View.le_refl _ | assumption | exact View.addU_le _ _ _ | refine View.le_trans ?_ (by assumption) | refine View.le_trans ?_ (View.addU_le _ _ _)))) hlo)) fun v V12 _ hV12 hv => ?_
          subst hv
          conv => whnf
          repeat' first
            | (refine br_t rfl ?_; conv => whnf)
            | (refine br_f rfl ?_; conv => whnf)
            | (refine IdxN.lit rfl rfl ?_; conv => whnf)
            | (intro _; conv => whnf)
          exact ret_pure rfl
        · have hwe := hwe h4
          rw [hwe] at hv hok hbad
          have hgx := hbad h4
          subst hgx
          subst hv
          conv => whnf
          refine br_t (by simpa using h4) ?_
          conv => whnf
          repeat' first
            | (refine br_t rfl ?_; conv => whnf)
            | (refine br_f rfl ?_; conv => whnf)
            | (refine IdxN.lit rfl rfl ?_; conv => whnf)
            | (intro _; conv => whnf)
          refine br_t (by simp) ?_
          conv => whnf
          repeat' first
            | (refine br_t rfl ?_; conv => whnf)
            | (refine br_f rfl ?_; conv => whnf)
            | (refine IdxN.lit rfl rfl ?_; conv => whnf)
            | (intro _; conv => whnf)
          exact ret_pure rfl
    · conv => whnf
      apply br <;> intro h3 <;> conv => whnf
      · have hi0 : (i : Int) < rows.length := of_decide_eq_true h3
        have hi1 : i < rows.length := by omega
        repeat' first
          | (refine br_t rfl ?_; conv => whnf)
          | (refine br_f rfl ?_; conv => whnf)
          | (refine IdxN.lit rfl rfl ?_; conv => whnf)
          | (intro _; conv => whnf)
        apply br <;> intro h4 <;> conv => whnf
        · have h4 : er = 0 := by simpa using h4
          have hw := hw h4
          obtain ⟨r, hr1⟩ : ∃ r, rows[i]? = some r := ⟨_, List.getElem?_eq_getElem hi1⟩
          have hdrop : rows.drop i = r :: rows.drop (i + 1) := by
            rw [List.drop_eq_getElem_cons hi1]
            have e1 : rows[i] = r := by rw [List.getElem?_eq_getElem hi1] at hr1; exact Option.some.inj hr1
            rw [e1]
          have hw : HW hold rows (r0 :: out1) (rows.drop i) := hw
          rw [hdrop] at hw
          have hor : hold r = (if (holdsX (evR r e)).2 ≠ 0 then (false, (holdsX (evR r e)).2) else if (holdsX (evR r e)).1 then (true, 0) else holdsX (evR r f)) := by rw [← hwx]; exact or_hold r e f
          have hwi := wrap_nat (i := i) (by omega)
          obtain ⟨x, y, z, hxyz, hrT⟩ := rowC_T (hrowc r (List.mem_of_getElem? hr1))
          obtain ⟨p9, off, c, hb9, hcell, hrow⟩ := hrows.at hr1
          obtain ⟨rbase, rcap, hrv, _, hrva⟩ := hrow
          obtain ⟨d9, dof, hb10, hrow9⟩ := hrva.has (by rw [hxyz]; simp)
          subst hb9; subst hrv; subst hb10
          refine IdxN.of (by omega) (by omega) ?_
          conv => whnf
          refine LoadN.of (hcell.mono (by repeat (first | exact View.le_refl _ | assumption | exact View.addU_le _ _ _ | refine View.le_trans ?_ (by assumption) | refine View.le_trans ?_ (View.addU_le _ _ _)))) 0 (by show off + i * 1 = off + i + 0; omega) rfl ?_
          conv => whnf
          repeat' first
            | (refine br_t rfl ?_; conv => whnf)
            | (refine br_f rfl ?_; conv => whnf)
            | (refine IdxN.lit rfl rfl ?_; conv => whnf)
            | (intro _; conv => whnf)
          rename_i l1 hl1
          subst hxyz
          refine CallN.pure (rholds_spec _ _ l1 0 1 ⟨xop, xv, xtb, xnm, xbase, xlen, xcap⟩ (evR [x, y, z] e) _ (by exact hl1.has) (fun V2 hV2 => ref_T x y z hrT a ao _ d9 dof _ _ (c1.mono (by repeat (first | exact View.le_refl _ | assumption | exact View.addU_le _ _ _ | refine View.le_trans ?_ (by assumption) | refine View.le_trans ?_ (View.addU_le _ _ _)))) (hrow9.mono (by repeat (first | exact View.le_refl _ | assumption | exact View.addU_le _ _ _ | refine View.le_trans ?_ (by assumption) | refine View.le_trans ?_ (View.addU_le _ _ _)))) hwt (xe := ⟨xop, xv, xtb, xnm, xbase, xlen, xcap⟩) (hrep.mono (by repeat (first | exact View.le_refl _ | assumption | exact View.addU_le _ _ _ | refine View.le_trans ?_ (by assumption) | refine View.le_trans ?_ (View.addU_le _ _ _)))).re)) fun v V9 _ hV9 hv => ?_
          subst hv
          refine Prot.refl ?_
          conv => whnf
          repeat' first
            | (refine br_t rfl ?_; conv => whnf)
            | (refine br_f rfl ?_; conv => whnf)
            | (refine IdxN.lit rfl rfl ?_; conv => whnf)
            | (intro _; conv => whnf)
          refine IdxN.of (by omega) (by omega) ?_
          conv => whnf
          refine LoadN.of (hcell.mono (by repeat (first | exact View.le_refl _ | assumption | exact View.addU_le _ _ _ | refine View.le_trans ?_ (by assumption) | refine View.le_trans ?_ (View.addU_le _ _ _)))) 0 (by show off + i * 1 = off + i + 0; omega) rfl ?_
          conv => whnf
          repeat' first
            | (refine br_t rfl ?_; conv => whnf)
            | (refine br_f rfl ?_; conv => whnf)
            | (refine IdxN.lit rfl rfl ?_; conv => whnf)
            | (intro _; conv => whnf)
          rename_i l2 hl2
          refine CallN.pure (rholds_spec _ _ l2 0 1 ⟨yop, yv, ytb, ynm, ybase, ylen, ycap⟩ (evR [x, y, z] f) _ (by exact hl2.has) (fun V2 hV2 => ref_T x y z hrT a ao _ d9 dof _ _ (c1.mono (by repeat (first | exact View.le_refl _ | assumption | exact View.addU_le _ _ _ | refine View.le_trans ?_ (by assumption) | refine View.le_trans ?_ (View.addU_le _ _ _)))) (hrow9.mono (by repeat (first | exact View.le_refl _ | assumption | exact View.addU_le _ _ _ | refine View.le_trans ?_ (by assumption) | refine View.le_trans ?_ (View.addU_le _ _ _)))) hwtf (xe := ⟨yop, yv, ytb, ynm, ybase, ylen, ycap⟩) (hrepf.mono (by repeat (first | exact View.le_refl _ | assumption | exact View.addU_le _ _ _ | refine View.le_trans ?_ (by assumption) | refine View.le_trans ?_ (View.addU_le _ _ _)))).re)) fun v V10 _ hV10 hv => ?_
          subst hv
          refine Prot.refl ?_
          conv => whnf
          repeat' first
            | (refine br_t rfl ?_; conv => whnf)
            | (refine br_f rfl ?_; conv => whnf)
            | (refine IdxN.lit rfl rfl ?_; conv => whnf)
            | (intro _; conv => whnf)
          apply br <;> intro g4 <;> conv => whnf
          · have g4 : (holdsX (evR [x, y, z] e)).2 ≠ 0 := by simpa using g4
            rw [if_pos g4] at hor
            refine ⟨j - 1, (i + 1, base, cp, (r0 :: out1), cells, (holdsX (evR [x, y, z] e)).2, true), by omega, ?_, ?_, ?_⟩
            · repeat' (first | exact sees_nil | refine sees_cons rfl rfl rfl ?_ | refine sees_cons rfl rfl (by rw [← hwi]; rfl) ?_)
            · repeat' (first | exact keeps_nil | refine keeps_cons rfl ?_ | refine keeps_free ?_)
            refine ⟨View.le_trans hV (by repeat (first | exact View.le_refl _ | assumption | exact View.addU_le _ _ _ | refine View.le_trans ?_ (by assumption) | refine View.le_trans ?_ (View.addU_le _ _ _))), hi1, by show _ - (i + 1) = _; omega, by show ((r0 :: out1)).length ≤ i + 1; omega, hnil, hca.mono (by repeat (first | exact View.le_refl _ | assumption | exact View.addU_le _ _ _ | refine View.le_trans ?_ (by assumption) | refine View.le_trans ?_ (View.addU_le _ _ _))), hcl.mono (by repeat (first | exact View.le_refl _ | assumption | exact View.addU_le _ _ _ | refine View.le_trans ?_ (by assumption) | refine View.le_trans ?_ (View.addU_le _ _ _))), fun h => absurd h g4, fun _ => ?_⟩
            rw [step_err hw (by rw [hor]; exact g4), hor]
          · have g4 : (holdsX (evR [x, y, z] e)).2 = 0 := by simpa using g4
            rw [if_neg (fun h => h g4)] at hor
            apply br <;> intro g5 <;> conv => whnf
            · rw [if_pos g5] at hor
              refine IdxN.of (by omega) (by omega) ?_
              conv => whnf
              refine LoadN.of (hcell.mono (by repeat (first | exact View.le_refl _ | assumption | exact View.addU_le _ _ _ | refine View.le_trans ?_ (by assumption) | refine View.le_trans ?_ (View.addU_le _ _ _)))) 0 (by show off + i * 1 = off + i + 0; omega) rfl ?_
              conv => whnf
              intro ln Vn hVn hln
              conv => whnf
              refine ⟨⟨108, _, rfl, ?_⟩⟩
              refine AppN.to ((r0 :: out1) ++ [[x, y, z]]).length (by simp) cells [.slice (some ⟨d9, dof, none⟩) [x, y, z].length rcap] (hcl.mono (by repeat (first | exact View.le_refl _ | assumption | exact View.addU_le _ _ _ | refine View.le_trans ?_ (by assumption) | refine View.le_trans ?_ (View.addU_le _ _ _)))) (by rw [hca.len]; exact (Nat.mul_one _).symm) hln rfl rfl (by simp only [List.length_append, List.length_cons, List.length_nil] at hl ⊢; omega) (by decide) fun base' cap' Vm hVm hcm => ?_
              conv => whnf
              refine ⟨j - 1, (i + 1, base', cap', (r0 :: out1) ++ [[x, y, z]], cells ++ [.slice (some ⟨d9, dof, none⟩) [x, y, z].length rcap], er, true), by omega, ?_, ?_, ?_⟩
              · repeat' (first | exact sees_nil | refine sees_cons rfl rfl rfl ?_ | refine sees_cons rfl rfl (by rw [← hwi]; rfl) ?_)
              · repeat' (first | exact keeps_nil | refine keeps_cons rfl ?_ | refine keeps_free ?_)
              · exact ⟨View.le_trans hV (by repeat (first | exact View.le_refl _ | assumption | exact View.addU_le _ _ _ | refine View.le_trans ?_ (by assumption) | refine View.le_trans ?_ (View.addU_le _ _ _))), hi1, by show _ - (i + 1) = _; omega, by show ((r0 :: out1) ++ [[x, y, z]]).length ≤ i + 1; simp only [List.length_append, List.length_cons, List.length_nil] at hl ⊢; omega, fun h => by simp at h, (hca.mono (by repeat (first | exact View.le_refl _ | assumption | exact View.addU_le _ _ _ | refine View.le_trans ?_ (by assumption) | refine View.le_trans ?_ (View.addU_le _ _ _)))).snoc ⟨_, _, rfl, .inr (.inr ⟨_, _, rfl⟩), hrva.mono (by repeat (first | exact View.le_refl _ | assumption | exact View.addU_le _ _ _ | refine View.le_trans ?_ (by assumption) | refine View.le_trans ?_ (View.addU_le _ _ _)))⟩, hcm, fun _ => step_in hw hor, fun h => absurd h4 h⟩
            · rw [if_neg (by rw [g5]; simp)] at hor
              apply br <;> intro g6 <;> conv => whnf
              · have g6 : (holdsX (evR [x, y, z] f)).2 ≠ 0 := by simpa using g6
                refine ⟨j - 1, (i + 1, base, cp, (r0 :: out1), cells, (holdsX (evR [x, y, z] f)).2, true), by omega, ?_, ?_, ?_⟩
                · repeat' (first | exact sees_nil | refine sees_cons rfl rfl rfl ?_ | refine sees_cons rfl rfl (by rw [← hwi]; rfl) ?_)
                · repeat' (first | exact keeps_nil | refine keeps_cons rfl ?_ | refine keeps_free ?_)
                refine ⟨View.le_trans hV (by repeat (first | exact View.le_refl _ | assumption | exact View.addU_le _ _ _ | refine View.le_trans ?_ (by assumption) | refine View.le_trans ?_ (View.addU_le _ _ _))), hi1, by show _ - (i + 1) = _; omega, by show ((r0 :: out1)).length ≤ i + 1; omega, hnil, hca.mono (by repeat (first | exact View.le_refl _ | assumption | exact View.addU_le _ _ _ | refine View.le_trans ?_ (by assumption) | refine View.le_trans ?_ (View.addU_le _ _ _))), hcl.mono (by repeat (first | exact View.le_refl _ | assumption | exact View.addU_le _ _ _ | refine View.le_trans ?_ (by assumption) | refine View.le_trans ?_ (View.addU_le _ _ _))), fun h => absurd h g6, fun _ => ?_⟩
                rw [step_err hw (by rw [hor]; exact g6), hor]
              · have g6 : (holdsX (evR [x, y, z] f)).2 = 0 := by simpa using g6
                apply br <;> intro g7 <;> conv => whnf
                · have hor : hold [x, y, z] = (true, 0) := by rw [hor, ← g6, ← g7]
                  refine IdxN.of (by omega) (by omega) ?_
                  conv => whnf
                  refine LoadN.of (hcell.mono (by repeat (first | exact View.le_refl _ | assumption | exact View.addU_le _ _ _ | refine View.le_trans ?_ (by assumption) | refine View.le_trans ?_ (View.addU_le _ _ _)))) 0 (by show off + i * 1 = off + i + 0; omega) rfl ?_
                  conv => whnf
                  intro ln Vn hVn hln
                  conv => whnf
                  refine ⟨⟨108, _, rfl, ?_⟩⟩
                  refine AppN.to ((r0 :: out1) ++ [[x, y, z]]).length (by simp) cells [.slice (some ⟨d9, dof, none⟩) [x, y, z].length rcap] (hcl.mono (by repeat (first | exact View.le_refl _ | assumption | exact View.addU_le _ _ _ | refine View.le_trans ?_ (by assumption) | refine View.le_trans ?_ (View.addU_le _ _ _)))) (by rw [hca.len]; exact (Nat.mul_one _).symm) hln rfl rfl (by simp only [List.length_append, List.length_cons, List.length_nil] at hl ⊢; omega) (by decide) fun base' cap' Vm hVm hcm => ?_
                  conv => whnf
                  refine ⟨j - 1, (i + 1, base', cap', (r0 :: out1) ++ [[x, y, z]], cells ++ [.slice (some ⟨d9, dof, none⟩) [x, y, z].length rcap], er, false), by omega, ?_, ?_, ?_⟩
                  · repeat' (first | exact sees_nil | refine sees_cons rfl rfl rfl ?_ | refine sees_cons rfl rfl (by rw [← hwi]; rfl) ?_)
                  · repeat' (first | exact keeps_nil | refine keeps_cons rfl ?_ | refine keeps_free ?_)
                  · exact ⟨View.le_trans hV (by repeat (first | exact View.le_refl _ | assumption | exact View.addU_le _ _ _ | refine View.le_trans ?_ (by assumption) | refine View.le_trans ?_ (View.addU_le _ _ _))), hi1, by show _ - (i + 1) = _; omega, by show ((r0 :: out1) ++ [[x, y, z]]).length ≤ i + 1; simp only [List.length_append, List.length_cons, List.length_nil] at hl ⊢; omega, fun h => by simp at h, (hca.mono (by repeat (first | exact View.le_refl _ | assumption | exact View.addU_le _ _ _ | refine View.le_trans ?_ (by assumption) | refine View.le_trans ?_ (View.addU_le _ _ _)))).snoc ⟨_, _, rfl, .inr (.inr ⟨_, _, rfl⟩), hrva.mono (by repeat (first | exact View.le_refl _ | assumption | exact View.addU_le _ _ _ | refine View.le_trans ?_ (by assumption) | refine View.le_trans ?_ (View.addU_le _ _ _)))⟩, hcm, fun _ => step_in hw hor, fun h => absurd h4 h⟩
                · have hor : hold [x, y, z] = (false, 0) := by rw [hor, ← g6, ← g7]
                  refine ⟨j - 1, (i + 1, base, cp, (r0 :: out1), cells, er, true), by omega, ?_, ?_, ?_⟩
                  · repeat' (first | exact sees_nil | refine sees_cons rfl rfl rfl ?_ | refine sees_cons rfl rfl (by rw [← hwi]; rfl) ?_)
                  · repeat' (first | exact keeps_nil | refine keeps_cons rfl ?_ | refine keeps_free ?_)
                  exact ⟨View.le_trans hV (by repeat (first | exact View.le_refl _ | assumption | exact View.addU_le _ _ _ | refine View.le_trans ?_ (by assumption) | refine View.le_trans ?_ (View.addU_le _ _ _))), hi1, by show _ - (i + 1) = _; omega, by show ((r0 :: out1)).length ≤ i + 1; omega, hnil, hca.mono (by repeat (first | exact View.le_refl _ | assumption | exact View.addU_le _ _ _ | refine View.le_trans ?_ (by assumption) | refine View.le_trans ?_ (View.addU_le _ _ _))), hcl.mono (by repeat (first | exact View.le_refl _ | assumption | exact View.addU_le _ _ _ | refine View.le_trans ?_ (by assumption) | refine View.le_trans ?_ (View.addU_le _ _ _))), fun _ => step_out hw hor, fun h => absurd h4 h⟩
        · have h4 : er ≠ 0 := by simpa using h4
          repeat' first
            | (refine br_t rfl ?_; conv => whnf)
            | (refine br_f rfl ?_; conv => whnf)
            | (refine IdxN.lit rfl rfl ?_; conv => whnf)
            | (intro _; conv => whnf)
          rename_i lw Vw hVw hlw
          have hlw : Vw.has lw 0 (xcells ⟨15, v0, noText, noText, some ⟨lz, 0, none⟩, 2, 2⟩) := hlw
          have hold_spec : ∀ cb cc, ∀ V1, Vw.le V1 → V1.cells (.slice cb (itemsOf ⟨txt [116], p, colsT, 3, some ⟨q, 0, none⟩, 1, 1⟩).length cc) ((itemsOf ⟨txt [116], p, colsT, 3, some ⟨q, 0, none⟩, 1, 1⟩).flatMap icells) → ∀ r ∈ rows, ∀ v V', V1.le V' → RowAt V' r v → PSpec 22 [.slice cb (itemsOf ⟨txt [116], p, colsT, 3, some ⟨q, 0, none⟩, 1, 1⟩).length cc, v, .slice (some ⟨lw, 0, none⟩) 1 1] V' (fun v _ => v = .tuple #[.bool (hold r).1, .int .i64 (hold r).2]) := by
            intro cb cc V4 hV4 hc r hr v V5 hV5 hra
            obtain ⟨x, y, z, hxyz, hrT⟩ := rowC_T (hrowc r hr)
            obtain ⟨p9, o9, hcb, hc9⟩ := cells_some hc (by intro h; cases h)
            obtain ⟨qb, qc, hqv, _, hqva⟩ := hra
            obtain ⟨d9, dof, hqb, hrow⟩ := hqva.has (by rw [hxyz]; simp)
            subst hcb; subst hqv; subst hqb; subst hxyz
            rw [← hwx]
            exact holds_T x y z hrT p9 o9 cc d9 dof qc lw 0 1 V5 (hc9.mono (by repeat (first | exact View.le_refl _ | assumption | exact View.addU_le _ _ _ | refine View.le_trans ?_ (by assumption) | refine View.le_trans ?_ (View.addU_le _ _ _)))) hrow (.both (by decide) hwt hwtf) (xe := ⟨15, v0, noText, noText, some ⟨lz, 0, none⟩, 2, 2⟩) ⟨rfl, by decide, rfl, lz, 0, ⟨xop, xv, xtb, xnm, xbase, xlen, xcap⟩, ⟨yop, yv, ytb, ynm, ybase, ylen, ycap⟩, rfl, (hlz.mono (by repeat (first | exact View.le_refl _ | assumption | exact View.addU_le _ _ _ | refine View.le_trans ?_ (by assumption) | refine View.le_trans ?_ (View.addU_le _ _ _)))), (hrep.mono (by repeat (first | exact View.le_refl _ | assumption | exact View.addU_le _ _ _ | refine View.le_trans ?_ (by assumption) | refine View.le_trans ?_ (View.addU_le _ _ _)))).re, (hrepf.mono (by repeat (first | exact View.le_refl _ | assumption | exact View.addU_le _ _ _ | refine View.le_trans ?_ (by assumption) | refine View.le_trans ?_ (View.addU_le _ _ _)))).re⟩ (hlw.mono (by repeat (first | exact View.le_refl _ | assumption | exact View.addU_le _ _ _ | refine View.le_trans ?_ (by assumption) | refine View.le_trans ?_ (View.addU_le _ _ _))))
          refine CallN.pure (select1_spec ⟨6, txt [116], noText, (none, 0, 0), (none, 0, 0), (none, 0, 0), (none, 0, 0), noText, (none, 0, 0), (some ⟨lw, 0, none⟩, 1, 1), (none, 0, 0), false, (none, 0, 0)⟩ ⟨txt [116], p, colsT, 3, some ⟨q, 0, none⟩, 1, 1⟩ ⟨noText, 0, [], 0, none, 0, 0⟩ _ rfl
            rows rb none rc 0 0 hold _ noText_list rfl rfl (hlie.mono (by repeat (first | exact View.le_refl _ | assumption | exact View.addU_le _ _ _ | refine View.le_trans ?_ (by assumption) | refine View.le_trans ?_ (View.addU_le _ _ _)))) (hrows.mono (by repeat (first | exact View.le_refl _ | assumption | exact View.addU_le _ _ _ | refine View.le_trans ?_ (by assumption) | refine View.le_trans ?_ (View.addU_le _ _ _)))) (by omega) (fun r hr => by have : r.length = 3 := (hrowc r hr).len; omega) hold_spec) fun v V11 _ hV11 ⟨gx, hv, hok, hbad⟩ => ?_
          have hwe := hwe h4
          rw [hwe] at hv hok hbad
          have hgx := hbad h4
          subst hgx
          subst hv
          conv => whnf
          refine br_t (by simpa using h4) ?_
          conv => whnf
          repeat' first
            | (refine br_t rfl ?_; conv => whnf)
            | (refine br_f rfl ?_; conv => whnf)
            | (refine IdxN.lit rfl rfl ?_; conv => whnf)
            | (intro _; conv => whnf)
          refine br_t (by simp) ?_
          conv => whnf
          repeat' first
            | (refine br_t rfl ?_; conv => whnf)
            | (refine br_f rfl ?_; conv => whnf)
            | (refine IdxN.lit rfl rfl ?_; conv => whnf)
            | (intro _; conv => whnf)
          exact ret_pure rfl
      · have hi0 : ¬ (i : Int) < rows.length := of_decide_eq_false h3
        repeat (refine br_f h3 ?_; conv => whnf)
        repeat' first
          | (refine br_t rfl ?_; conv => whnf)
          | (refine br_f rfl ?_; conv => whnf)
          | (refine IdxN.lit rfl rfl ?_; conv => whnf)
          | (intro _; conv => whnf)
        rename_i lw Vw hVw hlw
        have hlw : Vw.has lw 0 (xcells ⟨15, v0, noText, noText, some ⟨lz, 0, none⟩, 2, 2⟩) := hlw
        have hold_spec : ∀ cb cc, ∀ V1, Vw.le V1 → V1.cells (.slice cb (itemsOf ⟨txt [116], p, colsT, 3, some ⟨q, 0, none⟩, 1, 1⟩).length cc) ((itemsOf ⟨txt [116], p, colsT, 3, some ⟨q, 0, none⟩, 1, 1⟩).flatMap icells) → ∀ r ∈ rows, ∀ v V', V1.le V' → RowAt V' r v → PSpec 22 [.slice cb (itemsOf ⟨txt [116], p, colsT, 3, some ⟨q, 0, none⟩, 1, 1⟩).length cc, v, .slice (some ⟨lw, 0, none⟩) 1 1] V' (fun v _ => v = .tuple #[.bool (hold r).1, .int .i64 (hold r).2]) := by
          intro cb cc V4 hV4 hc r hr v V5 hV5 hra
          obtain ⟨x, y, z, hxyz, hrT⟩ := rowC_T (hrowc r hr)
          obtain ⟨p9, o9, hcb, hc9⟩ := cells_some hc (by intro h; cases h)
          obtain ⟨qb, qc, hqv, _, hqva⟩ := hra
          obtain ⟨d9, dof, hqb, hrow⟩ := hqva.has (by rw [hxyz]; simp)
          subst hcb; subst hqv; subst hqb; subst hxyz
          rw [← hwx]
          exact holds_T x y z hrT p9 o9 cc d9 dof qc lw 0 1 V5 (hc9.mono (by repeat (first | exact View.le_refl _ | assumption | exact View.addU_le _ _ _ | refine View.le_trans ?_ (by assumption) | refine View.le_trans ?_ (View.addU_le _ _ _)))) hrow (.both (by decide) hwt hwtf) (xe := ⟨15, v0, noText, noText, some ⟨lz, 0, none⟩, 2, 2⟩) ⟨rfl, by decide, rfl, lz, 0, ⟨xop, xv, xtb, xnm, xbase, xlen, xcap⟩, ⟨yop, yv, ytb, ynm, ybase, ylen, ycap⟩, rfl, (hlz.mono (by repeat (first | exact View.le_refl _ | assumption | exact View.addU_le _ _ _ | refine View.le_trans ?_ (by assumption) | refine View.le_trans ?_ (View.addU_le _ _ _)))), (hrep.mono (by repeat (first | exact View.le_refl _ | assumption | exact View.addU_le _ _ _ | refine View.le_trans ?_ (by assumption) | refine View.le_trans ?_ (View.addU_le _ _ _)))).re, (hrepf.mono (by repeat (first | exact View.le_refl _ | assumption | exact View.addU_le _ _ _ | refine View.le_trans ?_ (by assumption) | refine View.le_trans ?_ (View.addU_le _ _ _)))).re⟩ (hlw.mono (by repeat (first | exact View.le_refl _ | assumption | exact View.addU_le _ _ _ | refine View.le_trans ?_ (by assumption) | refine View.le_trans ?_ (View.addU_le _ _ _))))
        refine CallN.pure (select1_spec ⟨6, txt [116], noText, (none, 0, 0), (none, 0, 0), (none, 0, 0), (none, 0, 0), noText, (none, 0, 0), (some ⟨lw, 0, none⟩, 1, 1), (none, 0, 0), false, (none, 0, 0)⟩ ⟨txt [116], p, colsT, 3, some ⟨q, 0, none⟩, 1, 1⟩ ⟨noText, 0, [], 0, none, 0, 0⟩ _ rfl
          rows rb none rc 0 0 hold _ noText_list rfl rfl (hlie.mono (by repeat (first | exact View.le_refl _ | assumption | exact View.addU_le _ _ _ | refine View.le_trans ?_ (by assumption) | refine View.le_trans ?_ (View.addU_le _ _ _)))) (hrows.mono (by repeat (first | exact View.le_refl _ | assumption | exact View.addU_le _ _ _ | refine View.le_trans ?_ (by assumption) | refine View.le_trans ?_ (View.addU_le _ _ _)))) (by omega) (fun r hr => by have : r.length = 3 := (hrowc r hr).len; omega) hold_spec) fun v V11 _ hV11 ⟨gx, hv, hok, hbad⟩ => ?_
        by_cases h4 : er = 0
        · have hw := hw h4
          have hw : HW hold rows (r0 :: out1) (rows.drop i) := hw
          rw [List.drop_eq_nil_of_le (by omega)] at hw
          rw [step_end hw] at hv hok
          obtain ⟨gb, gc, hgx, hgp, hgr⟩ := hok rfl
          subst hgx
          subst hv
          conv => whnf
          refine br_f (by simpa using h4) ?_
          conv => whnf
          repeat' first
            | (refine br_t rfl ?_; conv => whnf)
            | (refine br_f rfl ?_; conv => whnf)
            | (refine IdxN.lit rfl rfl ?_; conv => whnf)
            | (intro _; conv => whnf)
          have hlo : ((r0 :: out1)).length ≤ 9223372036854775807 := by omega
          refine CallN.pure (samerows_spec (r0 :: out1) gb base gc cp _ (hgr.mono (by repeat (first | exact View.le_refl _ | assumption | exact View.addU_le _ _ _ | refine View.le_trans ?_ (by assumption) | refine View.le_trans ?_ (View.addU_le _ _ _)))) (RowsAt.of_cells (hca.mono (by repeat (first | exact View.le_refl _ | assumption | exact View.addU_le _ _ _ | refine View.le_trans ?_ (by assumption) | refine View.le_trans ?_ (View.addU_le _ _ _)))) (hcl.mono (by repeat (first | exact View.le_refl _ | assumption | exact View.addU_le _ _ _ | refine View.le_trans ?_ (by assumption) | refine View.le_trans ?_ (View.addU_le _ _ _)))) hlo)) fun v V12 _ hV12 hv => ?_
          subst hv
          conv => whnf
          repeat' first
            | (refine br_t rfl ?_; conv => whnf)
            | (refine br_f rfl ?_; conv => whnf)
            | (refine IdxN.lit rfl rfl ?_; conv => whnf)
            | (intro _; conv => whnf)
          exact ret_pure rfl
        · have hwe := hwe h4
          rw [hwe] at hv hok hbad
          have hgx := hbad h4
          subst hgx
          subst hv
          conv => whnf
          refine br_t (by simpa using h4) ?_
          conv => whnf
          repeat' first
            | (refine br_t rfl ?_; conv => whnf)
            | (refine br_f rfl ?_; conv => whnf)
            | (refine IdxN.lit rfl rfl ?_; conv => whnf)
            | (intro _; conv => whnf)
          refine br_t (by simp) ?_
          conv => whnf
          repeat' first
            | (refine br_t rfl ?_; conv => whnf)
            | (refine br_f rfl ?_; conv => whnf)
            | (refine IdxN.lit rfl rfl ?_; conv => whnf)
            | (intro _; conv => whnf)
          exact ret_pure rfl
end Go.Proofs.Ytenpginanhnkbaa
end
