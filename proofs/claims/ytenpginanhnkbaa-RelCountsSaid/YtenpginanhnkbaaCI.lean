/- One part of a proof: an evaluator of the model, shown right, and contracts that it yields. No condition beyond those that each theorem names. -/
import Derived.Test.YtenpginanhnkbaaCH
section
set_option linter.unusedSimpArgs false
set_option linter.unusedVariables false
namespace Go.Proofs.Ytenpginanhnkbaa
open Go.X
set_option maxRecDepth 100000

/-- the rows that count, up to the first error -/
def whereX (hold : List Val → Bool × Int) : List (List Val) → List (List Val) × Int
  | [] => ([], 0)
  | r :: l => if (hold r).2 ≠ 0 then ([], (hold r).2) else ((if (hold r).1 then r :: (whereX hold l).1 else (whereX hold l).1), (whereX hold l).2)
/-- a table of the program's: columns, rows -/
def TableV (V : View) (its : List Item) (rows : List (List Val)) (v : Value) : Prop := ∃ cb cc rb rc, v = .agg #[.slice cb its.length cc, .slice rb rows.length rc] ∧ V.cells (.slice cb its.length cc) (its.flatMap icells) ∧ Plain rb ∧ RowsAt V rows rb
theorem where_spec (its : List Item) (cb : Option Addr) (cc : Nat) (rows : List (List Val)) (rb : Option Addr) (rc : Nat) (wv : Value) (hold : List Val → Bool × Int) (V : View)
    (hc : V.cells (.slice cb its.length cc) (its.flatMap icells)) (hr : RowsAt V rows rb) (hs : rows.length ≤ 1000)
    (hh : ∀ r ∈ rows, ∀ v V', V.le V' → RowAt V' r v → PSpec 22 [.slice cb its.length cc, v, wv] V' (fun v _ => v = .tuple #[.bool (hold r).1, .int .i64 (hold r).2])) :
    PSpec 61 [.agg #[.slice cb its.length cc, .slice rb rows.length rc], wv] V (fun v V' => ∃ t, v = .tuple #[t, .int .i64 (whereX hold rows).2] ∧ (∃ a n c a' n' c', t = .agg #[.slice a n c, .slice a' n' c']) ∧
      ((whereX hold rows).2 = 0 → ∃ rb' rc', t = .agg #[.slice cb its.length cc, .slice rb' (whereX hold rows).1.length rc'] ∧ Plain rb' ∧ RowsAt V' (whereX hold rows).1 rb')) := by
  refine does_of_zfun [] mixed (args := [.v _, .v _]) (ms := []) Try.func61 (by kernel_rfl) rfl ?_
  conv => whnf
  repeat' first
    | (refine br_t rfl ?_; conv => whnf)
    | (refine br_f rfl ?_; conv => whnf)
    | (refine IdxN.lit rfl rfl ?_; conv => whnf)
    | (intro _; conv => whnf)
  rename_i b2 b4 b6
  refine loopz (σ := Nat × Option Addr × Nat × List (List Val) × List Value)
    (fun x => [(1, .v wv), (2, .own 2 0), (4, .own 4 0), (6, .own 6 0), (15, .v (.slice rb rows.length rc)), (16, .v (.int .i64 rows.length)), (17, .v (.int .i64 x.1))])
    (fun x => [(2, .box b2 113 [.slice cb its.length cc, .slice rb rows.length rc]), (4, .box b4 113 [.slice none 0 0, .slice none 0 0]), (6, .box b6 113 [.slice cb its.length cc, .slice x.2.1 x.2.2.2.1.length x.2.2.1]), (40, .row (.slice x.2.1 x.2.2.2.1.length x.2.2.1) 45 1 x.2.2.2.1.length)])
    (fun j x V' => V.le V' ∧ x.1 ≤ rows.length ∧ rows.length - x.1 = j ∧ x.2.2.2.1.length ≤ x.1 ∧ (x.2.2.2.1 = [] → x.2.1 = none ∧ x.2.2.1 = 0) ∧ CellsAt V' x.2.2.2.1 x.2.2.2.2 ∧ V'.cells (.slice x.2.1 x.2.2.2.1.length x.2.2.1) x.2.2.2.2 ∧
      whereX hold rows = (if (whereX hold (rows.drop x.1)).2 = 0 then (x.2.2.2.1 ++ (whereX hold (rows.drop x.1)).1, 0) else ((whereX hold rows).1, (whereX hold (rows.drop x.1)).2)))
    rows.length (0, none, 0, [], []) ?_ ?_ ?_ ?_
  · repeat' (first | exact sees_nil | refine sees_cons rfl rfl rfl ?_)
  · repeat' (first | exact keeps_nil | refine keeps_cons rfl ?_ | refine keeps_free ?_)
  · refine ⟨View.le_refl _, Nat.zero_le _, by simp, Nat.le_refl _, fun _ => ⟨rfl, rfl⟩, CellsAt.nil, rfl, ?_⟩
    simp only [List.drop_zero, List.nil_append]
    split
    · rename_i h0; rw [← h0]
    · rfl
  rintro j ⟨i, base, cp, out, cells⟩ V' ⟨hV, hi, hj, hl, hnil, hca, hcl, hw⟩
  simp only at hi hj hl hnil hca hcl hw
  conv => whnf
  apply br <;> intro h3 <;> conv => whnf
  · have hi0 : (i : Int) < rows.length := of_decide_eq_true h3
    have hi1 : i < rows.length := by omega
    obtain ⟨r, hr1⟩ : ∃ r, rows[i]? = some r := ⟨_, List.getElem?_eq_getElem hi1⟩
    have hdrop : rows.drop i = r :: rows.drop (i + 1) := by
      rw [List.drop_eq_getElem_cons hi1]
      have e1 : rows[i] = r := by rw [List.getElem?_eq_getElem hi1] at hr1; exact Option.some.inj hr1
      rw [e1]
    rw [hdrop, whereX] at hw
    obtain ⟨p, off, c, rfl, hcell, hrow⟩ := hr.at hr1
    obtain ⟨rbase, rcap, hrv⟩ := row_shape hrow
    subst hrv
    have hone : off + i * 1 = off + i := by omega
    refine IdxN.of (by omega) (by omega) ?_
    conv => whnf
    refine LoadN.of (hcell.mono (by repeat (first | exact View.le_refl _ | assumption | exact View.addU_le _ _ _ | refine View.le_trans ?_ (by assumption) | refine View.le_trans ?_ (View.addU_le _ _ _)))) 0 (by show off + i * 1 = off + i + 0; omega) rfl ?_
    conv => whnf
    refine CallN.pure (hh r (List.mem_of_getElem? hr1) (.slice rbase r.length rcap) _ (by repeat (first | exact View.le_refl _ | assumption | exact View.addU_le _ _ _ | refine View.le_trans ?_ (by assumption) | refine View.le_trans ?_ (View.addU_le _ _ _))) (hrow.mono (by repeat (first | exact View.le_refl _ | assumption | exact View.addU_le _ _ _ | refine View.le_trans ?_ (by assumption) | refine View.le_trans ?_ (View.addU_le _ _ _))))) fun v V2 _ hV2 hv => ?_
    subst hv
    conv => whnf
    have hwi := wrap_nat (i := i) (by omega)
    apply br <;> intro h4 <;> conv => whnf
    · have h4 : (hold r).2 ≠ 0 := by simpa using h4
      rw [if_pos h4] at hw
      simp only [if_neg h4] at hw
      have hw2 : (whereX hold rows).2 = (hold r).2 := congrArg Prod.snd hw
      exact ret_pure ⟨_, by rw [hw2]; rfl, ⟨_, _, _, _, _, _, rfl⟩, fun h => absurd (hw2 ▸ h) h4⟩
    · have h4 : (hold r).2 = 0 := by simpa using h4
      rw [if_neg (show ¬ (hold r).2 ≠ 0 from fun h => h h4)] at hw
      apply br <;> intro h5 <;> conv => whnf
      · rw [if_pos h5] at hw
        intro b3 V3 hV3 h6
        conv => whnf
        rcases out with _ | ⟨r0, out1⟩
        · obtain ⟨rfl, rfl⟩ := hnil rfl
          conv => whnf
          have hce : cells = [] := List.eq_nil_of_length_eq_zero (by rw [hca.len]; rfl)
          refine AppN.to (([] : List (List Val)) ++ [r]).length rfl cells [.slice rbase r.length rcap] (by rw [hce]; rfl) (by rw [hce]; rfl) h6 rfl rfl (by simp) (by decide) fun base' cap' V4 hV4 hc4 => ?_
          conv => whnf
          refine ⟨j - 1, (i + 1, base', cap', ([] : List (List Val)) ++ [r], cells ++ [.slice rbase r.length rcap]), by omega, ?_, ?_, ?_⟩
          · repeat' (first | exact sees_nil | refine sees_cons rfl rfl rfl ?_ | refine sees_cons rfl rfl (by rw [← hwi]; rfl) ?_)
          · repeat' (first | exact keeps_nil | refine keeps_cons rfl ?_ | refine keeps_free ?_)
          · refine ⟨View.le_trans hV (by repeat (first | exact View.le_refl _ | assumption | exact View.addU_le _ _ _ | refine View.le_trans ?_ (by assumption) | refine View.le_trans ?_ (View.addU_le _ _ _))), hi1, by show _ - (i + 1) = _; omega, by show (([] : List (List Val)) ++ [r]).length ≤ i + 1; simp only [List.length_append, List.length_cons, List.length_nil] at hl ⊢; omega, fun h => by simp at h, (hca.mono (by repeat (first | exact View.le_refl _ | assumption | exact View.addU_le _ _ _ | refine View.le_trans ?_ (by assumption) | refine View.le_trans ?_ (View.addU_le _ _ _)))).snoc (hrow.mono (by repeat (first | exact View.le_refl _ | assumption | exact View.addU_le _ _ _ | refine View.le_trans ?_ (by assumption) | refine View.le_trans ?_ (View.addU_le _ _ _)))), hc4, ?_⟩
            show _ = if _ then ((([] : List (List Val)) ++ [r]) ++ _, (0 : Int)) else _
            rw [List.append_assoc]; exact hw
        · conv => whnf
          refine ⟨⟨40, _, rfl, ?_⟩⟩
          refine AppN.to ((r0 :: out1) ++ [r]).length (by simp) cells [.slice rbase r.length rcap] (hcl.mono (by repeat (first | exact View.le_refl _ | assumption | exact View.addU_le _ _ _ | refine View.le_trans ?_ (by assumption) | refine View.le_trans ?_ (View.addU_le _ _ _)))) (by rw [hca.len]; exact (Nat.mul_one _).symm) h6 rfl rfl (by simp only [List.length_append, List.length_cons, List.length_nil] at hl ⊢; omega) (by decide) fun base' cap' V4 hV4 hc4 => ?_
          conv => whnf
          refine ⟨j - 1, (i + 1, base', cap', (r0 :: out1) ++ [r], cells ++ [.slice rbase r.length rcap]), by omega, ?_, ?_, ?_⟩
          · repeat' (first | exact sees_nil | refine sees_cons rfl rfl rfl ?_ | refine sees_cons rfl rfl (by rw [← hwi]; rfl) ?_)
          · repeat' (first | exact keeps_nil | refine keeps_cons rfl ?_ | refine keeps_free ?_)
          · refine ⟨View.le_trans hV (by repeat (first | exact View.le_refl _ | assumption | exact View.addU_le _ _ _ | refine View.le_trans ?_ (by assumption) | refine View.le_trans ?_ (View.addU_le _ _ _))), hi1, by show _ - (i + 1) = _; omega, by show ((r0 :: out1) ++ [r]).length ≤ i + 1; simp only [List.length_append, List.length_cons, List.length_nil] at hl ⊢; omega, fun h => by simp at h, (hca.mono (by repeat (first | exact View.le_refl _ | assumption | exact View.addU_le _ _ _ | refine View.le_trans ?_ (by assumption) | refine View.le_trans ?_ (View.addU_le _ _ _)))).snoc (hrow.mono (by repeat (first | exact View.le_refl _ | assumption | exact View.addU_le _ _ _ | refine View.le_trans ?_ (by assumption) | refine View.le_trans ?_ (View.addU_le _ _ _)))), hc4, ?_⟩
            show _ = if _ then (((r0 :: out1) ++ [r]) ++ _, (0 : Int)) else _
            rw [List.append_assoc]; exact hw
      · rw [if_neg (show ¬ (hold r).1 = true from by rw [h5]; simp)] at hw
        refine ⟨j - 1, (i + 1, base, cp, out, cells), by omega, ?_, ?_, ?_⟩
        · repeat' (first | exact sees_nil | refine sees_cons rfl rfl rfl ?_ | refine sees_cons rfl rfl (by rw [← hwi]; rfl) ?_)
        · repeat' (first | exact keeps_nil | refine keeps_cons rfl ?_ | refine keeps_free ?_)
        · exact ⟨View.le_trans hV hV2, hi1, by show _ - (i + 1) = _; omega, by show out.length ≤ i + 1; omega, hnil, hca.mono hV2, hcl.mono hV2, hw⟩
  · have hi0 : ¬ (i : Int) < rows.length := of_decide_eq_false h3
    rw [List.drop_eq_nil_of_le (by omega)] at hw
    have hw : whereX hold rows = (out, 0) := by
      rw [hw]; simp [whereX]
    rw [hw]
    exact ret_pure ⟨_, rfl, ⟨_, _, _, _, _, _, rfl⟩, fun _ => ⟨base, cp, rfl, plain_cells hcl, RowsAt.of_cells hca hcl (by show out.length ≤ _; omega)⟩⟩
end Go.Proofs.Ytenpginanhnkbaa
end

section
set_option linter.unusedSimpArgs false
set_option linter.unusedVariables false
namespace Go.Proofs.Ytenpginanhnkbaa
open Go.X
set_option maxRecDepth 100000

/-- a statement, as its cells: Kind Table Name Cols Tags Values Items Join On Where Order Desc Inner -/
structure StV where
  kind : Int
  tb : ByteArray
  nm : ByteArray
  s3 : Option Addr × Nat × Nat
  s4 : Option Addr × Nat × Nat
  s5 : Option Addr × Nat × Nat
  items : Option Addr × Nat × Nat
  join : ByteArray
  on : Option Addr × Nat × Nat
  wh : Option Addr × Nat × Nat
  order : Option Addr × Nat × Nat
  desc : Bool
  inner : Option Addr × Nat × Nat
def sl (x : Option Addr × Nat × Nat) : Value := .slice x.1 x.2.1 x.2.2
def stv (s : StV) : Value := .agg #[.int .i64 s.kind, .string s.tb, .string s.nm, .slice s.s3.1 s.s3.2.1 s.s3.2.2, .slice s.s4.1 s.s4.2.1 s.s4.2.2, .slice s.s5.1 s.s5.2.1 s.s5.2.2, .slice s.items.1 s.items.2.1 s.items.2.2, .string s.join,
  .slice s.on.1 s.on.2.1 s.on.2.2, .slice s.wh.1 s.wh.2.1 s.wh.2.2, .slice s.order.1 s.order.2.1 s.order.2.2, .bool s.desc, .slice s.inner.1 s.inner.2.1 s.inner.2.2]
/-- a select's rows, of one table -/
theorem rows1_spec (s : StV) (t u : TabV) (u1 : Value) (hu : u1 = .agg #[.string u.nm, .slice none 0 0, .slice none 0 0]) (rows : List (List Val)) (rb ob : Option Addr) (rc on oc : Nat) (V : View) (hjn : s.join.toList = []) (ht : TabOk V t) (hr : RowsAt V rows rb) (hs : rows.length ≤ 1000) (hw : ∀ r ∈ rows, r.length ≤ 1000) :
    PSpec 60 [stv s, tabv t, u1, .slice rb rows.length rc, .slice ob on oc] V (fun v V' => ∃ cb cc rb' rc', v = .tuple #[.agg #[.slice cb (itemsOf t).length cc, .slice rb' rows.length rc'], .int .i64 0] ∧ V'.cells (.slice cb (itemsOf t).length cc) ((itemsOf t).flatMap icells) ∧ Plain rb' ∧ RowsAt V' rows rb') := by
  subst hu
  obtain ⟨skind, stb, snm, s3, s4, s5, sit, sjoin, son, swh, sord, sdesc, sinn⟩ := s
  obtain ⟨tnm, tp, tcols, tcap, tq, tql, tqc⟩ := t
  simp only at hjn
  refine does_of_zfun [(5, [(0, []), (1, []), (2, []), (3, []), (4, []), (5, []), (6, []), (7, [])])] mixed (args := [.v _, .v _, .v _, .v _, .v _]) (ms := []) Try.func60 (by kernel_rfl) rfl ?_
  conv => whnf
  repeat' first
    | (refine br_t rfl ?_; conv => whnf)
    | (refine br_f rfl ?_; conv => whnf)
    | (refine IdxN.lit rfl rfl ?_; conv => whnf)
    | (intro _; conv => whnf)
  rename_i b5 b6 b7 b10 bt V1 hV1 h1
  refine CallN.pure (named_spec [⟨tnm, tp, tcols, tcap, tq, tql, tqc⟩] bt 1 1 _ h1 (fun t' ht' => by rw [List.mem_singleton.1 ht']; exact ht.mono (by repeat (first | exact View.le_refl _ | assumption | exact View.addU_le _ _ _ | refine View.le_trans ?_ (by assumption) | refine View.le_trans ?_ (View.addU_le _ _ _)))) rfl (by show 1 ≤ 4; decide)) fun v V2 _ hV2 ⟨cb, cc, hv, hc⟩ => ?_
  simp only [List.flatMap_cons, List.flatMap_nil, List.append_nil] at hv hc
  subst hv
  conv => whnf
  repeat' first
    | (refine br_t rfl ?_; conv => whnf)
    | (refine br_f rfl ?_; conv => whnf)
    | (refine IdxN.lit rfl rfl ?_; conv => whnf)
    | (intro _; conv => whnf)
  rename_i b12
  refine loopz (σ := Nat × Option Addr × Nat × List (List Val) × List Value)
    (fun x => [(5, .own 5 0), (10, .own 10 0), (12, .own 12 0), (19, .v (.slice rb rows.length rc)), (20, .v (.int .i64 rows.length)), (21, .v (.int .i64 x.1))])
    (fun x => (5, .box b5 70 [.int .i64 skind, .string stb, .string snm, .slice s3.1 s3.2.1 s3.2.2, .slice s4.1 s4.2.1 s4.2.2, .slice s5.1 s5.2.1 s5.2.2, .slice sit.1 sit.2.1 sit.2.2, .string sjoin, .slice son.1 son.2.1 son.2.2, .slice swh.1 swh.2.1 swh.2.2, .slice sord.1 sord.2.1 sord.2.2, .bool sdesc, .slice sinn.1 sinn.2.1 sinn.2.2]) ::
      (10, .box b10 113 [.slice none 0 0, .slice none 0 0]) :: (12, .box b12 113 [.slice cb (itemsOf ⟨tnm, tp, tcols, tcap, tq, tql, tqc⟩).length cc, .slice x.2.1 x.2.2.2.1.length x.2.2.1]) ::
      (match x.2.2.2.1 with | [] => [] | _ :: _ => [(30, .row (.slice x.2.1 x.2.2.2.1.length x.2.2.1) 45 1 x.2.2.2.1.length)]))
    (fun j x V' => V2.le V' ∧ x.1 ≤ rows.length ∧ rows.length - x.1 = j ∧ x.2.2.2.1 = rows.take x.1 ∧ (x.2.2.2.1 = [] → x.2.1 = none ∧ x.2.2.1 = 0) ∧ CellsAt V' x.2.2.2.1 x.2.2.2.2 ∧ V'.cells (.slice x.2.1 x.2.2.2.1.length x.2.2.1) x.2.2.2.2)
    rows.length (0, none, 0, [], []) ?_ ?_ ?_ ?_
  · repeat' (first | exact sees_nil | refine sees_cons rfl rfl rfl ?_)
  · repeat' (first | exact keeps_nil | refine keeps_cons rfl ?_ | refine keeps_free ?_)
  · exact ⟨View.le_refl _, Nat.zero_le _, by simp, rfl, fun _ => ⟨rfl, rfl⟩, CellsAt.nil, rfl⟩
  rintro j ⟨i, base, cp, out, cells⟩ V' ⟨hV, hi, hj, hout, hnil, hca, hcl⟩
  simp only at hi hj hout hnil hca hcl
  rcases out with _ | ⟨r0, out1⟩
  · obtain ⟨hb0, hcp0⟩ := hnil rfl
    subst hb0; subst hcp0
    conv => whnf
    apply br <;> intro h3 <;> conv => whnf
    · have hi0 : (i : Int) < rows.length := of_decide_eq_true h3
      have hi1 : i < rows.length := by omega
      obtain ⟨r, hr1⟩ : ∃ r, rows[i]? = some r := ⟨_, List.getElem?_eq_getElem hi1⟩
      obtain ⟨p, off, c, rfl, hcell, hrow⟩ := hr.at hr1
      obtain ⟨rbase, rcap, hrv, hrp, hrva⟩ := hrow
      subst hrv
      refine IdxN.of (by omega) (by omega) ?_
      conv => whnf
      refine LoadN.of (hcell.mono (by repeat (first | exact View.le_refl _ | assumption | exact View.addU_le _ _ _ | refine View.le_trans ?_ (by assumption) | refine View.le_trans ?_ (View.addU_le _ _ _)))) 0 (by show off + i * 1 = off + i + 0; omega) rfl ?_
      conv => whnf
      refine CallN.pure (clone_spec r rbase rcap _ hrp (hrva.mono (by repeat (first | exact View.le_refl _ | assumption | exact View.addU_le _ _ _ | refine View.le_trans ?_ (by assumption) | refine View.le_trans ?_ (View.addU_le _ _ _)))) (hw r (List.mem_of_getElem? hr1))) fun v V3 _ hV3 hv => ?_
      obtain ⟨qb, qc, hqv⟩ := row_shape hv
      subst hqv
      refine Prot.refl ?_
      conv => whnf
      repeat' first
        | (refine br_t rfl ?_; conv => whnf)
        | (refine br_f rfl ?_; conv => whnf)
        | (refine IdxN.lit rfl rfl ?_; conv => whnf)
        | (intro _; conv => whnf)
      rename_i lb lk
      skip
      refine AppN.to (([] : List (List Val)) ++ [r]).length (by simp) cells [.slice qb r.length qc] (hcl.mono (by repeat (first | exact View.le_refl _ | assumption | exact View.addU_le _ _ _ | refine View.le_trans ?_ (by assumption) | refine View.le_trans ?_ (View.addU_le _ _ _)))) (by rw [hca.len]; exact (Nat.mul_one _).symm) lk.has rfl rfl (by simp only [List.length_append, List.length_cons, List.length_nil]; have := congrArg List.length hout; rw [List.length_take] at this; simp only [List.length_cons, List.length_nil] at this; omega) (by decide) fun base' cap' V4 hV4 hc4 => ?_
      conv => whnf
      have hwi := wrap_nat (i := i) (by omega)
      refine ⟨j - 1, (i + 1, base', cap', ([] : List (List Val)) ++ [r], cells ++ [.slice qb r.length qc]), by omega, ?_, ?_, ?_⟩
      · repeat' (first | exact sees_nil | refine sees_cons rfl rfl rfl ?_ | refine sees_cons rfl rfl (by rw [← hwi]; rfl) ?_)
      · repeat' (first | exact keeps_nil | refine keeps_cons rfl ?_ | refine keeps_free ?_)
      · refine ⟨View.le_trans hV (by repeat (first | exact View.le_refl _ | assumption | exact View.addU_le _ _ _ | refine View.le_trans ?_ (by assumption) | refine View.le_trans ?_ (View.addU_le _ _ _))), hi1, by show _ - (i + 1) = _; omega, ?_, fun h => by simp at h, (hca.mono (by repeat (first | exact View.le_refl _ | assumption | exact View.addU_le _ _ _ | refine View.le_trans ?_ (by assumption) | refine View.le_trans ?_ (View.addU_le _ _ _)))).snoc (hv.mono (by repeat (first | exact View.le_refl _ | assumption | exact View.addU_le _ _ _ | refine View.le_trans ?_ (by assumption) | refine View.le_trans ?_ (View.addU_le _ _ _)))), hc4⟩
        show ([] : List (List Val)) ++ [r] = _
        rw [List.take_add_one, hr1, ← hout]; rfl
    · have hi0 : ¬ (i : Int) < rows.length := of_decide_eq_false h3
      refine br_t (by rw [hjn]; simp [ByteArray.toList_eq]) ?_
      conv => whnf
      have hall : ([] : List (List Val)) = rows := by rw [hout]; exact List.take_of_length_le (by omega)
      have hlr : rows.length = (([] : List (List Val))).length := by rw [hall]
      have hca' : CellsAt V' rows cells := hall ▸ hca
      refine ret_pure ⟨cb, cc, none, 0, ?_, hc.mono (by repeat (first | exact View.le_refl _ | assumption | exact View.addU_le _ _ _ | refine View.le_trans ?_ (by assumption) | refine View.le_trans ?_ (View.addU_le _ _ _))), plain_cells hcl, RowsAt.of_cells hca' hcl (by omega)⟩
      rw [hlr]; rfl
  · conv => whnf
    apply br <;> intro h3 <;> conv => whnf
    · have hi0 : (i : Int) < rows.length := of_decide_eq_true h3
      have hi1 : i < rows.length := by omega
      obtain ⟨r, hr1⟩ : ∃ r, rows[i]? = some r := ⟨_, List.getElem?_eq_getElem hi1⟩
      obtain ⟨p, off, c, rfl, hcell, hrow⟩ := hr.at hr1
      obtain ⟨rbase, rcap, hrv, hrp, hrva⟩ := hrow
      subst hrv
      refine IdxN.of (by omega) (by omega) ?_
      conv => whnf
      refine LoadN.of (hcell.mono (by repeat (first | exact View.le_refl _ | assumption | exact View.addU_le _ _ _ | refine View.le_trans ?_ (by assumption) | refine View.le_trans ?_ (View.addU_le _ _ _)))) 0 (by show off + i * 1 = off + i + 0; omega) rfl ?_
      conv => whnf
      refine CallN.pure (clone_spec r rbase rcap _ hrp (hrva.mono (by repeat (first | exact View.le_refl _ | assumption | exact View.addU_le _ _ _ | refine View.le_trans ?_ (by assumption) | refine View.le_trans ?_ (View.addU_le _ _ _)))) (hw r (List.mem_of_getElem? hr1))) fun v V3 _ hV3 hv => ?_
      obtain ⟨qb, qc, hqv⟩ := row_shape hv
      subst hqv
      refine Prot.refl ?_
      conv => whnf
      repeat' first
        | (refine br_t rfl ?_; conv => whnf)
        | (refine br_f rfl ?_; conv => whnf)
        | (refine IdxN.lit rfl rfl ?_; conv => whnf)
        | (intro _; conv => whnf)
      rename_i lb lk
      refine ⟨⟨30, _, rfl, rfl, ?_⟩⟩
      refine AppN.to ((r0 :: out1) ++ [r]).length (by simp) cells [.slice qb r.length qc] (hcl.mono (by repeat (first | exact View.le_refl _ | assumption | exact View.addU_le _ _ _ | refine View.le_trans ?_ (by assumption) | refine View.le_trans ?_ (View.addU_le _ _ _)))) (by rw [hca.len]; exact (Nat.mul_one _).symm) lk.has rfl rfl (by simp only [List.length_append, List.length_cons, List.length_nil]; have := congrArg List.length hout; rw [List.length_take] at this; simp only [List.length_cons, List.length_nil] at this; omega) (by decide) fun base' cap' V4 hV4 hc4 => ?_
      conv => whnf
      have hwi := wrap_nat (i := i) (by omega)
      refine ⟨j - 1, (i + 1, base', cap', (r0 :: out1) ++ [r], cells ++ [.slice qb r.length qc]), by omega, ?_, ?_, ?_⟩
      · repeat' (first | exact sees_nil | refine sees_cons rfl rfl rfl ?_ | refine sees_cons rfl rfl (by rw [← hwi]; rfl) ?_)
      · repeat' (first | exact keeps_nil | refine keeps_cons rfl ?_ | refine keeps_free ?_)
      · refine ⟨View.le_trans hV (by repeat (first | exact View.le_refl _ | assumption | exact View.addU_le _ _ _ | refine View.le_trans ?_ (by assumption) | refine View.le_trans ?_ (View.addU_le _ _ _))), hi1, by show _ - (i + 1) = _; omega, ?_, fun h => by simp at h, (hca.mono (by repeat (first | exact View.le_refl _ | assumption | exact View.addU_le _ _ _ | refine View.le_trans ?_ (by assumption) | refine View.le_trans ?_ (View.addU_le _ _ _)))).snoc (hv.mono (by repeat (first | exact View.le_refl _ | assumption | exact View.addU_le _ _ _ | refine View.le_trans ?_ (by assumption) | refine View.le_trans ?_ (View.addU_le _ _ _)))), hc4⟩
        show (r0 :: out1) ++ [r] = _
        rw [List.take_add_one, hr1, ← hout]; rfl
    · have hi0 : ¬ (i : Int) < rows.length := of_decide_eq_false h3
      refine br_t (by rw [hjn]; simp [ByteArray.toList_eq]) ?_
      conv => whnf
      have hall : (r0 :: out1) = rows := by rw [hout]; exact List.take_of_length_le (by omega)
      have hlr : rows.length = ((r0 :: out1)).length := by rw [hall]
      have hca' : CellsAt V' rows cells := hall ▸ hca
      refine ret_pure ⟨cb, cc, base, cp, ?_, hc.mono (by repeat (first | exact View.le_refl _ | assumption | exact View.addU_le _ _ _ | refine View.le_trans ?_ (by assumption) | refine View.le_trans ?_ (View.addU_le _ _ _))), plain_cells hcl, RowsAt.of_cells hca' hcl (by omega)⟩
      rw [hlr]; rfl
end Go.Proofs.Ytenpginanhnkbaa
end

section
set_option linter.unusedSimpArgs false
set_option linter.unusedVariables false
namespace Go.Proofs.Ytenpginanhnkbaa
open Go.X
set_option maxRecDepth 100000

theorem of0_spec (cv : Option Addr) (cn cc : Nat) (rb : Option Addr) (rn rc : Nat) (ib : Option Addr) (ic : Nat) (V : View) :
    PSpec 64 [.agg #[.slice cv cn cc, .slice rb rn rc], .slice ib 0 ic] V (fun v _ => v = .slice rb rn rc) := by
  refine does_of_zfun [] mixed (args := [.v _, .v _]) (ms := []) Try.func64 (by kernel_rfl) rfl ?_
  conv => whnf
  repeat' first
    | (refine br_t rfl ?_; conv => whnf)
    | (refine br_f rfl ?_; conv => whnf)
    | (refine IdxN.lit rfl rfl ?_; conv => whnf)
    | (intro _; conv => whnf)
  exact ret_pure rfl
theorem whereX_len (hold : List Val → Bool × Int) : ∀ l, (whereX hold l).1.length ≤ l.length
  | [] => by simp [whereX]
  | r :: l => by
    unfold whereX
    have := whereX_len hold l
    split
    · simp
    · simp only
      split <;> simp only [List.length_cons] <;> omega
theorem select1_spec (s : StV) (t u : TabV) (u1 : Value) (hu : u1 = .agg #[.string u.nm, .slice none 0 0, .slice none 0 0]) (rows : List (List Val)) (rb ob : Option Addr) (rc on oc : Nat) (hold : List Val → Bool × Int) (V : View) (hjn : s.join.toList = []) (hit : s.items.2.1 = 0) (hor : s.order.2.1 = 0)
    (ht : TabOk V t) (hr : RowsAt V rows rb) (hs : rows.length ≤ 1000) (hw : ∀ r ∈ rows, r.length ≤ 1000)
    (hh : ∀ cb cc, ∀ V1, V.le V1 → V1.cells (.slice cb (itemsOf t).length cc) ((itemsOf t).flatMap icells) → ∀ r ∈ rows, ∀ v V', V1.le V' → RowAt V' r v → PSpec 22 [.slice cb (itemsOf t).length cc, v, .slice s.wh.1 s.wh.2.1 s.wh.2.2] V' (fun v _ => v = .tuple #[.bool (hold r).1, .int .i64 (hold r).2])) :
    PSpec 32 [stv s, tabv t, u1, .slice rb rows.length rc, .slice ob on oc] V (fun v V' => ∃ x, v = .tuple #[x, .int .i64 (whereX hold rows).2] ∧ ((whereX hold rows).2 = 0 → RowsV V' (whereX hold rows).1 x) ∧ ((whereX hold rows).2 ≠ 0 → x = .slice none 0 0)) := by
  obtain ⟨skind, stb, snm, s3, s4, s5, sit, sjoin, son, swh, sord, sdesc, sinn⟩ := s
  obtain ⟨itb, itn, itc⟩ := sit
  obtain ⟨orb, orn, orc⟩ := sord
  simp only at hit hor hjn hh
  subst hit; subst hor
  subst hu
  refine does_of_zfun [(12, [(0, []), (1, []), (2, []), (3, []), (4, []), (5, []), (6, []), (8, []), (9, []), (7, []), (10, []), (11, []), (12, [])])] mixed (args := [.v _, .v _, .v _, .v _, .v _]) (ms := []) Try.func32 (by kernel_rfl) rfl ?_
  obtain ⟨tnm, tp, tcols, tcap, tq, tql, tqc⟩ := t
  conv => whnf
  repeat' first
    | (refine br_t rfl ?_; conv => whnf)
    | (refine br_f rfl ?_; conv => whnf)
    | (refine IdxN.lit rfl rfl ?_; conv => whnf)
    | (intro _; conv => whnf)
  refine CallN.pure (rows1_spec ⟨skind, stb, snm, s3, s4, s5, (itb, 0, itc), sjoin, son, swh, (orb, 0, orc), sdesc, sinn⟩ ⟨tnm, tp, tcols, tcap, tq, tql, tqc⟩ u _ rfl rows rb ob rc on oc _ hjn (ht.mono (by repeat (first | exact View.le_refl _ | assumption | exact View.addU_le _ _ _ | refine View.le_trans ?_ (by assumption) | refine View.le_trans ?_ (View.addU_le _ _ _)))) (hr.mono (by repeat (first | exact View.le_refl _ | assumption | exact View.addU_le _ _ _ | refine View.le_trans ?_ (by assumption) | refine View.le_trans ?_ (View.addU_le _ _ _)))) hs hw) fun v V1 _ hV1 ⟨cb, cc, rb', rc', hv, hc, hpl, hr'⟩ => ?_
  subst hv
  conv => whnf
  repeat' first
    | (refine br_t rfl ?_; conv => whnf)
    | (refine br_f rfl ?_; conv => whnf)
    | (refine IdxN.lit rfl rfl ?_; conv => whnf)
    | (intro _; conv => whnf)
  refine CallN.pure (where_spec (itemsOf ⟨tnm, tp, tcols, tcap, tq, tql, tqc⟩) cb cc rows rb' rc' (.slice swh.1 swh.2.1 swh.2.2) hold _ (hc.mono (by repeat (first | exact View.le_refl _ | assumption | exact View.addU_le _ _ _ | refine View.le_trans ?_ (by assumption) | refine View.le_trans ?_ (View.addU_le _ _ _)))) (hr'.mono (by repeat (first | exact View.le_refl _ | assumption | exact View.addU_le _ _ _ | refine View.le_trans ?_ (by assumption) | refine View.le_trans ?_ (View.addU_le _ _ _)))) hs (fun r hrm v V' hV' hra => hh cb cc V1 (by repeat (first | exact View.le_refl _ | assumption | exact View.addU_le _ _ _ | refine View.le_trans ?_ (by assumption) | refine View.le_trans ?_ (View.addU_le _ _ _))) hc r hrm v V' (by repeat (first | exact View.le_refl _ | assumption | exact View.addU_le _ _ _ | refine View.le_trans ?_ (by assumption) | refine View.le_trans ?_ (View.addU_le _ _ _))) hra)) fun v V2 _ hV2 ⟨tv, hv, ⟨a1, n1, c1, a2, n2, c2, ht2⟩, hok⟩ => ?_
  subst hv
  subst ht2
  conv => whnf
  generalize hW : whereX hold rows = W at *
  apply br <;> intro h3 <;> conv => whnf
  · have h3 : W.2 ≠ 0 := by simpa using h3
    exact ret_pure ⟨_, rfl, fun h => absurd h h3, fun _ => rfl⟩
  · have h3 : W.2 = 0 := by simpa using h3
    obtain ⟨rb2, rc2, he, hp2, hr2⟩ := hok h3
    simp only [Value.agg.injEq, Array.mk.injEq, List.cons.injEq, Value.slice.injEq, and_true] at he
    obtain ⟨_, rfl, rfl, rfl⟩ := he
    repeat' first
      | (refine br_t rfl ?_; conv => whnf)
      | (refine br_f rfl ?_; conv => whnf)
      | (refine IdxN.lit rfl rfl ?_; conv => whnf)
      | (intro _; conv => whnf)
    refine unrollz 1 ?_
    conv => whnf
    repeat' first
      | (refine br_t rfl ?_; conv => whnf)
      | (refine br_f rfl ?_; conv => whnf)
      | (refine IdxN.lit rfl rfl ?_; conv => whnf)
      | (intro _; conv => whnf)
    refine CallN.pure (of0_spec _ _ _ _ _ _ itb itc _) fun v V3 _ hV3 hv => ?_
    subst hv
    conv => whnf
    repeat' first
      | (refine br_t rfl ?_; conv => whnf)
      | (refine br_f rfl ?_; conv => whnf)
      | (refine IdxN.lit rfl rfl ?_; conv => whnf)
      | (intro _; conv => whnf)
    exact ret_pure ⟨_, by rw [h3]; rfl, fun _ => ⟨a2, c2, rfl, hp2, hr2.mono (by repeat (first | exact View.le_refl _ | assumption | exact View.addU_le _ _ _ | refine View.le_trans ?_ (by assumption) | refine View.le_trans ?_ (View.addU_le _ _ _)))⟩, fun h => absurd h3 h⟩
end Go.Proofs.Ytenpginanhnkbaa
end
