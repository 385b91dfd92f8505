/- One part of a proof: an evaluator of the model, shown right, and contracts that it yields. No condition beyond those that each theorem names. -/
import Derived.Test.YtenpginanhnkbaaCP
import Derived.Test.YtenpginanhnkbaaCM
import Derived.Test.YtenpginanhnkbaaCY
import Derived.Test.YtenpginanhnkbaaDA
section
set_option linter.unusedSimpArgs false
set_option linter.unusedVariables false
namespace Go.Proofs.Ytenpginanhnkbaa
open Go.X
set_option maxRecDepth 100000

/-! ## what is counted: the plain law -/
section
variable (hold : List Val → Bool × Int)
theorem whereX_append {l1 : List (List Val)} (l2 : List (List Val)) (h : (whereX hold l1).2 = 0) : whereX hold (l1 ++ l2) = ((whereX hold l1).1 ++ (whereX hold l2).1, (whereX hold l2).2) := by
  induction l1 with
  | nil => rfl
  | cons r l1 ih =>
    rw [whereX] at h
    by_cases h1 : (hold r).2 ≠ 0
    · rw [if_pos h1] at h; exact absurd h h1
    · rw [if_neg h1] at h
      rw [List.cons_append, whereX, if_neg h1, whereX, if_neg h1, ih h]
      by_cases h2 : (hold r).1 <;> simp [h2]
theorem whereX_ok {l1 l2 : List (List Val)} (h : (whereX hold (l1 ++ l2)).2 = 0) : (whereX hold l1).2 = 0 ∧ (whereX hold l2).2 = 0 ∧ (whereX hold (l1 ++ l2)).1 = (whereX hold l1).1 ++ (whereX hold l2).1 := by
  have h1 : (whereX hold l1).2 = 0 := by
    induction l1 with
    | nil => rfl
    | cons r l1 ih =>
      rw [List.cons_append, whereX] at h
      by_cases h1 : (hold r).2 ≠ 0
      · rw [if_pos h1] at h; exact absurd h h1
      · rw [if_neg h1] at h
        rw [whereX, if_neg h1]
        exact ih h
  have h2 := whereX_append hold l2 h1
  exact ⟨h1, by rw [h2] at h; exact h, by rw [h2]⟩
/-- row by row -/
theorem counts (g : List Val → List (List Val)) (xs : List (List Val)) (i : Nat) (x : List Val) (hx : xs[i]? = some x) (h : (whereX hold (xs.flatMap g)).2 = 0) :
    (whereX hold (g x)).2 = 0 ∧ (whereX hold ((xs.take (i + 1)).flatMap g)).1 = (whereX hold ((xs.take i).flatMap g)).1 ++ (whereX hold (g x)).1 ∧
      ∃ rest, (whereX hold (xs.flatMap g)).1 = (whereX hold ((xs.take i).flatMap g)).1 ++ ((whereX hold (g x)).1 ++ rest) := by
  have e1 : xs = xs.take i ++ (x :: xs.drop (i + 1)) := by
    have hlt := (List.getElem?_eq_some_iff.1 hx)
    rw [← hlt.2, ← List.drop_eq_getElem_cons hlt.1, List.take_append_drop]
  have e2 : xs.take (i + 1) = xs.take i ++ [x] := by rw [List.take_add_one, hx]; rfl
  have h' := h
  rw [e1, List.flatMap_append] at h'
  obtain ⟨a1, a2, a3⟩ := whereX_ok hold h'
  rw [List.flatMap_cons] at a2 a3
  obtain ⟨b1, b2, b3⟩ := whereX_ok hold a2
  have c : (whereX hold ((xs.take i).flatMap g ++ g x)).1 = (whereX hold ((xs.take i).flatMap g)).1 ++ (whereX hold (g x)).1 := by
    rw [whereX_append hold _ a1]
  refine ⟨b1, by rw [e2, List.flatMap_append, List.flatMap_cons, List.flatMap_nil, List.append_nil, c], (whereX hold ((xs.drop (i + 1)).flatMap g)).1, ?_⟩
  conv => lhs; rw [e1, List.flatMap_append, List.flatMap_cons]
  rw [a3, b3]
end
end Go.Proofs.Ytenpginanhnkbaa
end

section
set_option linter.unusedSimpArgs false
set_option linter.unusedVariables false
namespace Go.Proofs.Ytenpginanhnkbaa
open Go.X
set_option maxRecDepth 100000

/-! ## rows with room: Select's answer may be cut -/
/-- rows, as a slice that the program has made, and its room -/
def RowsVC (V : View) (rows : List (List Val)) (v : Value) : Prop := ∃ base cap, v = .slice base rows.length cap ∧ rows.length ≤ cap ∧ Plain base ∧ RowsAt V rows base
theorem RowsVC.rowsV {V : View} {rows : List (List Val)} {v : Value} (h : RowsVC V rows v) : RowsV V rows v := by
  obtain ⟨base, cap, h1, _, h2, h3⟩ := h
  exact ⟨base, cap, h1, h2, h3⟩
def cutLH (base : Option Addr) (k cap : Nat) : Option Addr := match base with
  | some ⟨p, off, sp⟩ => some ⟨p, if cap = k then off else off + k, sp⟩
  | none => none
theorem slice_lhP (t : TypeId) (base : Option Addr) (hp : Plain base) (n cap k h : Nat) (ht : Try.prog.underlying t = some (.slice (Try.prog.elem t))) (hz : ∀ w, (sizeOf (Try.prog.elem t)).run Try.prog w = .ok 1 w) (h1 : k ≤ h) (h2 : h ≤ cap) (w : World) :
    (Instr.sliceAt t (.slice base n cap) (some (.int .i64 k)) (some (.int .i64 h)) none).run Try.prog w = .ok (.slice (cutLH base k cap) (h - k) (cap - k)) w := by
  rw [run_sliceAt_slice (h := ht), run_slice_lh (ht := ht) (h0 := by omega) (h1 := by omega) (h2 := by omega), hz]
  rcases hp with rfl | ⟨p, off, rfl⟩
  · simp [sliced, cutLH]
  · simp only [Result.andThen_ok, sliced, Int.toNat_natCast, Nat.mul_one, Option.map_some, add_lit, cutLH]
    by_cases hk : cap = k
    · simp [hk]
    · simp [hk]
/-- rows in a row: so many of them, from the k-th on -/
theorem RowsAt.part {V : View} {pre mid rest : List (List Val)} {base : Option Addr} {cap : Nat} (h : RowsAt V (pre ++ (mid ++ rest)) base) (hp : Plain base) (hc : (pre ++ (mid ++ rest)).length ≤ cap) : RowsAt V mid (cutLH base pre.length cap) := by
  obtain ⟨cells, hca, hh⟩ := h.get
  have hlen := hca.len
  have hl := h.len
  simp only [List.length_append] at hlen hl hc
  refine ⟨⟨(cells.drop pre.length).take mid.length, ⟨by rw [List.length_take, List.length_drop]; omega, fun i r c h1 h2 => ?_⟩, fun hn => ?_⟩, by omega⟩
  · rw [List.getElem?_take] at h2
    split at h2
    · rw [List.getElem?_drop] at h2
      refine hca.at' (pre.length + i) r c ?_ h2
      rw [List.getElem?_append_right (by omega), Nat.add_sub_cancel_left, List.getElem?_append_left (by omega)]; exact h1
    · cases h2
  · have hm : 0 < mid.length := List.length_pos_iff.2 hn
    obtain ⟨p, off, hb, hcl⟩ := hh (fun e => by
      have := congrArg List.length e
      simp only [List.length_append, List.length_nil] at this
      omega)
    subst hb
    refine ⟨p, off + pre.length, ?_, fun i v hi => ?_⟩
    · rw [cutLH]
      rw [if_neg (by omega)]
    · rw [List.getElem?_take] at hi
      split at hi
      · rw [List.getElem?_drop] at hi
        have := hcl (pre.length + i) v hi
        rw [Nat.add_assoc]; exact this
      · cases hi
theorem whereC_spec (its : List Item) (cb : Option Addr) (cc : Nat) (rows : List (List Val)) (rb : Option Addr) (rc : Nat) (wv : Value) (hold : List Val → Bool × Int) (V : View)
    (hc : V.cells (.slice cb its.length cc) (its.flatMap icells)) (hr : RowsAt V rows rb) (hs : rows.length ≤ 1000)
    (hh : ∀ r ∈ rows, ∀ v V', V.le V' → RowAt V' r v → PSpec 22 [.slice cb its.length cc, v, wv] V' (fun v _ => v = .tuple #[.bool (hold r).1, .int .i64 (hold r).2])) :
    PSpec 61 [.agg #[.slice cb its.length cc, .slice rb rows.length rc], wv] V (fun v V' => ∃ t, v = .tuple #[t, .int .i64 (whereX hold rows).2] ∧ (∃ a n c a' n' c', t = .agg #[.slice a n c, .slice a' n' c']) ∧
      ((whereX hold rows).2 = 0 → ∃ rb' rc', t = .agg #[.slice cb its.length cc, .slice rb' (whereX hold rows).1.length rc'] ∧ (whereX hold rows).1.length ≤ rc' ∧ Plain rb' ∧ RowsAt V' (whereX hold rows).1 rb')) := by
  refine does_of_zfun [] mixed (args := [.v _, .v _]) (ms := []) Try.func61 (by kernel_rfl) rfl ?_
  conv => whnf
  repeat' first
    | (refine br_t rfl ?_; conv => whnf)
    | (refine br_f rfl ?_; conv => whnf)
    | (refine IdxN.lit rfl rfl ?_; conv => whnf)
    | (intro _; conv => whnf)
  rename_i b2 b4 b6
  refine loopz (σ := Nat × Option Addr × Nat × List (List Val) × List Value)
    (fun x => [(1, .v wv), (2, .own 2 0), (4, .own 4 0), (6, .own 6 0), (15, .v (.slice rb rows.length rc)), (16, .v (.int .i64 rows.length)), (17, .v (.int .i64 x.1))])
    (fun x => [(2, .box b2 113 [.slice cb its.length cc, .slice rb rows.length rc]), (4, .box b4 113 [.slice none 0 0, .slice none 0 0]), (6, .box b6 113 [.slice cb its.length cc, .slice x.2.1 x.2.2.2.1.length x.2.2.1]), (40, .row (.slice x.2.1 x.2.2.2.1.length x.2.2.1) 45 1 x.2.2.2.1.length)])
    (fun j x V' => V.le V' ∧ x.1 ≤ rows.length ∧ rows.length - x.1 = j ∧ x.2.2.2.1.length ≤ x.1 ∧ (x.2.2.2.1 = [] → x.2.1 = none ∧ x.2.2.1 = 0) ∧ CellsAt V' x.2.2.2.1 x.2.2.2.2 ∧ V'.cells (.slice x.2.1 x.2.2.2.1.length x.2.2.1) x.2.2.2.2 ∧
      whereX hold rows = (if (whereX hold (rows.drop x.1)).2 = 0 then (x.2.2.2.1 ++ (whereX hold (rows.drop x.1)).1, 0) else ((whereX hold rows).1, (whereX hold (rows.drop x.1)).2)) ∧ x.2.2.2.1.length ≤ x.2.2.1)
    rows.length (0, none, 0, [], []) ?_ ?_ ?_ ?_
  · repeat' (first | exact sees_nil | refine sees_cons rfl rfl rfl ?_)
  · repeat' (first | exact keeps_nil | refine keeps_cons rfl ?_ | refine keeps_free ?_)
  · refine ⟨View.le_refl _, Nat.zero_le _, by simp, Nat.le_refl _, fun _ => ⟨rfl, rfl⟩, CellsAt.nil, rfl, ?_, Nat.le_refl _⟩
    simp only [List.drop_zero, List.nil_append]
    split
    · rename_i h0; rw [← h0]
    · rfl
  rintro j ⟨i, base, cp, out, cells⟩ V' ⟨hV, hi, hj, hl, hnil, hca, hcl, hw, hcp⟩
  simp only at hi hj hl hnil hca hcl hw hcp
  conv => whnf
  apply br <;> intro h3 <;> conv => whnf
  · have hi0 : (i : Int) < rows.length := of_decide_eq_true h3
    have hi1 : i < rows.length := by omega
    obtain ⟨r, hr1⟩ : ∃ r, rows[i]? = some r := ⟨_, List.getElem?_eq_getElem hi1⟩
    have hdrop : rows.drop i = r :: rows.drop (i + 1) := by
      rw [List.drop_eq_getElem_cons hi1]
      have e1 : rows[i] = r := by rw [List.getElem?_eq_getElem hi1] at hr1; exact Option.some.inj hr1
      rw [e1]
    rw [hdrop, whereX] at hw
    obtain ⟨p, off, c, rfl, hcell, hrow⟩ := hr.at hr1
    obtain ⟨rbase, rcap, hrv⟩ := row_shape hrow
    subst hrv
    have hone : off + i * 1 = off + i := by omega
    refine IdxN.of (by omega) (by omega) ?_
    conv => whnf
    refine LoadN.of (hcell.mono (by repeat (first | exact View.le_refl _ | assumption | exact View.addU_le _ _ _ | refine View.le_trans ?_ (by assumption) | refine View.le_trans ?_ (View.addU_le _ _ _)))) 0 (by show off + i * 1 = off + i + 0; omega) rfl ?_
    conv => whnf
    refine CallN.pure (hh r (List.mem_of_getElem? hr1) (.slice rbase r.length rcap) _ (by repeat (first | exact View.le_refl _ | assumption | exact View.addU_le _ _ _ | refine View.le_trans ?_ (by assumption) | refine View.le_trans ?_ (View.addU_le _ _ _))) (hrow.mono (by repeat (first | exact View.le_refl _ | assumption | exact View.addU_le _ _ _ | refine View.le_trans ?_ (by assumption) | refine View.le_trans ?_ (View.addU_le _ _ _))))) fun v V2 _ hV2 hv => ?_
    subst hv
    conv => whnf
    have hwi := wrap_nat (i := i) (by omega)
    apply br <;> intro h4 <;> conv => whnf
    · have h4 : (hold r).2 ≠ 0 := by simpa using h4
      rw [if_pos h4] at hw
      simp only [if_neg h4] at hw
      have hw2 : (whereX hold rows).2 = (hold r).2 := congrArg Prod.snd hw
      exact ret_pure ⟨_, by rw [hw2]; rfl, ⟨_, _, _, _, _, _, rfl⟩, fun h => absurd (hw2 ▸ h) h4⟩
    · have h4 : (hold r).2 = 0 := by simpa using h4
      rw [if_neg (show ¬ (hold r).2 ≠ 0 from fun h => h h4)] at hw
      apply br <;> intro h5 <;> conv => whnf
      · rw [if_pos h5] at hw
        intro b3 V3 hV3 h6
        conv => whnf
        rcases out with _ | ⟨r0, out1⟩
        · obtain ⟨rfl, rfl⟩ := hnil rfl
          conv => whnf
          have hce : cells = [] := List.eq_nil_of_length_eq_zero (by rw [hca.len]; rfl)
          refine AppN.toc (([] : List (List Val)) ++ [r]).length rfl cells [.slice rbase r.length rcap] (by rw [hce]; rfl) (by rw [hce]; rfl) h6 rfl rfl (by simp) (by decide) fun base' cap' V4 hV4 hc4 hcp4 => ?_
          conv => whnf
          refine ⟨j - 1, (i + 1, base', cap', ([] : List (List Val)) ++ [r], cells ++ [.slice rbase r.length rcap]), by omega, ?_, ?_, ?_⟩
          · repeat' (first | exact sees_nil | refine sees_cons rfl rfl rfl ?_ | refine sees_cons rfl rfl (by rw [← hwi]; rfl) ?_)
          · repeat' (first | exact keeps_nil | refine keeps_cons rfl ?_ | refine keeps_free ?_)
          · refine ⟨View.le_trans hV (by repeat (first | exact View.le_refl _ | assumption | exact View.addU_le _ _ _ | refine View.le_trans ?_ (by assumption) | refine View.le_trans ?_ (View.addU_le _ _ _))), hi1, by show _ - (i + 1) = _; omega, by show (([] : List (List Val)) ++ [r]).length ≤ i + 1; simp only [List.length_append, List.length_cons, List.length_nil] at hl ⊢; omega, fun h => by simp at h, (hca.mono (by repeat (first | exact View.le_refl _ | assumption | exact View.addU_le _ _ _ | refine View.le_trans ?_ (by assumption) | refine View.le_trans ?_ (View.addU_le _ _ _)))).snoc (hrow.mono (by repeat (first | exact View.le_refl _ | assumption | exact View.addU_le _ _ _ | refine View.le_trans ?_ (by assumption) | refine View.le_trans ?_ (View.addU_le _ _ _)))), hc4, ?_, hcp4⟩
            show _ = if _ then ((([] : List (List Val)) ++ [r]) ++ _, (0 : Int)) else _
            rw [List.append_assoc]; exact hw
        · conv => whnf
          refine ⟨⟨40, _, rfl, ?_⟩⟩
          refine AppN.toc ((r0 :: out1) ++ [r]).length (by simp) cells [.slice rbase r.length rcap] (hcl.mono (by repeat (first | exact View.le_refl _ | assumption | exact View.addU_le _ _ _ | refine View.le_trans ?_ (by assumption) | refine View.le_trans ?_ (View.addU_le _ _ _)))) (by rw [hca.len]; exact (Nat.mul_one _).symm) h6 rfl rfl (by simp only [List.length_append, List.length_cons, List.length_nil] at hl ⊢; omega) (by decide) fun base' cap' V4 hV4 hc4 hcp4 => ?_
          conv => whnf
          refine ⟨j - 1, (i + 1, base', cap', (r0 :: out1) ++ [r], cells ++ [.slice rbase r.length rcap]), by omega, ?_, ?_, ?_⟩
          · repeat' (first | exact sees_nil | refine sees_cons rfl rfl rfl ?_ | refine sees_cons rfl rfl (by rw [← hwi]; rfl) ?_)
          · repeat' (first | exact keeps_nil | refine keeps_cons rfl ?_ | refine keeps_free ?_)
          · refine ⟨View.le_trans hV (by repeat (first | exact View.le_refl _ | assumption | exact View.addU_le _ _ _ | refine View.le_trans ?_ (by assumption) | refine View.le_trans ?_ (View.addU_le _ _ _))), hi1, by show _ - (i + 1) = _; omega, by show ((r0 :: out1) ++ [r]).length ≤ i + 1; simp only [List.length_append, List.length_cons, List.length_nil] at hl ⊢; omega, fun h => by simp at h, (hca.mono (by repeat (first | exact View.le_refl _ | assumption | exact View.addU_le _ _ _ | refine View.le_trans ?_ (by assumption) | refine View.le_trans ?_ (View.addU_le _ _ _)))).snoc (hrow.mono (by repeat (first | exact View.le_refl _ | assumption | exact View.addU_le _ _ _ | refine View.le_trans ?_ (by assumption) | refine View.le_trans ?_ (View.addU_le _ _ _)))), hc4, ?_, hcp4⟩
            show _ = if _ then (((r0 :: out1) ++ [r]) ++ _, (0 : Int)) else _
            rw [List.append_assoc]; exact hw
      · rw [if_neg (show ¬ (hold r).1 = true from by rw [h5]; simp)] at hw
        refine ⟨j - 1, (i + 1, base, cp, out, cells), by omega, ?_, ?_, ?_⟩
        · repeat' (first | exact sees_nil | refine sees_cons rfl rfl rfl ?_ | refine sees_cons rfl rfl (by rw [← hwi]; rfl) ?_)
        · repeat' (first | exact keeps_nil | refine keeps_cons rfl ?_ | refine keeps_free ?_)
        · exact ⟨View.le_trans hV hV2, hi1, by show _ - (i + 1) = _; omega, by show out.length ≤ i + 1; omega, hnil, hca.mono hV2, hcl.mono hV2, hw, hcp⟩
  · have hi0 : ¬ (i : Int) < rows.length := of_decide_eq_false h3
    rw [List.drop_eq_nil_of_le (by omega)] at hw
    have hw : whereX hold rows = (out, 0) := by
      rw [hw]; simp [whereX]
    rw [hw]
    exact ret_pure ⟨_, rfl, ⟨_, _, _, _, _, _, rfl⟩, fun _ => ⟨base, cp, rfl, hcp, plain_cells hcl, RowsAt.of_cells hca hcl (by show out.length ≤ _; omega)⟩⟩
theorem select0C_spec (s : StV) (tnm unm : ByteArray) (tc ti uc ui : Option Addr × Nat × Nat) (lv rv : Value) (its : List Item) (rows : List (List Val)) (hold : List Val → Bool × Int) (V : View)
    (hrows : ∀ V1, V.le V1 → PSpec 60 [stv s, tabg tnm tc ti, tabg unm uc ui, lv, rv] V1 (RowsR its rows))
    (hit : s.items.2.1 = 0) (hor : s.order.2.1 = 0) (hs : rows.length ≤ 1000)
    (hh : ∀ cb cc, ∀ V1, V.le V1 → V1.cells (.slice cb its.length cc) (its.flatMap icells) → ∀ r ∈ rows, ∀ v V', V1.le V' → RowAt V' r v → PSpec 22 [.slice cb its.length cc, v, .slice s.wh.1 s.wh.2.1 s.wh.2.2] V' (fun v _ => v = .tuple #[.bool (hold r).1, .int .i64 (hold r).2])) :
    PSpec 32 [stv s, tabg tnm tc ti, tabg unm uc ui, lv, rv] V (fun v V' => ∃ x, v = .tuple #[x, .int .i64 (whereX hold rows).2] ∧ ((whereX hold rows).2 = 0 → RowsVC V' (whereX hold rows).1 x) ∧ ((whereX hold rows).2 ≠ 0 → x = .slice none 0 0)) := by
  obtain ⟨skind, stb, snm, s3, s4, s5, sit, sjoin, son, swh, sord, sdesc, sinn⟩ := s
  obtain ⟨itb, itn, itc⟩ := sit
  obtain ⟨orb, orn, orc⟩ := sord
  simp only at hit hor hh
  subst hit; subst hor
  refine does_of_zfun [(12, [(0, []), (1, []), (2, []), (3, []), (4, []), (5, []), (6, []), (8, []), (9, []), (7, []), (10, []), (11, []), (12, [])])] mixed (args := [.v _, .v _, .v _, .v _, .v _]) (ms := []) Try.func32 (by kernel_rfl) rfl ?_
  conv => whnf
  repeat' first
    | (refine br_t rfl ?_; conv => whnf)
    | (refine br_f rfl ?_; conv => whnf)
    | (refine IdxN.lit rfl rfl ?_; conv => whnf)
    | (intro _; conv => whnf)
  refine CallN.pure (hrows _ (by repeat (first | exact View.le_refl _ | assumption | exact View.addU_le _ _ _ | refine View.le_trans ?_ (by assumption) | refine View.le_trans ?_ (View.addU_le _ _ _)))) fun v V1 _ hV1 ⟨cb, cc, rb', rc', hv, hc, hpl, hr'⟩ => ?_
  subst hv
  conv => whnf
  repeat' first
    | (refine br_t rfl ?_; conv => whnf)
    | (refine br_f rfl ?_; conv => whnf)
    | (refine IdxN.lit rfl rfl ?_; conv => whnf)
    | (intro _; conv => whnf)
  refine CallN.pure (whereC_spec its cb cc rows rb' rc' (.slice swh.1 swh.2.1 swh.2.2) hold _ (hc.mono (by repeat (first | exact View.le_refl _ | assumption | exact View.addU_le _ _ _ | refine View.le_trans ?_ (by assumption) | refine View.le_trans ?_ (View.addU_le _ _ _)))) (hr'.mono (by repeat (first | exact View.le_refl _ | assumption | exact View.addU_le _ _ _ | refine View.le_trans ?_ (by assumption) | refine View.le_trans ?_ (View.addU_le _ _ _)))) hs (fun r hrm v V' hV' hra => hh cb cc V1 (by repeat (first | exact View.le_refl _ | assumption | exact View.addU_le _ _ _ | refine View.le_trans ?_ (by assumption) | refine View.le_trans ?_ (View.addU_le _ _ _))) hc r hrm v V' (by repeat (first | exact View.le_refl _ | assumption | exact View.addU_le _ _ _ | refine View.le_trans ?_ (by assumption) | refine View.le_trans ?_ (View.addU_le _ _ _))) hra)) fun v V2 _ hV2 ⟨tv, hv, ⟨a1, n1, c1, a2, n2, c2, ht2⟩, hok⟩ => ?_
  subst hv
  subst ht2
  conv => whnf
  generalize hW : whereX hold rows = W at *
  apply br <;> intro h3 <;> conv => whnf
  · have h3 : W.2 ≠ 0 := by simpa using h3
    exact ret_pure ⟨_, rfl, fun h => absurd h h3, fun _ => rfl⟩
  · have h3 : W.2 = 0 := by simpa using h3
    obtain ⟨rb2, rc2, he, hcap, hp2, hr2⟩ := hok h3
    simp only [Value.agg.injEq, Array.mk.injEq, List.cons.injEq, Value.slice.injEq, and_true] at he
    obtain ⟨_, rfl, rfl, rfl⟩ := he
    repeat' first
      | (refine br_t rfl ?_; conv => whnf)
      | (refine br_f rfl ?_; conv => whnf)
      | (refine IdxN.lit rfl rfl ?_; conv => whnf)
      | (intro _; conv => whnf)
    refine unrollz 1 ?_
    conv => whnf
    repeat' first
      | (refine br_t rfl ?_; conv => whnf)
      | (refine br_f rfl ?_; conv => whnf)
      | (refine IdxN.lit rfl rfl ?_; conv => whnf)
      | (intro _; conv => whnf)
    refine CallN.pure (of0_spec _ _ _ _ _ _ itb itc _) fun v V3 _ hV3 hv => ?_
    subst hv
    conv => whnf
    repeat' first
      | (refine br_t rfl ?_; conv => whnf)
      | (refine br_f rfl ?_; conv => whnf)
      | (refine IdxN.lit rfl rfl ?_; conv => whnf)
      | (intro _; conv => whnf)
    exact ret_pure ⟨_, by rw [h3]; rfl, fun _ => ⟨a2, c2, rfl, hcap, hp2, hr2.mono (by repeat (first | exact View.le_refl _ | assumption | exact View.addU_le _ _ _ | refine View.le_trans ?_ (by assumption) | refine View.le_trans ?_ (View.addU_le _ _ _)))⟩, fun h => absurd h3 h⟩
end Go.Proofs.Ytenpginanhnkbaa
end

section
set_option linter.unusedSimpArgs false
set_option linter.unusedVariables false
namespace Go.Proofs.Ytenpginanhnkbaa
open Go.X
set_option maxRecDepth 100000

/-! ## rows of no table -/
theorem rowE_spec (b : Nat) (s : Src) (k : Int) (V : View) : Does Try.prog 19 [.pointer (some ⟨b, 0, none⟩), tE] V [picks b s k] (fun v _ bs => v = .slice none 0 0 ∧ bs = [picks b s k]) := by
  refine does_of_zfun [] mixed (args := [.own 0 0, .v _]) (ms := [(0, picks b s k)]) Try.func19 (by kernel_rfl) rfl ?_
  conv => whnf
  repeat' first
    | (refine br_t rfl ?_; conv => whnf)
    | (refine br_f rfl ?_; conv => whnf)
    | (refine IdxN.lit rfl rfl ?_; conv => whnf)
    | (intro _; conv => whnf)
  refine unrollz 1 ?_
  conv => whnf
  repeat' first
    | (refine br_t rfl ?_; conv => whnf)
    | (refine br_f rfl ?_; conv => whnf)
    | (refine IdxN.lit rfl rfl ?_; conv => whnf)
    | (intro _; conv => whnf)
  exact ⟨[0], by simp, [picks b s k], rfl, rfl, rfl⟩
theorem rowsE_spec (s : Src) (most : Nat) (V : View) (hs : s.ok V) (hm : most ≤ 100) : PSpec 31 [s.slice, tE, .int .i64 most] V (fun v _ => ∃ b n c, v = .slice b n c) := by
  refine does_of_zfun [] mixed (args := [.v _, .v _, .v _]) (ms := []) Try.func31 (by kernel_rfl) rfl ?_
  conv => whnf
  repeat' first
    | (refine br_t rfl ?_; conv => whnf)
    | (refine br_f rfl ?_; conv => whnf)
    | (refine IdxN.lit rfl rfl ?_; conv => whnf)
    | (intro _; conv => whnf)
  rename_i blk
  refine CallN.new 10 rfl (made_spec s _) fun v V1 bs hV1 ⟨b, hv, hb⟩ => ⟨picks b s 0, .own 10 0, hb, by subst hv; rfl, ?_⟩
  subst hv
  conv => whnf
  have far : FarOk s 0 := ⟨by decide, by omega⟩
  refine loopz (σ := Option Addr × Nat × List Value)
    (fun x => [(2, .v (.int .i64 most)), (4, .own 4 0), (7, .own 10 0), (8, .row 25)])
    (fun x => [(4, .box blk 27 [.string noText, .slice none 0 0, .slice none 0 0]), (10, picks b s 0), (25, .row (.slice x.1 x.2.2.length x.2.1) 45 1 x.2.2.length)])
    (fun j x V' => V1.le V' ∧ x.2.2.length ≤ most ∧ most - x.2.2.length = j ∧ V'.cells (.slice x.1 x.2.2.length x.2.1) x.2.2)
    most (none, 0, []) ?_ ?_ ?_ ?_
  · repeat' (first | exact sees_nil | refine sees_cons rfl rfl rfl ?_)
  · repeat' (first | exact keeps_nil | refine keeps_cons rfl ?_ | refine keeps_free ?_)
  · exact ⟨View.le_refl _, Nat.zero_le _, rfl, rfl⟩
  rintro j ⟨base, cp, cells⟩ V' ⟨hV, hi, hj, hcl⟩
  simp only at hi hj hcl
  conv => whnf
  refine CallN.box 10 rfl (over_spec b s 0 far _) fun v V2 bs hV2 ⟨hv, hb2⟩ => ⟨85, picksC s 0, hb2, ?_⟩
  subst hv
  conv => whnf
  apply br <;> intro h3 <;> conv => whnf
  · repeat (refine br_t h3 ?_; conv => whnf)
    apply br <;> intro h4 <;> conv => whnf
    · have hi0 : (cells.length : Int) < most := of_decide_eq_true h4
      refine CallN.box 10 rfl (rowE_spec b s 0 _) fun v V3 bs hV3 ⟨hv, hb3⟩ => ⟨85, picksC s 0, hb3, ?_⟩
      subst hv
      conv => whnf
      intro b4 V4 hV4 h5
      conv => whnf
      refine AppN.to (cells ++ [Value.slice none 0 0]).length (by simp) cells [.slice none 0 0] (hcl.mono (by repeat (first | exact View.le_refl _ | assumption | exact View.addU_le _ _ _ | refine View.le_trans ?_ (by assumption) | refine View.le_trans ?_ (View.addU_le _ _ _)))) (Nat.mul_one _).symm h5 rfl rfl (by simp; omega) (by decide) fun base' cap' V5 hV5 hc5 => ?_
      conv => whnf
      refine ⟨j - 1, (base', cap', cells ++ [.slice none 0 0]), by omega, ?_, ?_, ?_⟩
      · repeat' (first | exact sees_nil | refine sees_cons rfl rfl rfl ?_)
      · repeat' (first | exact keeps_nil | refine keeps_cons rfl ?_ | refine keeps_free ?_)
      · exact ⟨View.le_trans hV (by repeat (first | exact View.le_refl _ | assumption | exact View.addU_le _ _ _ | refine View.le_trans ?_ (by assumption) | refine View.le_trans ?_ (View.addU_le _ _ _))), by simp; omega, by simp; omega, hc5⟩
    · exact ret_pure ⟨_, _, _, rfl⟩
  · repeat (refine br_f h3 ?_; conv => whnf)
    exact ret_pure ⟨_, _, _, rfl⟩
end Go.Proofs.Ytenpginanhnkbaa
end

section
set_option linter.unusedSimpArgs false
set_option linter.unusedVariables false
namespace Go.Proofs.Ytenpginanhnkbaa
open Go.X
set_option maxRecDepth 100000

/-! ## Select, of the tables that are chosen -/
theorem names_of {its : List Item} (hn : (its.map keyC).Nodup) (hne : ∀ x ∈ its, x.tb.toList ≠ []) : Names its := by
  refine ⟨fun i j x y hx hy h1 h2 => ?_, hne⟩
  have e1 : (its.map keyC)[i]? = some (keyC x) := by rw [List.getElem?_map, hx]; rfl
  have e2 : (its.map keyC)[j]? = some (keyC y) := by rw [List.getElem?_map, hy]; rfl
  have e3 : keyC x = keyC y := by unfold keyC; rw [h1, h2]
  rw [e3] at e1
  have hlt := (List.getElem?_eq_some_iff.1 e1).1
  exact (List.getElem?_inj hlt hn).1 (e1.trans e2.symm)
theorem names_UT : Names (itemsU ++ itemsT) := names_of (by simp [itemsT, itemsU, keyC, txt, ByteArray.toList_eq]) (fun x hx => by
  simp only [itemsT, itemsU, List.cons_append, List.nil_append, List.mem_cons, List.not_mem_nil, or_false] at hx
  rcases hx with rfl | rfl | rfl | rfl | rfl | rfl <;> simp [txt, ByteArray.toList_eq])
/-- columns that are named are found: comparing them does not fail -/
theorem on_ok {its : List Item} {kinds : List Int} (hN : Names its) {kd : Int} {x1 x2 : Item} {tb1 tb2 : ByteArray} (h1 : ColOk its kinds kd x1 tb1) (h2 : ColOk its kinds kd x2 tb2) {r : List Val} (hr : r.length = its.length) :
    (holdsX (evalX (fun tb nm => colAt tb nm its r) (.bin 8 (.col tb1 x1.nm) (.col tb2 x2.nm)))).2 = 0 := by
  obtain ⟨i1, hi1, _⟩ := colsOf_mem _ _ _ _ h1.1
  obtain ⟨i2, hi2, _⟩ := colsOf_mem _ _ _ _ h2.1
  obtain ⟨v1, hv1⟩ : ∃ v, r[i1]? = some v := ⟨_, List.getElem?_eq_getElem (by rw [hr]; exact (List.getElem?_eq_some_iff.1 hi1).1)⟩
  obtain ⟨v2, hv2⟩ : ∃ v, r[i2]? = some v := ⟨_, List.getElem?_eq_getElem (by rw [hr]; exact (List.getElem?_eq_some_iff.1 hi2).1)⟩
  have c1 : colAt tb1 x1.nm its r = (v1, 0) := colAt_one (oneHit_of hN hi1 h1.2) hv1
  have c2 : colAt tb2 x2.nm its r = (v2, 0) := colAt_one (oneHit_of hN hi2 h2.2) hv2
  rw [evalX, if_neg (by decide), evalX, evalX, c1, c2]
  rfl
/-- the rows that a select is of, row by row of its first table; when they count -/
structure RowsFn (V : View) (s : StV) (a b yv : Value) (X : List (List Val)) (its : List Item) (g : List Val → List (List Val)) (hold : List Val → Bool × Int) : Prop where
  rows : ∀ (s' : StV) (xs : List (List Val)) (xb : Option Addr) (xc : Nat) (V1 : View), V.le V1 → s'.join = s.join → s'.on = s.on → (∀ r ∈ xs, r ∈ X) → xs.length ≤ 10 → RowsAt V1 xs xb → PSpec 60 [stv s', a, b, .slice xb xs.length xc, yv] V1 (RowsR its (xs.flatMap g))
  holds : ∀ (cb : Option Addr) (cc : Nat) (V1 : View), V.le V1 → V1.cells (.slice cb its.length cc) (its.flatMap icells) → ∀ x ∈ X, ∀ r ∈ g x, ∀ v V', V1.le V' → RowAt V' r v → PSpec 22 [.slice cb its.length cc, v, .slice s.wh.1 s.wh.2.1 s.wh.2.2] V' (fun v _ => v = .tuple #[.bool (hold r).1, .int .i64 (hold r).2])
  small : ∀ x ∈ X, (g x).length ≤ 10
  fit : ∀ x ∈ X, ∀ r ∈ g x, (∀ v ∈ r, InR v.n) ∧ r.length ≤ 1000
  its : its.length ≤ 1000
  tabs : ∃ tnm tc ti unm uc ui, a = tabg tnm tc ti ∧ b = tabg unm uc ui
theorem RowsFn.mono {V V' : View} {s : StV} {a b yv : Value} {X : List (List Val)} {its : List Item} {g : List Val → List (List Val)} {hold : List Val → Bool × Int} (h : RowsFn V s a b yv X its g hold) (hV : V.le V') : RowsFn V' s a b yv X its g hold :=
  ⟨fun s' xs xb xc V1 h1 => h.rows s' xs xb xc V1 (View.le_trans hV h1), fun cb cc V1 h1 => h.holds cb cc V1 (View.le_trans hV h1), h.small, h.fit, h.its, h.tabs⟩
theorem flat_small {X xs : List (List Val)} {g : List Val → List (List Val)} (hg : ∀ x ∈ X, (g x).length ≤ 10) (hxs : ∀ r ∈ xs, r ∈ X) : (xs.flatMap g).length ≤ xs.length * 10 := by
  induction xs with
  | nil => simp
  | cons x xs ih =>
    rw [List.flatMap_cons, List.length_append, List.length_cons]
    have h1 := hg x (hxs x List.mem_cons_self)
    have h2 := ih fun r hr => hxs r (List.mem_cons_of_mem _ hr)
    omega
section
variable {V : View} {s : StV} {a b yv : Value} {X : List (List Val)} {its : List Item} {g : List Val → List (List Val)} {hold : List Val → Bool × Int}
theorem selE_spec (F : RowsFn V s a b yv X its g hold) (s' : StV) (hj : s'.join = s.join) (ho : s'.on = s.on) (hw : s'.wh = s.wh) (hi : s'.items.2.1 = 0) (hd : s'.order.2.1 = 0) (xs : List (List Val)) (n : Nat) (hn : n = xs.length) (xb : Option Addr) (xc : Nat) (hxs : ∀ r ∈ xs, r ∈ X) (hl : xs.length ≤ 10) (V1 : View) (hV : V.le V1) (hr : RowsAt V1 xs xb) :
    PSpec 32 [stv s', a, b, .slice xb n xc, yv] V1 (fun v V' => ∃ x, v = .tuple #[x, .int .i64 (whereX hold (xs.flatMap g)).2] ∧ ((whereX hold (xs.flatMap g)).2 = 0 → RowsVC V' (whereX hold (xs.flatMap g)).1 x) ∧ ((whereX hold (xs.flatMap g)).2 ≠ 0 → x = .slice none 0 0)) := by
  subst hn
  obtain ⟨tnm, tc, ti, unm, uc, ui, rfl, rfl⟩ := F.tabs
  have hs := flat_small F.small hxs
  refine select0C_spec s' tnm unm tc ti uc ui _ _ its (xs.flatMap g) hold V1 (fun V2 hV2 => F.rows s' xs xb xc V2 (View.le_trans hV hV2) hj ho hxs hl (hr.mono hV2)) hi hd (by omega) fun cb cc V2 hV2 hc r hrm v V3 hV3 hra => ?_
  obtain ⟨x, hx, hrx⟩ := List.mem_flatMap.1 hrm
  rw [hw]
  exact F.holds cb cc V2 (View.le_trans hV hV2) hc x (hxs x hx) r hrx v V3 hV3 hra
theorem selC_spec (F : RowsFn V s a b yv X its g hold) (s' : StV) (hj : s'.join = s.join) (ho : s'.on = s.on) (hw : s'.wh = s.wh) (ib ic : Nat) (hi : s'.items = (some ⟨ib, 0, none⟩, 1, ic)) (xs : List (List Val)) (n : Nat) (hn : n = xs.length) (xb : Option Addr) (xc : Nat) (hxs : ∀ r ∈ xs, r ∈ X) (hl : xs.length ≤ 10) (V1 : View) (hV : V.le V1) (hr : RowsAt V1 xs xb) (hx : V1.has ib 0 (icells ⟨1, noText, noText⟩)) :
    PSpec 32 [stv s', a, b, .slice xb n xc, yv] V1 (fun v V' => ∃ x, v = .tuple #[x, .int .i64 (whereX hold (xs.flatMap g)).2] ∧ ((whereX hold (xs.flatMap g)).2 = 0 → RowsV V' [[⟨1, (whereX hold (xs.flatMap g)).1.length, noText⟩]] x) ∧ ((whereX hold (xs.flatMap g)).2 ≠ 0 → x = .slice none 0 0)) := by
  subst hn
  obtain ⟨tnm, tc, ti, unm, uc, ui, rfl, rfl⟩ := F.tabs
  have hs := flat_small F.small hxs
  have hfit : ∀ r ∈ xs.flatMap g, (∀ v ∈ r, InR v.n) ∧ r.length ≤ 1000 := fun r hrm => by
    obtain ⟨x, hx, hrx⟩ := List.mem_flatMap.1 hrm
    exact F.fit x (hxs x hx) r hrx
  refine (selectA_spec s' tnm unm tc ti uc ui _ _ its (xs.flatMap g) hold ⟨1, noText, noText⟩ [] ib 0 V1 (fun V2 hV2 => F.rows s' xs xb xc V2 (View.le_trans hV hV2) hj ho hxs hl (hr.mono hV2)) (by rw [hi]) (by rw [hi]; rfl) (by decide) (by simpa using hx) (by show 1 ≤ 1000; decide) F.its (by omega) (fun r h => (hfit r h).1) (fun r h => (hfit r h).2) fun cb cc V2 hV2 hc r hrm v V3 hV3 hra => ?_).mono fun v V' _ _ ⟨x, e, h1, h2, h3, h4⟩ => ?_
  · obtain ⟨x, hx, hrx⟩ := List.mem_flatMap.1 hrm
    rw [hw]
    exact F.holds cb cc V2 (View.le_trans hV hV2) hc x (hxs x hx) r hrx v V3 hV3 hra
  · have ho : oneX its (whereX hold (xs.flatMap g)).1 [⟨1, noText, noText⟩] = ([⟨1, (whereX hold (xs.flatMap g)).1.length, noText⟩], 0) := by
      rw [oneX, oneX]; rfl
    rw [ho] at h2 h3
    have he : e = (whereX hold (xs.flatMap g)).2 := by
      rw [h2]; split
      · rename_i h; exact h.symm
      · rfl
    subst he
    exact ⟨x, h1, h3, h4⟩
end
/-- the condition of a where, over a row -/
theorem where_hold {its : List Item} {kinds : List Int} {V : View} {w : Option Addr × Nat × Nat} (h : WhereAt V its kinds w) (hits : its.length ≤ 20) : ∃ hold : List Val → Bool × Int, ∀ (cb : Option Addr) (cc : Nat) (V1 : View), V.le V1 → V1.cells (.slice cb its.length cc) (its.flatMap icells) → its ≠ [] →
    ∀ (r : List Val), r.length ≤ 1000 → r ≠ [] → (∀ v ∈ r, InR v.n) → ∀ v V', V1.le V' → RowAt V' r v → PSpec 22 [.slice cb its.length cc, v, .slice w.1 w.2.1 w.2.2] V' (fun v _ => v = .tuple #[.bool (hold r).1, .int .i64 (hold r).2]) := by
  rcases h with rfl | ⟨g, e, x, rfl, hx, hr, hwt, _⟩
  · refine ⟨fun _ => (true, 0), fun cb cc V1 hV1 hc _ r _ _ _ v V' hV' hra => ?_⟩
    obtain ⟨qb, qc, hqv⟩ := row_shape hra
    subst hqv
    exact holdsN_spec _ _ _ _ _ _ _
  · refine ⟨fun r => holdsX (evalX (fun tb nm => colAt tb nm its r) e), fun cb cc V1 hV1 hc hne r hrl hr0 hin v V' hV' hra => ?_⟩
    obtain ⟨p9, o9, hcb, hc9⟩ := cells_some hc (by
      obtain ⟨y, l, rfl⟩ := List.exists_cons_of_ne_nil hne
      intro h; cases h)
    obtain ⟨qb, qc, hqv, _, hqva⟩ := hra
    obtain ⟨d9, dof, hqb, hrow⟩ := hqva.has hr0
    subst hcb; subst hqv; subst hqb
    exact holds_gen its r _ _ p9 o9 cc d9 dof qc g 0 1 V' rfl rfl (by omega) hrl hin (hc9.mono hV') hrow hwt.ok ((hr.mono hV1).mono hV').re ((hx.mono hV1).mono hV')
theorem rowsFn (V : View) (s : StV) (t o : TabV) (hsel : SelAt V t o s) (ht : TabOk V t) (ho : TabOk V o) (ht3 : t.cols.length = 3) (ho3 : o.cols.length = 3) (hN : Names (itemsOf t ++ itemsOf o)) (hon : o.nm.toList ≠ []) (X : List (List Val)) (hX : ∀ r ∈ X, RowC t.cols r) (ob : Option Addr) (n oc : Nat) (b : Value)
    (hjb : (s.join = noText ∧ b = tE) ∨ (s.join = o.nm ∧ b = tabv o ∧ ∃ Y : List (List Val), n = Y.length ∧ RowsAt V Y ob ∧ (∀ r ∈ Y, RowC o.cols r) ∧ Y.length ≤ 10)) :
    ∃ its g hold, RowsFn V s (tabv t) b (.slice ob n oc) X its g hold := by
  have hit : (itemsOf t).length = 3 := by rw [itemsOf_len, ht3]
  have hio : (itemsOf o).length = 3 := by rw [itemsOf_len, ho3]
  have hXl : ∀ r ∈ X, r.length = 3 := fun r hr => by rw [(hX r hr).len, ht3]
  obtain ⟨_, _, hs⟩ := hsel
  rcases hjb with ⟨hj, rfl⟩ | ⟨hj, rfl, Y, rfl, hY, hYc, hYl⟩
  · rcases hs with ⟨_, _, hp⟩ | ⟨h, _⟩
    rotate_left
    · rw [hj] at h
      exact absurd (by rw [← h]; exact noText_list) hon
    obtain ⟨hold, hh⟩ := where_hold hp.wh (by omega)
    refine ⟨itemsOf t, fun x => [x], hold, ⟨fun s' xs xb xc V1 hV1 hj' ho' hxs hxl hr => ?_, fun cb cc V1 hV1 hc x hx r hr v V' hV' hra => ?_, fun x hx => by simp, fun x hx r hr => ?_, by omega, ?_⟩⟩
    · rw [show xs.flatMap (fun x => [x]) = xs by simp]
      exact rows1_spec s' t ⟨noText, 0, [], 0, none, 0, 0⟩ tE rfl xs xb ob xc n oc V1 (by rw [hj', hj]; exact noText_list) (ht.mono hV1) hr (by omega) (fun r hr => by have := hXl r (hxs r hr); omega)
    · obtain rfl := List.mem_singleton.1 hr
      have := hXl r hx
      exact hh cb cc V1 hV1 hc (fun e => by rw [e] at hit; cases hit) r (by omega) (fun e => by rw [e] at this; cases this) (rowC_in (hX r hx)) v V' hV' hra
    · obtain rfl := List.mem_singleton.1 hr
      have := hXl r hx
      exact ⟨rowC_in (hX r hx), by omega⟩
    · exact ⟨t.nm, (some ⟨t.p, 0, none⟩, t.cols.length, t.cap), (t.q, t.ql, t.qc), noText, (none, 0, 0), (none, 0, 0), rfl, rfl⟩
  · rcases hs with ⟨h, _⟩ | ⟨_, ⟨gb, kd, x1, x2, tb1, tb2, hon1, hon2, hc1, hc2, _⟩, hp⟩
    · rw [hj] at h
      exact absurd (by rw [h]; exact noText_list) hon
    have hYl3 : ∀ r ∈ Y, r.length = 3 := fun r hr => by rw [(hYc r hr).len, ho3]
    have hlj : (itemsOf t ++ itemsOf o).length = 6 := by rw [List.length_append, hit, hio]
    obtain ⟨hold, hh⟩ := where_hold hp.wh (by omega)
    have hin : ∀ x ∈ X, ∀ y ∈ Y, ∀ v ∈ x ++ y, InR v.n := fun x hx y hy v hv => by
      rcases List.mem_append.1 hv with h | h
      · exact rowC_in (hX x hx) v h
      · exact rowC_in (hYc y hy) v h
    refine ⟨itemsOf t ++ itemsOf o, fun x => (Y.filter (fun y => (holdsX (evalX (fun tb nm => colAt tb nm (itemsOf t ++ itemsOf o) (x ++ y)) (.bin 8 (.col tb1 x1.nm) (.col tb2 x2.nm)))).1)).map (x ++ ·), hold,
      ⟨fun s' xs xb xc V1 hV1 hj' ho' hxs hxl hr => ?_, fun cb cc V1 hV1 hc x hx r hr v V' hV' hra => ?_, fun x hx => ?_, fun x hx r hr => ?_, by omega, ?_⟩⟩
    · refine rows2_spec s' t o xs Y xb ob xc oc _ V1 (by rw [hj', hj]; exact hon) (ht.mono hV1) hr (by omega) (fun r hr => by have := hXl r (hxs r hr); omega) fun V2 hV2 => ?_
      refine joined_spec s' t o xs Y xb ob xc oc (fun x y => (holdsX (evalX (fun tb nm => colAt tb nm (itemsOf t ++ itemsOf o) (x ++ y)) (.bin 8 (.col tb1 x1.nm) (.col tb2 x2.nm)))).1) V2 ((ht.mono hV1).mono hV2) ((ho.mono hV1).mono hV2) (hr.mono hV2) ((hY.mono hV1).mono hV2) (by omega) (by omega) (fun r h => by
        have := hXl r (hxs r h)
        exact ⟨fun e => (by rw [e] at this; cases this), by omega⟩) (fun r h => by have := hYl3 r h; omega) fun cb cc V3 hV3 hc x hx y hy v V4 hV4 hra lz hlz => ?_
      have lx := hXl x (hxs x hx)
      have ly := hYl3 y hy
      have hlen : (x ++ y).length = 6 := by rw [List.length_append, lx, ly]
      obtain ⟨p9, o9, hcb, hc9⟩ := cells_some hc (by
        obtain ⟨z, l, hz⟩ := List.exists_cons_of_ne_nil (fun e : itemsOf t ++ itemsOf o = [] => by rw [e] at hlj; cases hlj)
        rw [hz]; intro h; cases h)
      obtain ⟨qb, qc, hqv, _, hqva⟩ := hra
      obtain ⟨d9, dof, hqb, hrow⟩ := hqva.has (by intro h; rw [h] at hlen; cases hlen)
      subst hcb; subst hqv; subst hqb
      rw [ho', hon1] at hlz
      have hg := holds_gen (itemsOf t ++ itemsOf o) (x ++ y) _ _ p9 o9 cc d9 dof qc lz 0 1 V4 rfl rfl (by omega) (by omega) (hin x (hxs x hx) y hy) (hc9.mono hV4) hrow (e := .bin 8 (.col tb1 x1.nm) (.col tb2 x2.nm)) ⟨trivial, trivial⟩
        (xe := ⟨8, v0, noText, noText, some ⟨gb, 0, none⟩, 2, 2⟩) ⟨rfl, by decide, rfl, gb, 0, colN tb1 x1.nm, colN tb2 x2.nm, rfl, ((((hon2.mono hV1).mono hV2).mono hV3).mono hV4), ⟨rfl, rfl, rfl⟩, ⟨rfl, rfl, rfl⟩⟩ hlz
      rw [on_ok hN hc1 hc2 (by rw [hlen, hlj])] at hg
      exact hg
    · obtain ⟨y, hy, rfl⟩ := List.mem_map.1 hr
      have hy := (List.mem_filter.1 hy).1
      have lx := hXl x hx
      have ly := hYl3 y hy
      have hlen : (x ++ y).length = 6 := by rw [List.length_append, lx, ly]
      exact hh cb cc V1 hV1 hc (fun e => by rw [e] at hlj; cases hlj) (x ++ y) (by omega) (fun e => by rw [e] at hlen; cases hlen) (hin x hx y hy) v V' hV' hra
    · show ((Y.filter _).map _).length ≤ 10
      rw [List.length_map]
      exact Nat.le_trans (List.length_filter_le _ _) hYl
    · obtain ⟨y, hy, rfl⟩ := List.mem_map.1 hr
      have hy := (List.mem_filter.1 hy).1
      have lx := hXl x hx
      have ly := hYl3 y hy
      exact ⟨hin x hx y hy, by rw [List.length_append]; omega⟩
    · exact ⟨t.nm, (some ⟨t.p, 0, none⟩, t.cols.length, t.cap), (t.q, t.ql, t.qc), o.nm, (some ⟨o.p, 0, none⟩, o.cols.length, o.cap), (o.q, o.ql, o.qc), rfl, rfl⟩
end Go.Proofs.Ytenpginanhnkbaa
end
