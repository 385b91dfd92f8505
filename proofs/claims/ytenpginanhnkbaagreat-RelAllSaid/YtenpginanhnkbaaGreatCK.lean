/- One part of a proof: an evaluator of the model, shown right, and contracts that it yields. No condition beyond those that each theorem names. -/
import Derived.Test.YtenpginanhnkbaaGreatCG
import Derived.Test.YtenpginanhnkbaaGreatCJ
import Derived.Test.YtenpginanhnkbaaGreatCH
import Derived.Test.YtenpginanhnkbaaGreatCC
section
set_option linter.unusedSimpArgs false
set_option linter.unusedVariables false
namespace Go.Proofs.YtenpginanhnkbaaGreat
open Go.X
set_option maxRecDepth 100000
def pkX (its l : List Item) (r : List Val) : List Val := if l = [] then r else pickX its r l
theorem ofX_map (its l : List Item) (S : List (List Val)) : ofX its l S = S.map (pkX its l) := by
 unfold ofX pkX
 by_cases h : l = []
 ·rw [if_pos h]; simp [h]
 ·rw [if_neg h]; simp [h]
theorem key_tid {rows out : List (List Val)} {k : Nat} {r : List Val} (htd : ∀ r ∈ rows, ∀ v ∈ r, Tidy v) (hsub : ∀ r ∈ out, r ∈ rows) (h : r ∈ out) : Tidy (keyX k r) := by
 unfold keyX
 split
 ·rename_i v hv
  exact htd r (hsub r h) v (List.mem_of_getElem? hv)
 ·exact ⟨fun h => (by cases h), fun _ => rfl⟩
structure RSel (V : View) (s : StV) (its : List Item) (rows : List (List Val)) (hold : List Val → Bool × Int) (l : List Item) (o : Option (ByteArray × ByteArray)) : Prop where
 hin : s.items.2.1 = l.length
 hx : V.cells (.slice s.items.1 s.items.2.1 s.items.2.2) (l.flatMap icells)
 hxl : l.length ≤ 1000
 hag : foldsL l = true → ∀ x ∈ l, x.agg = 1 ∨ ((x.agg = 2 ∨ x.agg = 3 ∨ x.agg = 4) ∧ (atA x.tb x.nm its).2 = 0)
 hpl : foldsL l = false → ∀ x ∈ l, (atA x.tb x.nm its).2 = 0
 hod : OrdAt V s.order o
 hoa : ∀ tb nm, o = some (tb, nm) → (atA tb nm its).2 = 0
 his : its.length ≤ 1000
 hne : its ≠ []
 hs : rows.length ≤ 1000
 hir : ∀ r ∈ rows, ∀ v ∈ r, InR v.n
 hw : ∀ r ∈ rows, r.length = its.length
 htd : ∀ r ∈ rows, ∀ v ∈ r, Tidy v
 htx : ∀ r ∈ rows, ∀ v ∈ r, (v.t.size : Int) ≤ 9223372036854775807
 hh : ∀ cb cc, ∀ V1, V.le V1 → V1.cells (.slice cb its.length cc) (its.flatMap icells) → ∀ r ∈ rows, ∀ v V', V1.le V' → RowAt V' r v → PSpec 27 [.slice cb its.length cc, v, .slice s.wh.1 s.wh.2.1 s.wh.2.2] V' (fun v _ => v = .tuple #[.bool (hold r).1, .int .i64 (hold r).2])
set_option maxHeartbeats 4000000 in
/-- rows of one table -/
theorem rsel1_spec (s : StV) (t : TabV) (u1 : Value) (unm : ByteArray) (hu : u1 = .agg #[.string unm, .slice none 0 0, .slice none 0 0]) (rows : List (List Val)) (rb ob : Option Addr) (rc on oc : Nat) (hold : List Val → Bool × Int) (l : List Item) (o : Option (ByteArray × ByteArray)) (V : View) (hjn : s.join.toList = []) (ht : TabOk V t)
  (hr : RowsAt V rows rb) (H : RSel V s (itemsOf t) rows hold l o) :
  PSpec 8 [stv s, tabv t, u1, .slice rb rows.length rc, .slice ob on oc] V (fun v V' => ∃ x, v = .tuple #[x, .int .i64 (selX (itemsOf t) hold rows l o s.desc).2] ∧ ((selX (itemsOf t) hold rows l o s.desc).2 = 0 → RowsV V' (selX (itemsOf t) hold rows l o s.desc).1 x) ∧ ((selX (itemsOf t) hold rows l o s.desc).2 ≠ 0 → x = .slice none 0 0)) := by
 subst hu
 obtain ⟨skind, stb, snm, s3, s4, s5, sit, sjoin, son, swh, sord, sdesc, sinn⟩ := s
 obtain ⟨itb, itn, itc⟩ := sit
 obtain ⟨orb, orn, orc⟩ := sord
 simp only at hjn
 refine does_of_zfun [(13, [(1, []), (2, []), (3, []), (4, []), (6, []), (7, []), (8, []), (9, []), (0, []), (5, []), (10, []), (11, [])]), (22, [(0, []), (1, []), (2, []), (3, []), (4, []), (5, []), (6, []), (7, []), (8, []), (9, []), (10, []), (11, []), (12, [])]), (42, [(0, []), (1, []), (3, []), (4, []), (5, []), (6, []), (7, []), (8, []), (9, []), (10, []), (11, []), (12, []), (13, []), (14, []), (15, []), (2, []), (16, []), (17, []), (18, []), (19, []), (20, []), (21, [])])] mixed (args := [.v _, .v _, .v _, .v _, .v _]) (ms := []) Tryz.func8 (by kernel_rfl) rfl ?_
 have hil := itemsOf_len t
 conv => whnf
 repeat' ((first | refine br_t rfl ?_ | refine br_f rfl ?_ | refine IdxN.lit rfl rfl ?_ | intro _); conv => whnf)
 rename_i b5 b6 b7
 refine CallN.news (colsR_spec t _ (ht.mono le_auto)) fun v Vt bs hVt ⟨a, ac, c, cc, hv, hct, hC, hb⟩ => ⟨[(300, .row (.slice a t.cols.length ac) 68 3 t.cols.length), (301, .row (.slice c t.cols.length cc) 3 1 t.cols.length)], by rw [hb]; rfl, by simp, fun x hx => by (simp only [List.mem_cons, List.not_mem_nil, or_false] at hx; rcases hx with rfl | rfl <;> rfl), ?_⟩
 subst hv; conv => whnf
 repeat' ((first | refine br_t rfl ?_ | refine br_f rfl ?_ | refine IdxN.lit rfl rfl ?_ | intro _); conv => whnf)
 refine br_f (by simp [hjn, ByteArray.toList_eq]) ?_; conv => whnf
 repeat' ((first | refine br_t rfl ?_ | refine br_f rfl ?_ | refine IdxN.lit rfl rfl ?_ | intro _); conv => whnf)
 rw [← hil] at *
 have hrt := hr.mono hVt
 generalize itemsOf t = its at *
 obtain ⟨hin, hx, hxl, hag, hpl, hod, hoa, his, hne, hs, hir, hw, htd, htx, hh⟩ := H
 simp only at hin hx hh hod
 subst hin
 obtain ⟨p9, o9, hb9, hct9⟩ := cells_some hct (fun e => hne (List.eq_nil_of_length_eq_zero (by have := congrArg List.length e; rw [flat_len (f := icells) (n := 3) (fun _ => rfl)] at this; simp only [List.length_nil] at this; omega)))
 subst hb9
 refine loopz (σ := Nat × Option Addr × Nat × List (List Val) × List Value)
  (fun x => [(5, .own 5 0), (10, .v (.slice none 0 0)), (11, .v (.int .i64 0)), (12, .v (.slice (some ⟨p9, o9, none⟩) its.length ac)), (14, .v (.slice rb rows.length rc)), (24, .row 131), (25, .v (.int .i64 x.1))])
  (fun x => [(5, .box b5 30 [.int .i64 skind, .string stb, .string snm, .slice s3.1 s3.2.1 s3.2.2, .slice s4.1 s4.2.1 s4.2.2, .slice s5.1 s5.2.1 s5.2.2, .slice itb l.length itc, .string sjoin, .slice son.1 son.2.1 son.2.2, .slice swh.1 swh.2.1 swh.2.2, .slice orb orn orc, .bool sdesc, .slice sinn.1 sinn.2.1 sinn.2.2]),
   (131, .row (.slice x.2.1 x.2.2.2.1.length x.2.2.1) 42 1 x.2.2.2.1.length)])
  (fun j x V' => Vt.le V' ∧ x.1 ≤ rows.length ∧ rows.length - x.1 = j ∧ x.2.2.2.1.length ≤ x.1 ∧ CellsAt V' x.2.2.2.1 x.2.2.2.2 ∧ V'.cells (.slice x.2.1 x.2.2.2.1.length x.2.2.1) x.2.2.2.2 ∧
   whereX hold rows = (if (whereX hold (rows.drop x.1)).2 = 0 then (x.2.2.2.1 ++ (whereX hold (rows.drop x.1)).1, 0) else ((whereX hold rows).1, (whereX hold (rows.drop x.1)).2)))
  rows.length (0, none, 0, [], []) ?_ ?_ ?_ ?_
 ·repeat' (first | exact sees_nil | refine sees_cons rfl rfl rfl ?_)
 ·repeat' (first | exact keeps_nil | refine keeps_cons rfl ?_ | refine keeps_free ?_)
 ·refine ⟨le_auto, Nat.zero_le _, by simp, Nat.le_refl _, CellsAt.nil, rfl, ?_⟩
  simp only [List.drop_zero, List.nil_append]
  split
  ·rename_i h0; rw [← h0]
  ·rfl
 rintro j ⟨i, base, cp, out, cells⟩ V' ⟨hV, hi, hj, hl, hca, hcl, hwx⟩
 simp only at hi hj hl hca hcl hwx
 have hwi := wrap_nat (i := i) (by omega)
 conv => whnf
 apply br <;> intro h3 <;> conv => whnf
 ·have hi1 : i < rows.length := by have := of_decide_eq_true h3; omega
  obtain ⟨r, hr1⟩ : ∃ r, rows[i]? = some r := ⟨_, List.getElem?_eq_getElem hi1⟩
  have hdrop : rows.drop i = r :: rows.drop (i + 1) := by
   rw [List.drop_eq_getElem_cons hi1]
   have e1 : rows[i] = r := by rw [List.getElem?_eq_getElem hi1] at hr1; exact Option.some.inj hr1
   rw [e1]
  rw [hdrop, whereX] at hwx
  obtain ⟨p, off, c, hrb, hcell, hrow⟩ := hrt.at hr1
  subst hrb
  obtain ⟨rbase, rcap, hrv⟩ := row_shape hrow
  subst hrv
  refine IdxN.of (by omega) (by omega) ?_; conv => whnf
  refine LoadN.of (hcell.mono le_auto) 0 (by show off + i * 1 = off + i + 0; omega) rfl ?_; conv => whnf
  repeat' ((first | refine br_t rfl ?_ | refine br_f rfl ?_ | refine IdxN.lit rfl rfl ?_ | intro _); conv => whnf)
  refine CallN.pure (hh _ _ Vt le_auto hct r (List.mem_of_getElem? hr1) (.slice rbase r.length rcap) _ le_auto (hrow.mono le_auto)) fun v V2 _ hV2 hv => ?_
  subst hv
  refine Prot.refl ?_; conv => whnf
  repeat' ((first | refine br_t rfl ?_ | refine br_f rfl ?_ | refine IdxN.lit rfl rfl ?_ | intro _); conv => whnf)
  apply br <;> intro h4 <;> conv => whnf
  ·have h4 : (hold r).2 ≠ 0 := by simpa using h4
   rw [if_pos h4] at hwx
   simp only [if_neg h4] at hwx
   have hw2 : (whereX hold rows).2 = (hold r).2 := congrArg Prod.snd hwx
   repeat' ((first | refine br_t rfl ?_ | refine br_f rfl ?_ | refine IdxN.lit rfl rfl ?_ | intro _); conv => whnf)
   refine ret_pure ⟨.slice none 0 0, ?_⟩
   unfold selX
   rw [if_pos (by rw [hw2]; exact h4), hw2]
   exact ⟨rfl, fun h => absurd h h4, fun _ => rfl⟩
  ·have h4 : (hold r).2 = 0 := by simpa using h4
   rw [if_neg (show ¬ (hold r).2 ≠ 0 from fun h => h h4)] at hwx
   apply br <;> intro h5 <;> conv => whnf
   ·rw [if_pos h5] at hwx
    repeat' ((first | refine br_t rfl ?_ | refine br_f rfl ?_ | refine IdxN.lit rfl rfl ?_ | intro _); conv => whnf)
    refine IdxN.of (by omega) (by omega) ?_; conv => whnf
    refine LoadN.of (hcell.mono le_auto) 0 (by show off + i * 1 = off + i + 0; omega) rfl ?_; conv => whnf
    intro b3 V3 hV3 h6
    conv => whnf
    refine AppN.to (out ++ [r]).length (by simp) cells [.slice rbase r.length rcap] (hcl.mono le_auto) (by rw [hca.len]; exact (Nat.mul_one _).symm) h6 rfl rfl (by simp only [List.length_append, List.length_cons, List.length_nil]; omega) (by decide) fun base' cap' V4 hV4 hc4 => ?_; conv => whnf
    refine ⟨j - 1, (i + 1, base', cap', out ++ [r], cells ++ [.slice rbase r.length rcap]), by omega, ?_, ?_, ?_⟩
    ·repeat' (first | exact sees_nil | refine sees_cons rfl rfl rfl ?_ | refine sees_cons rfl rfl (by rw [← hwi]; rfl) ?_)
    ·repeat' (first | exact keeps_nil | refine keeps_cons rfl ?_ | refine keeps_free ?_)
    ·refine ⟨View.le_trans hV le_auto, hi1, by show _ - (i + 1) = _; omega, by show (out ++ [r]).length ≤ i + 1; simp only [List.length_append, List.length_cons, List.length_nil]; omega, (hca.mono le_auto).snoc (hrow.mono le_auto), hc4, ?_⟩
     show _ = if _ then ((out ++ [r]) ++ _, (0 : Int)) else _
     rw [List.append_assoc]; exact hwx
   ·rw [if_neg (show ¬ (hold r).1 = true from by rw [h5]; simp)] at hwx
    repeat' ((first | refine br_t rfl ?_ | refine br_f rfl ?_ | refine IdxN.lit rfl rfl ?_ | intro _); conv => whnf)
    refine ⟨j - 1, (i + 1, base, cp, out, cells), by omega, ?_, ?_, ?_⟩
    ·repeat' (first | exact sees_nil | refine sees_cons rfl rfl rfl ?_ | refine sees_cons rfl rfl (by rw [← hwi]; rfl) ?_)
    ·repeat' (first | exact keeps_nil | refine keeps_cons rfl ?_ | refine keeps_free ?_)
    ·exact ⟨View.le_trans hV hV2, hi1, by show _ - (i + 1) = _; omega, by show out.length ≤ i + 1; omega, hca.mono hV2, hcl.mono hV2, hwx⟩
 ·have hi1 : ¬ i < rows.length := by have := of_decide_eq_false h3; omega
  rw [List.drop_eq_nil_of_le (by omega)] at hwx
  have hwx : whereX hold rows = (out, 0) := by
   rw [hwx]; simp [whereX]
  have hsub : ∀ r ∈ out, r ∈ rows := fun r h => whereX_mem hold (by rw [hwx]; exact h)
  have hsl : out.length ≤ 1000 := by omega
  have hro : RowsAt V' out base := RowsAt.of_cells hca hcl (by omega)
  unfold selX
  rw [hwx]
  simp only [ne_eq, not_true_eq_false, if_false]
  clear hwx hwi hi hj h3 hl
  rcases l with _ | ⟨x0, xs⟩
  ·refine br_f rfl ?_; conv => whnf
   repeat' ((first | refine br_t rfl ?_ | refine br_f rfl ?_ | refine IdxN.lit rfl rfl ?_ | intro _); conv => whnf)
   rw [if_neg (by simp [foldsL])]
   rcases hod with ⟨hod, rfl⟩ | ⟨g, tb, nm, hod, hg0, rfl⟩
   ·have hod : orn = 0 := hod
    subst hod
    refine br_f rfl ?_; conv => whnf
    repeat' ((first | refine br_t rfl ?_ | refine br_f rfl ?_ | refine IdxN.lit rfl rfl ?_ | intro _); conv => whnf)
    have hSl := hsl
    have hSw : ∀ r ∈ out, r.length = its.length := fun r h => hw r (hsub r h)
    unfold orderX
    simp only
    clear hca hcl
    refine loopz (σ := Nat × Option Addr × Nat × List Value)
     (fun x => [(5, .own 5 0), (24, .v (.slice base (out).length cp)), (30, .row 226), (31, .v (.int .i64 x.1))])
     (fun x => [(5, .box b5 30 [.int .i64 skind, .string stb, .string snm, .slice s3.1 s3.2.1 s3.2.2, .slice s4.1 s4.2.1 s4.2.2, .slice s5.1 s5.2.1 s5.2.2, .slice itb ([] : List Item).length itc, .string sjoin, .slice son.1 son.2.1 son.2.2, .slice swh.1 swh.2.1 swh.2.2, .slice orb 0 orc, .bool sdesc, .slice sinn.1 sinn.2.1 sinn.2.2]), (226, .row (.slice x.2.1 x.1 x.2.2.1) 42 1 x.1)])
     (fun j x V2 => (V').le V2 ∧ x.1 ≤ (out).length ∧ (out).length - x.1 = j ∧ CellsAt V2 (((out).take x.1).map (pkX its [])) x.2.2.2 ∧ V2.cells (.slice x.2.1 x.1 x.2.2.1) x.2.2.2)
     (out).length (0, none, 0, []) ?_ ?_ ?_ ?_
    ·repeat' (first | exact sees_nil | refine sees_cons rfl rfl rfl ?_)
    ·repeat' (first | exact keeps_nil | refine keeps_cons rfl ?_ | refine keeps_free ?_)
    ·exact ⟨le_auto, Nat.zero_le _, by simp, CellsAt.nil, rfl⟩
    rintro j ⟨i, b2, c2, cl2⟩ V2 ⟨hV2, hi, hj, hca2, hcl2⟩
    simp only at hi hj hca2 hcl2
    have hwi := wrap_nat (i := i) (by omega)
    have hcll : cl2.length = i := by
     have := hca2.len
     rw [List.length_map, List.length_take] at this; omega
    conv => whnf
    apply br <;> intro g6 <;> conv => whnf
    ·have hi1 : i < (out).length := by have := of_decide_eq_true g6; omega
     obtain ⟨r, hr1⟩ : ∃ r, (out)[i]? = some r := ⟨_, List.getElem?_eq_getElem hi1⟩
     have hrl : r.length ≤ 1000 := by rw [hSw r (List.mem_of_getElem? hr1)]; exact his
     obtain ⟨p, off, c, hrb, hcell, hrow⟩ := (hro).at hr1
     subst hrb
     obtain ⟨rbase, rcap, hrv, hrp, hrva⟩ := hrow
     subst hrv
     intro lb Vl hVl hln
     conv => whnf
     refine IdxN.of (by omega) (by omega) ?_; conv => whnf
     refine LoadN.of (hcell.mono le_auto) 0 (by show off + i * 1 = off + i + 0; omega) rfl ?_; conv => whnf
     refine AppN.toR r.length (Nat.zero_add _) [] (r.flatMap vcells) hln rfl (row_news hrp (hrva.mono le_auto)) (flat_len (f := vcells) (n := 3) (fun _ => rfl) r) (allOne_flat r) (by omega) (by decide) fun base' cap' V4 hV4 hc4 _ => ?_; conv => whnf
     refine br_f rfl ?_; conv => whnf
     intro l3 V5 hV5 h5
     conv => whnf
     refine AppN.to (i + 1) rfl cl2 [.slice base' (r).length cap'] (hcl2.mono le_auto) (by rw [hcll]; exact (Nat.mul_one _).symm) h5 rfl rfl (by omega) (by decide) fun b3 c3 V6 hV6 hc6 => ?_; conv => whnf
     repeat' ((first | refine br_t rfl ?_ | refine br_f rfl ?_ | refine IdxN.lit rfl rfl ?_ | intro _); conv => whnf)
     have hrow6 : RowAt V6 (r) (.slice base' (r).length cap') := ⟨base', cap', rfl, .inr (plain_cells (hc4)), ValsAt.of_cells ((hc4).mono le_auto) (by omega)⟩
     refine ⟨j - 1, (i + 1, b3, c3, cl2 ++ [.slice base' (r).length cap']), by omega, ?_, ?_, View.le_trans hV2 le_auto, hi1, by show _ - (i + 1) = _; omega, ?_, hc6⟩
     ·repeat' (first | exact sees_nil | refine sees_cons rfl rfl rfl ?_ | refine sees_cons rfl rfl (by rw [← hwi]; rfl) ?_)
     ·repeat' (first | exact keeps_nil | refine keeps_cons rfl ?_ | refine keeps_free ?_)
     ·show CellsAt V6 (((out).take (i + 1)).map (pkX its ([]))) _
      rw [List.take_add_one, hr1, List.map_append]
      exact (hca2.mono le_auto).snoc hrow6
    ·have hi1 : ¬ i < (out).length := by have := of_decide_eq_false g6; omega
     have hie : i = (out).length := by omega
     rw [List.take_of_length_le (by omega), ← ofX_map] at hca2
     have hol : (ofX its ([]) (out)).length = i := by rw [ofX_map, List.length_map]; exact hie.symm
     repeat' ((first | refine br_t rfl ?_ | refine br_f rfl ?_ | refine IdxN.lit rfl rfl ?_ | intro _); conv => whnf)
     exact ret_pure ⟨_, rfl, fun _ => ⟨b2, c2, by rw [hol], plain_cells hcl2, RowsAt.of_cells hca2 hcl2 (by omega)⟩, fun h => (by simp at h)⟩
   ·simp only [Prod.mk.injEq] at hod
    obtain ⟨rfl, rfl, rfl⟩ := hod
    have hat := hoa tb nm rfl
    obtain ⟨k, hpk, hak, hkl⟩ := place_at hat
    refine br_t rfl ?_; conv => whnf
    repeat' ((first | refine br_t rfl ?_ | refine br_f rfl ?_ | refine IdxN.lit rfl rfl ?_ | intro _); conv => whnf)
    refine LoadN.of (hg0.mono le_auto) 0 rfl rfl ?_; conv => whnf
    refine CallN.pure (at_spec its its.length p9 ac o9 (colN tb nm) _ ((show Vt.has p9 o9 _ from hct9).mono le_auto) (by omega) (by omega)) fun v V1 _ hV1 hv => ?_
    subst hv
    simp only [List.take_length]
    rw [show (colN tb nm).tb = tb from rfl, show (colN tb nm).nm = nm from rfl, hak]
    conv => whnf
    repeat' ((first | refine br_t rfl ?_ | refine br_f rfl ?_ | refine IdxN.lit rfl rfl ?_ | intro _); conv => whnf)
    refine CallN.pure (rsort_spec out base cp (k : Int) sdesc _ (hro.mono le_auto) hsl (fun r h => by rw [hw r (hsub r h)]; exact his) ⟨by omega, by omega⟩ (fun r hr s hs => tidy_cmp (key_tid htd hsub hs) (key_tid htd hsub hr)) (fun r h => htx r (hsub r h))) fun v Vs _ hVs hv => ?_
    unfold orderX
    simp only
    rw [hpk]
    have hSl : (sortX (k : Int) sdesc out).length ≤ 1000 := by rw [sortX_len]; exact hsl
    have hSw : ∀ r ∈ sortX (k : Int) sdesc out, r.length = its.length := fun r h => hw r (hsub r (sortX_mem h))
    obtain ⟨b6, p6, rfl, _, hr6⟩ := hv
    generalize sortX (k : Int) sdesc out = S at *
    clear hca hcl
    conv => whnf
    repeat' ((first | refine br_t rfl ?_ | refine br_f rfl ?_ | refine IdxN.lit rfl rfl ?_ | intro _); conv => whnf)
    refine loopz (σ := Nat × Option Addr × Nat × List Value)
     (fun x => [(5, .own 5 0), (24, .v (.slice b6 (S).length p6)), (30, .row 226), (31, .v (.int .i64 x.1))])
     (fun x => [(5, .box b5 30 [.int .i64 skind, .string stb, .string snm, .slice s3.1 s3.2.1 s3.2.2, .slice s4.1 s4.2.1 s4.2.2, .slice s5.1 s5.2.1 s5.2.2, .slice itb ([] : List Item).length itc, .string sjoin, .slice son.1 son.2.1 son.2.2, .slice swh.1 swh.2.1 swh.2.2, .slice (some ⟨g, 0, none⟩) 1 1, .bool sdesc, .slice sinn.1 sinn.2.1 sinn.2.2]), (226, .row (.slice x.2.1 x.1 x.2.2.1) 42 1 x.1)])
     (fun j x V2 => (Vs).le V2 ∧ x.1 ≤ (S).length ∧ (S).length - x.1 = j ∧ CellsAt V2 (((S).take x.1).map (pkX its [])) x.2.2.2 ∧ V2.cells (.slice x.2.1 x.1 x.2.2.1) x.2.2.2)
     (S).length (0, none, 0, []) ?_ ?_ ?_ ?_
    ·repeat' (first | exact sees_nil | refine sees_cons rfl rfl rfl ?_)
    ·repeat' (first | exact keeps_nil | refine keeps_cons rfl ?_ | refine keeps_free ?_)
    ·exact ⟨le_auto, Nat.zero_le _, by simp, CellsAt.nil, rfl⟩
    rintro j ⟨i, b2, c2, cl2⟩ V2 ⟨hV2, hi, hj, hca2, hcl2⟩
    simp only at hi hj hca2 hcl2
    have hwi := wrap_nat (i := i) (by omega)
    have hcll : cl2.length = i := by
     have := hca2.len
     rw [List.length_map, List.length_take] at this; omega
    conv => whnf
    apply br <;> intro g6 <;> conv => whnf
    ·have hi1 : i < (S).length := by have := of_decide_eq_true g6; omega
     obtain ⟨r, hr1⟩ : ∃ r, (S)[i]? = some r := ⟨_, List.getElem?_eq_getElem hi1⟩
     have hrl : r.length ≤ 1000 := by rw [hSw r (List.mem_of_getElem? hr1)]; exact his
     obtain ⟨p, off, c, hrb, hcell, hrow⟩ := (hr6).at hr1
     subst hrb
     obtain ⟨rbase, rcap, hrv, hrp, hrva⟩ := hrow
     subst hrv
     intro lb Vl hVl hln
     conv => whnf
     refine IdxN.of (by omega) (by omega) ?_; conv => whnf
     refine LoadN.of (hcell.mono le_auto) 0 (by show off + i * 1 = off + i + 0; omega) rfl ?_; conv => whnf
     refine AppN.toR r.length (Nat.zero_add _) [] (r.flatMap vcells) hln rfl (row_news hrp (hrva.mono le_auto)) (flat_len (f := vcells) (n := 3) (fun _ => rfl) r) (allOne_flat r) (by omega) (by decide) fun base' cap' V4 hV4 hc4 _ => ?_; conv => whnf
     refine br_f rfl ?_; conv => whnf
     intro l3 V5 hV5 h5
     conv => whnf
     refine AppN.to (i + 1) rfl cl2 [.slice base' (r).length cap'] (hcl2.mono le_auto) (by rw [hcll]; exact (Nat.mul_one _).symm) h5 rfl rfl (by omega) (by decide) fun b3 c3 V6 hV6 hc6 => ?_; conv => whnf
     repeat' ((first | refine br_t rfl ?_ | refine br_f rfl ?_ | refine IdxN.lit rfl rfl ?_ | intro _); conv => whnf)
     have hrow6 : RowAt V6 (r) (.slice base' (r).length cap') := ⟨base', cap', rfl, .inr (plain_cells (hc4)), ValsAt.of_cells ((hc4).mono le_auto) (by omega)⟩
     refine ⟨j - 1, (i + 1, b3, c3, cl2 ++ [.slice base' (r).length cap']), by omega, ?_, ?_, View.le_trans hV2 le_auto, hi1, by show _ - (i + 1) = _; omega, ?_, hc6⟩
     ·repeat' (first | exact sees_nil | refine sees_cons rfl rfl rfl ?_ | refine sees_cons rfl rfl (by rw [← hwi]; rfl) ?_)
     ·repeat' (first | exact keeps_nil | refine keeps_cons rfl ?_ | refine keeps_free ?_)
     ·show CellsAt V6 (((S).take (i + 1)).map (pkX its ([]))) _
      rw [List.take_add_one, hr1, List.map_append]
      exact (hca2.mono le_auto).snoc hrow6
    ·have hi1 : ¬ i < (S).length := by have := of_decide_eq_false g6; omega
     have hie : i = (S).length := by omega
     rw [List.take_of_length_le (by omega), ← ofX_map] at hca2
     have hol : (ofX its ([]) (S)).length = i := by rw [ofX_map, List.length_map]; exact hie.symm
     repeat' ((first | refine br_t rfl ?_ | refine br_f rfl ?_ | refine IdxN.lit rfl rfl ?_ | intro _); conv => whnf)
     exact ret_pure ⟨_, rfl, fun _ => ⟨b2, c2, by rw [hol], plain_cells hcl2, RowsAt.of_cells hca2 hcl2 (by omega)⟩, fun h => (by simp at h)⟩
  ·obtain ⟨ib, io, hib, hxx⟩ := cells_some hx (by intro h; cases h)
   subst hib
   have hx0 := has_flat (n := 3) (fun _ => rfl) (x0 :: xs) io hxx 0 x0 rfl
   have hpos : decide ((((x0 :: xs).length : Nat) : Int) > 0) = true := decide_eq_true (by simp only [List.length_cons]; omega)
   refine br_t hpos ?_; conv => whnf
   refine IdxN.of (by omega) (by simp only [List.length_cons]; omega) ?_; conv => whnf
   refine LoadN.of (hx0.mono le_auto) 0 rfl rfl ?_; conv => whnf
   repeat (refine br_t hpos ?_; conv => whnf)
   by_cases hg : x0.agg = 0
   ·repeat (first | (refine br_t hpos ?_; conv => whnf) | (refine br_f (by simpa using hg) ?_; conv => whnf))
    repeat' ((first | refine br_t rfl ?_ | refine br_f rfl ?_ | refine IdxN.lit rfl rfl ?_ | intro _); conv => whnf)
    have hfl : foldsL (x0 :: xs) = false := by simp [foldsL, hg]
    rw [if_neg (by rw [hfl]; simp)]
    have hpl := hpl hfl
    rcases hod with ⟨hod, rfl⟩ | ⟨g, tb, nm, hod, hg0, rfl⟩
    ·have hod : orn = 0 := hod
     subst hod
     refine br_f rfl ?_; conv => whnf
     repeat' ((first | refine br_t rfl ?_ | refine br_f rfl ?_ | refine IdxN.lit rfl rfl ?_ | intro _); conv => whnf)
     have hSl := hsl
     have hSw : ∀ r ∈ out, r.length = its.length := fun r h => hw r (hsub r h)
     unfold orderX
     simp only
     clear hca hcl
     refine loopz (σ := Nat × Option Addr × Nat × List Value)
      (fun x => [(5, .own 5 0), (12, .v (.slice (some ⟨p9, o9, none⟩) its.length ac)), (24, .v (.slice base (out).length cp)), (30, .row 226), (31, .v (.int .i64 x.1))])
      (fun x => [(5, .box b5 30 [.int .i64 skind, .string stb, .string snm, .slice s3.1 s3.2.1 s3.2.2, .slice s4.1 s4.2.1 s4.2.2, .slice s5.1 s5.2.1 s5.2.2, .slice (some ⟨ib, io, none⟩) (x0 :: xs).length itc, .string sjoin, .slice son.1 son.2.1 son.2.2, .slice swh.1 swh.2.1 swh.2.2, .slice orb 0 orc, .bool sdesc, .slice sinn.1 sinn.2.1 sinn.2.2]), (226, .row (.slice x.2.1 x.1 x.2.2.1) 42 1 x.1)])
      (fun j x V2 => (V').le V2 ∧ x.1 ≤ (out).length ∧ (out).length - x.1 = j ∧ CellsAt V2 (((out).take x.1).map (pkX its (x0 :: xs))) x.2.2.2 ∧ V2.cells (.slice x.2.1 x.1 x.2.2.1) x.2.2.2)
      (out).length (0, none, 0, []) ?_ ?_ ?_ ?_
     ·repeat' (first | exact sees_nil | refine sees_cons rfl rfl rfl ?_)
     ·repeat' (first | exact keeps_nil | refine keeps_cons rfl ?_ | refine keeps_free ?_)
     ·exact ⟨le_auto, Nat.zero_le _, by simp, CellsAt.nil, rfl⟩
     rintro j ⟨i, b2, c2, cl2⟩ V2 ⟨hV2, hi, hj, hca2, hcl2⟩
     simp only at hi hj hca2 hcl2
     have hwi := wrap_nat (i := i) (by omega)
     have hcll : cl2.length = i := by
      have := hca2.len
      rw [List.length_map, List.length_take] at this; omega
     conv => whnf
     apply br <;> intro g6 <;> conv => whnf
     ·have hi1 : i < (out).length := by have := of_decide_eq_true g6; omega
      obtain ⟨r, hr1⟩ : ∃ r, (out)[i]? = some r := ⟨_, List.getElem?_eq_getElem hi1⟩
      have hrl : r.length ≤ 1000 := by rw [hSw r (List.mem_of_getElem? hr1)]; exact his
      obtain ⟨p, off, c, hrb, hcell, hrow⟩ := (hro).at hr1
      subst hrb
      obtain ⟨rbase, rcap, hrv, hrp, hrva⟩ := hrow
      subst hrv
      intro lb Vl hVl hln
      conv => whnf
      refine IdxN.of (by omega) (by omega) ?_; conv => whnf
      refine LoadN.of (hcell.mono le_auto) 0 (by show off + i * 1 = off + i + 0; omega) rfl ?_; conv => whnf
      refine AppN.toR r.length (Nat.zero_add _) [] (r.flatMap vcells) hln rfl (row_news hrp (hrva.mono le_auto)) (flat_len (f := vcells) (n := 3) (fun _ => rfl) r) (allOne_flat r) (by omega) (by decide) fun base' cap' V4 hV4 hc4 _ => ?_; conv => whnf
      repeat (refine br_t hpos ?_; conv => whnf)
      repeat' ((first | refine br_t rfl ?_ | refine br_f rfl ?_ | refine IdxN.lit rfl rfl ?_ | intro _); conv => whnf)
      refine loopz (σ := Nat × Option Addr × Nat × List Val)
       (fun z => [(5, .own 5 0), (12, .v (.slice (some ⟨p9, o9, none⟩) its.length ac)), (24, .v (.slice (some ⟨p, off, none⟩) (out).length cp)), (30, .row 226), (31, .v (.int .i64 i)), (32, .row 222), (33, .v (.int .i64 z.1))])
       (fun z => [(5, .box b5 30 [.int .i64 skind, .string stb, .string snm, .slice s3.1 s3.2.1 s3.2.2, .slice s4.1 s4.2.1 s4.2.2, .slice s5.1 s5.2.1 s5.2.2, .slice (some ⟨ib, io, none⟩) (x0 :: xs).length itc, .string sjoin, .slice son.1 son.2.1 son.2.2, .slice swh.1 swh.2.1 swh.2.2, .slice orb 0 orc, .bool sdesc, .slice sinn.1 sinn.2.1 sinn.2.2]), (226, .row (.slice b2 i c2) 42 1 i), (222, .row (.slice z.2.1 z.2.2.2.length z.2.2.1) 44 3 z.2.2.2.length)])
       (fun j z Vx => V4.le Vx ∧ z.1 ≤ (x0 :: xs).length ∧ (x0 :: xs).length - z.1 = j ∧ z.2.2.2 = pickX its r ((x0 :: xs).take z.1) ∧ z.2.2.2.length ≤ z.1 ∧ Vx.cells (.slice z.2.1 z.2.2.2.length z.2.2.1) (z.2.2.2.flatMap vcells))
       (x0 :: xs).length (0, none, 0, []) ?_ ?_ ?_ ?_
      ·repeat' (first | exact sees_nil | refine sees_cons rfl rfl rfl ?_)
      ·repeat' (first | exact keeps_nil | refine keeps_cons rfl ?_ | refine keeps_free ?_)
      ·exact ⟨le_auto, Nat.zero_le _, by simp, rfl, Nat.le_refl _, rfl⟩
      rintro j2 ⟨k7, xb, xc, acc⟩ Vx ⟨hVx, hk, hj2, hacc, hal, hacl⟩
      simp only at hk hj2 hacc hal hacl
      have hwk := wrap_nat (i := k7) (by omega)
      conv => whnf
      apply br <;> intro g7 <;> conv => whnf
      ·have hk1 : k7 < (x0 :: xs).length := by have := of_decide_eq_true g7; omega
       obtain ⟨x, hxk⟩ : ∃ x, (x0 :: xs)[k7]? = some x := ⟨_, List.getElem?_eq_getElem hk1⟩
       have htk : pickX its r ((x0 :: xs).take (k7 + 1)) = acc ++ oneP its r x := by
        unfold pickX at hacc ⊢
        rw [List.take_add_one, hxk, List.flatMap_append, ← hacc]; simp
       have hxc := has_flat (n := 3) (fun _ => rfl) (x0 :: xs) io hxx k7 x hxk
       obtain ⟨kk, hpk, hak, hkl⟩ := place_at (hpl x (List.mem_of_getElem? hxk))
       have hrlen := hSw r (List.mem_of_getElem? hr1)
       obtain ⟨u, hu⟩ : ∃ u, r[kk]? = some u := ⟨_, List.getElem?_eq_getElem (by omega)⟩
       rw [oneP_at hpk hu] at htk
       obtain ⟨q, off2, hb2, hval⟩ := hrva.at hu
       subst hb2
       obtain ⟨xa, xtb, xnm⟩ := x
       simp only at hak hpk
       refine IdxN.of (by omega) (by omega) ?_; conv => whnf
       refine LoadN.of (hxc.mono le_auto) 1 rfl rfl ?_; conv => whnf
       refine IdxN.of (by omega) (by omega) ?_; conv => whnf
       refine LoadN.of (hxc.mono le_auto) 2 rfl rfl ?_; conv => whnf
       repeat' ((first | refine br_t rfl ?_ | refine br_f rfl ?_ | refine IdxN.lit rfl rfl ?_ | intro _); conv => whnf)
       refine CallN.pure (at_spec its its.length p9 ac o9 ⟨0, v0, xtb, xnm, none, 0, 0⟩ _ ((show Vt.has p9 o9 _ from hct9).mono le_auto) (by omega) (by omega)) fun v V7 _ hV7 hv => ?_
       subst hv
       simp only [List.take_length]
       rw [hak]
       refine Prot.refl ?_; conv => whnf
       repeat' ((first | refine br_t rfl ?_ | refine br_f rfl ?_ | refine IdxN.lit rfl rfl ?_ | intro _); conv => whnf)
       refine IdxN.of (by omega) (by omega) ?_; conv => whnf
       refine LoadN.of (hcell.mono le_auto) 0 (by show off + i * 1 = off + i + 0; omega) rfl ?_; conv => whnf
       refine IdxN.of (by omega) (by omega) ?_; conv => whnf
       refine LoadN.of (hval.mono le_auto) 0 rfl rfl ?_; conv => whnf
       intro l8 V8 hV8 hln8
       conv => whnf
       refine AppN.to (acc.length + 1) rfl (acc.flatMap vcells) (vcells u) (hacl.mono le_auto) (by rw [flat_len (f := vcells) (n := 3) (fun _ => rfl)]; rfl) hln8 rfl rfl (by omega) (by decide) fun base' cap' Vm hVm hcm => ?_; conv => whnf
       have hcm : Vm.cells (.slice base' (acc ++ [u]).length cap') ((acc ++ [u]).flatMap vcells) := by
        rw [List.flatMap_append, List.length_append]
        simpa using hcm
       refine ⟨j2 - 1, (k7 + 1, base', cap', acc ++ [u]), by omega, ?_, ?_, View.le_trans hVx le_auto, hk1, by show _ - (k7 + 1) = _; omega, htk.symm, by show (acc ++ [u]).length ≤ k7 + 1; simp only [List.length_append, List.length_cons, List.length_nil]; omega, hcm⟩
       ·repeat' (first | exact sees_nil | refine sees_cons rfl rfl (by simp only [List.length_append, List.length_cons, List.length_nil]; rfl) ?_ | refine sees_cons rfl rfl rfl ?_ | refine sees_cons rfl rfl (by rw [← hwk]; rfl) ?_)
       ·repeat' (first | exact keeps_nil | refine keeps_cons rfl ?_ | refine keeps_cons (by simp only [List.length_append, List.length_cons, List.length_nil]; rfl) ?_ | refine keeps_free ?_)
      ·have hk1 : ¬ k7 < (x0 :: xs).length := by have := of_decide_eq_false g7; omega
       rw [List.take_of_length_le (by omega)] at hacc
       have hpx : acc = pkX its (x0 :: xs) r := by rw [hacc]; rfl
       clear hacc
       subst hpx
       intro l3 V5 hV5 h5
       conv => whnf
       refine AppN.to (i + 1) rfl cl2 [.slice xb ((pkX its (x0 :: xs) r)).length xc] (hcl2.mono le_auto) (by rw [hcll]; exact (Nat.mul_one _).symm) h5 rfl rfl (by omega) (by decide) fun b3 c3 V6 hV6 hc6 => ?_; conv => whnf
       repeat' ((first | refine br_t rfl ?_ | refine br_f rfl ?_ | refine IdxN.lit rfl rfl ?_ | intro _); conv => whnf)
       have hrow6 : RowAt V6 ((pkX its (x0 :: xs) r)) (.slice xb ((pkX its (x0 :: xs) r)).length xc) := ⟨xb, xc, rfl, .inr (plain_cells (hacl)), ValsAt.of_cells ((hacl).mono le_auto) (by omega)⟩
       refine ⟨j - 1, (i + 1, b3, c3, cl2 ++ [.slice xb ((pkX its (x0 :: xs) r)).length xc]), by omega, ?_, ?_, View.le_trans hV2 le_auto, hi1, by show _ - (i + 1) = _; omega, ?_, hc6⟩
       ·repeat' (first | exact sees_nil | refine sees_cons rfl rfl rfl ?_ | refine sees_cons rfl rfl (by rw [← hwi]; rfl) ?_)
       ·repeat' (first | exact keeps_nil | refine keeps_cons rfl ?_ | refine keeps_free ?_)
       ·show CellsAt V6 (((out).take (i + 1)).map (pkX its ((x0 :: xs)))) _
        rw [List.take_add_one, hr1, List.map_append]
        exact (hca2.mono le_auto).snoc hrow6
     ·have hi1 : ¬ i < (out).length := by have := of_decide_eq_false g6; omega
      have hie : i = (out).length := by omega
      rw [List.take_of_length_le (by omega), ← ofX_map] at hca2
      have hol : (ofX its ((x0 :: xs)) (out)).length = i := by rw [ofX_map, List.length_map]; exact hie.symm
      repeat' ((first | refine br_t rfl ?_ | refine br_f rfl ?_ | refine IdxN.lit rfl rfl ?_ | intro _); conv => whnf)
      exact ret_pure ⟨_, rfl, fun _ => ⟨b2, c2, by rw [hol], plain_cells hcl2, RowsAt.of_cells hca2 hcl2 (by omega)⟩, fun h => (by simp at h)⟩
    ·simp only [Prod.mk.injEq] at hod
     obtain ⟨rfl, rfl, rfl⟩ := hod
     have hat := hoa tb nm rfl
     obtain ⟨k, hpk, hak, hkl⟩ := place_at hat
     refine br_t rfl ?_; conv => whnf
     repeat' ((first | refine br_t rfl ?_ | refine br_f rfl ?_ | refine IdxN.lit rfl rfl ?_ | intro _); conv => whnf)
     refine LoadN.of (hg0.mono le_auto) 0 rfl rfl ?_; conv => whnf
     refine CallN.pure (at_spec its its.length p9 ac o9 (colN tb nm) _ ((show Vt.has p9 o9 _ from hct9).mono le_auto) (by omega) (by omega)) fun v V1 _ hV1 hv => ?_
     subst hv
     simp only [List.take_length]
     rw [show (colN tb nm).tb = tb from rfl, show (colN tb nm).nm = nm from rfl, hak]
     conv => whnf
     repeat' ((first | refine br_t rfl ?_ | refine br_f rfl ?_ | refine IdxN.lit rfl rfl ?_ | intro _); conv => whnf)
     refine CallN.pure (rsort_spec out base cp (k : Int) sdesc _ (hro.mono le_auto) hsl (fun r h => by rw [hw r (hsub r h)]; exact his) ⟨by omega, by omega⟩ (fun r hr s hs => tidy_cmp (key_tid htd hsub hs) (key_tid htd hsub hr)) (fun r h => htx r (hsub r h))) fun v Vs _ hVs hv => ?_
     unfold orderX
     simp only
     rw [hpk]
     have hSl : (sortX (k : Int) sdesc out).length ≤ 1000 := by rw [sortX_len]; exact hsl
     have hSw : ∀ r ∈ sortX (k : Int) sdesc out, r.length = its.length := fun r h => hw r (hsub r (sortX_mem h))
     obtain ⟨b6, p6, rfl, _, hr6⟩ := hv
     generalize sortX (k : Int) sdesc out = S at *
     clear hca hcl
     conv => whnf
     repeat' ((first | refine br_t rfl ?_ | refine br_f rfl ?_ | refine IdxN.lit rfl rfl ?_ | intro _); conv => whnf)
     refine loopz (σ := Nat × Option Addr × Nat × List Value)
      (fun x => [(5, .own 5 0), (12, .v (.slice (some ⟨p9, o9, none⟩) its.length ac)), (24, .v (.slice b6 (S).length p6)), (30, .row 226), (31, .v (.int .i64 x.1))])
      (fun x => [(5, .box b5 30 [.int .i64 skind, .string stb, .string snm, .slice s3.1 s3.2.1 s3.2.2, .slice s4.1 s4.2.1 s4.2.2, .slice s5.1 s5.2.1 s5.2.2, .slice (some ⟨ib, io, none⟩) (x0 :: xs).length itc, .string sjoin, .slice son.1 son.2.1 son.2.2, .slice swh.1 swh.2.1 swh.2.2, .slice (some ⟨g, 0, none⟩) 1 1, .bool sdesc, .slice sinn.1 sinn.2.1 sinn.2.2]), (226, .row (.slice x.2.1 x.1 x.2.2.1) 42 1 x.1)])
      (fun j x V2 => (Vs).le V2 ∧ x.1 ≤ (S).length ∧ (S).length - x.1 = j ∧ CellsAt V2 (((S).take x.1).map (pkX its (x0 :: xs))) x.2.2.2 ∧ V2.cells (.slice x.2.1 x.1 x.2.2.1) x.2.2.2)
      (S).length (0, none, 0, []) ?_ ?_ ?_ ?_
     ·repeat' (first | exact sees_nil | refine sees_cons rfl rfl rfl ?_)
     ·repeat' (first | exact keeps_nil | refine keeps_cons rfl ?_ | refine keeps_free ?_)
     ·exact ⟨le_auto, Nat.zero_le _, by simp, CellsAt.nil, rfl⟩
     rintro j ⟨i, b2, c2, cl2⟩ V2 ⟨hV2, hi, hj, hca2, hcl2⟩
     simp only at hi hj hca2 hcl2
     have hwi := wrap_nat (i := i) (by omega)
     have hcll : cl2.length = i := by
      have := hca2.len
      rw [List.length_map, List.length_take] at this; omega
     conv => whnf
     apply br <;> intro g6 <;> conv => whnf
     ·have hi1 : i < (S).length := by have := of_decide_eq_true g6; omega
      obtain ⟨r, hr1⟩ : ∃ r, (S)[i]? = some r := ⟨_, List.getElem?_eq_getElem hi1⟩
      have hrl : r.length ≤ 1000 := by rw [hSw r (List.mem_of_getElem? hr1)]; exact his
      obtain ⟨p, off, c, hrb, hcell, hrow⟩ := (hr6).at hr1
      subst hrb
      obtain ⟨rbase, rcap, hrv, hrp, hrva⟩ := hrow
      subst hrv
      intro lb Vl hVl hln
      conv => whnf
      refine IdxN.of (by omega) (by omega) ?_; conv => whnf
      refine LoadN.of (hcell.mono le_auto) 0 (by show off + i * 1 = off + i + 0; omega) rfl ?_; conv => whnf
      refine AppN.toR r.length (Nat.zero_add _) [] (r.flatMap vcells) hln rfl (row_news hrp (hrva.mono le_auto)) (flat_len (f := vcells) (n := 3) (fun _ => rfl) r) (allOne_flat r) (by omega) (by decide) fun base' cap' V4 hV4 hc4 _ => ?_; conv => whnf
      repeat (refine br_t hpos ?_; conv => whnf)
      repeat' ((first | refine br_t rfl ?_ | refine br_f rfl ?_ | refine IdxN.lit rfl rfl ?_ | intro _); conv => whnf)
      refine loopz (σ := Nat × Option Addr × Nat × List Val)
       (fun z => [(5, .own 5 0), (12, .v (.slice (some ⟨p9, o9, none⟩) its.length ac)), (24, .v (.slice (some ⟨p, off, none⟩) (S).length p6)), (30, .row 226), (31, .v (.int .i64 i)), (32, .row 222), (33, .v (.int .i64 z.1))])
       (fun z => [(5, .box b5 30 [.int .i64 skind, .string stb, .string snm, .slice s3.1 s3.2.1 s3.2.2, .slice s4.1 s4.2.1 s4.2.2, .slice s5.1 s5.2.1 s5.2.2, .slice (some ⟨ib, io, none⟩) (x0 :: xs).length itc, .string sjoin, .slice son.1 son.2.1 son.2.2, .slice swh.1 swh.2.1 swh.2.2, .slice (some ⟨g, 0, none⟩) 1 1, .bool sdesc, .slice sinn.1 sinn.2.1 sinn.2.2]), (226, .row (.slice b2 i c2) 42 1 i), (222, .row (.slice z.2.1 z.2.2.2.length z.2.2.1) 44 3 z.2.2.2.length)])
       (fun j z Vx => V4.le Vx ∧ z.1 ≤ (x0 :: xs).length ∧ (x0 :: xs).length - z.1 = j ∧ z.2.2.2 = pickX its r ((x0 :: xs).take z.1) ∧ z.2.2.2.length ≤ z.1 ∧ Vx.cells (.slice z.2.1 z.2.2.2.length z.2.2.1) (z.2.2.2.flatMap vcells))
       (x0 :: xs).length (0, none, 0, []) ?_ ?_ ?_ ?_
      ·repeat' (first | exact sees_nil | refine sees_cons rfl rfl rfl ?_)
      ·repeat' (first | exact keeps_nil | refine keeps_cons rfl ?_ | refine keeps_free ?_)
      ·exact ⟨le_auto, Nat.zero_le _, by simp, rfl, Nat.le_refl _, rfl⟩
      rintro j2 ⟨k7, xb, xc, acc⟩ Vx ⟨hVx, hk, hj2, hacc, hal, hacl⟩
      simp only at hk hj2 hacc hal hacl
      have hwk := wrap_nat (i := k7) (by omega)
      conv => whnf
      apply br <;> intro g7 <;> conv => whnf
      ·have hk1 : k7 < (x0 :: xs).length := by have := of_decide_eq_true g7; omega
       obtain ⟨x, hxk⟩ : ∃ x, (x0 :: xs)[k7]? = some x := ⟨_, List.getElem?_eq_getElem hk1⟩
       have htk : pickX its r ((x0 :: xs).take (k7 + 1)) = acc ++ oneP its r x := by
        unfold pickX at hacc ⊢
        rw [List.take_add_one, hxk, List.flatMap_append, ← hacc]; simp
       have hxc := has_flat (n := 3) (fun _ => rfl) (x0 :: xs) io hxx k7 x hxk
       obtain ⟨kk, hpk, hak, hkl⟩ := place_at (hpl x (List.mem_of_getElem? hxk))
       have hrlen := hSw r (List.mem_of_getElem? hr1)
       obtain ⟨u, hu⟩ : ∃ u, r[kk]? = some u := ⟨_, List.getElem?_eq_getElem (by omega)⟩
       rw [oneP_at hpk hu] at htk
       obtain ⟨q, off2, hb2, hval⟩ := hrva.at hu
       subst hb2
       obtain ⟨xa, xtb, xnm⟩ := x
       simp only at hak hpk
       refine IdxN.of (by omega) (by omega) ?_; conv => whnf
       refine LoadN.of (hxc.mono le_auto) 1 rfl rfl ?_; conv => whnf
       refine IdxN.of (by omega) (by omega) ?_; conv => whnf
       refine LoadN.of (hxc.mono le_auto) 2 rfl rfl ?_; conv => whnf
       repeat' ((first | refine br_t rfl ?_ | refine br_f rfl ?_ | refine IdxN.lit rfl rfl ?_ | intro _); conv => whnf)
       refine CallN.pure (at_spec its its.length p9 ac o9 ⟨0, v0, xtb, xnm, none, 0, 0⟩ _ ((show Vt.has p9 o9 _ from hct9).mono le_auto) (by omega) (by omega)) fun v V7 _ hV7 hv => ?_
       subst hv
       simp only [List.take_length]
       rw [hak]
       refine Prot.refl ?_; conv => whnf
       repeat' ((first | refine br_t rfl ?_ | refine br_f rfl ?_ | refine IdxN.lit rfl rfl ?_ | intro _); conv => whnf)
       refine IdxN.of (by omega) (by omega) ?_; conv => whnf
       refine LoadN.of (hcell.mono le_auto) 0 (by show off + i * 1 = off + i + 0; omega) rfl ?_; conv => whnf
       refine IdxN.of (by omega) (by omega) ?_; conv => whnf
       refine LoadN.of (hval.mono le_auto) 0 rfl rfl ?_; conv => whnf
       intro l8 V8 hV8 hln8
       conv => whnf
       refine AppN.to (acc.length + 1) rfl (acc.flatMap vcells) (vcells u) (hacl.mono le_auto) (by rw [flat_len (f := vcells) (n := 3) (fun _ => rfl)]; rfl) hln8 rfl rfl (by omega) (by decide) fun base' cap' Vm hVm hcm => ?_; conv => whnf
       have hcm : Vm.cells (.slice base' (acc ++ [u]).length cap') ((acc ++ [u]).flatMap vcells) := by
        rw [List.flatMap_append, List.length_append]
        simpa using hcm
       refine ⟨j2 - 1, (k7 + 1, base', cap', acc ++ [u]), by omega, ?_, ?_, View.le_trans hVx le_auto, hk1, by show _ - (k7 + 1) = _; omega, htk.symm, by show (acc ++ [u]).length ≤ k7 + 1; simp only [List.length_append, List.length_cons, List.length_nil]; omega, hcm⟩
       ·repeat' (first | exact sees_nil | refine sees_cons rfl rfl (by simp only [List.length_append, List.length_cons, List.length_nil]; rfl) ?_ | refine sees_cons rfl rfl rfl ?_ | refine sees_cons rfl rfl (by rw [← hwk]; rfl) ?_)
       ·repeat' (first | exact keeps_nil | refine keeps_cons rfl ?_ | refine keeps_cons (by simp only [List.length_append, List.length_cons, List.length_nil]; rfl) ?_ | refine keeps_free ?_)
      ·have hk1 : ¬ k7 < (x0 :: xs).length := by have := of_decide_eq_false g7; omega
       rw [List.take_of_length_le (by omega)] at hacc
       have hpx : acc = pkX its (x0 :: xs) r := by rw [hacc]; rfl
       clear hacc
       subst hpx
       intro l3 V5 hV5 h5
       conv => whnf
       refine AppN.to (i + 1) rfl cl2 [.slice xb ((pkX its (x0 :: xs) r)).length xc] (hcl2.mono le_auto) (by rw [hcll]; exact (Nat.mul_one _).symm) h5 rfl rfl (by omega) (by decide) fun b3 c3 V6 hV6 hc6 => ?_; conv => whnf
       repeat' ((first | refine br_t rfl ?_ | refine br_f rfl ?_ | refine IdxN.lit rfl rfl ?_ | intro _); conv => whnf)
       have hrow6 : RowAt V6 ((pkX its (x0 :: xs) r)) (.slice xb ((pkX its (x0 :: xs) r)).length xc) := ⟨xb, xc, rfl, .inr (plain_cells (hacl)), ValsAt.of_cells ((hacl).mono le_auto) (by omega)⟩
       refine ⟨j - 1, (i + 1, b3, c3, cl2 ++ [.slice xb ((pkX its (x0 :: xs) r)).length xc]), by omega, ?_, ?_, View.le_trans hV2 le_auto, hi1, by show _ - (i + 1) = _; omega, ?_, hc6⟩
       ·repeat' (first | exact sees_nil | refine sees_cons rfl rfl rfl ?_ | refine sees_cons rfl rfl (by rw [← hwi]; rfl) ?_)
       ·repeat' (first | exact keeps_nil | refine keeps_cons rfl ?_ | refine keeps_free ?_)
       ·show CellsAt V6 (((S).take (i + 1)).map (pkX its ((x0 :: xs)))) _
        rw [List.take_add_one, hr1, List.map_append]
        exact (hca2.mono le_auto).snoc hrow6
     ·have hi1 : ¬ i < (S).length := by have := of_decide_eq_false g6; omega
      have hie : i = (S).length := by omega
      rw [List.take_of_length_le (by omega), ← ofX_map] at hca2
      have hol : (ofX its ((x0 :: xs)) (S)).length = i := by rw [ofX_map, List.length_map]; exact hie.symm
      repeat' ((first | refine br_t rfl ?_ | refine br_f rfl ?_ | refine IdxN.lit rfl rfl ?_ | intro _); conv => whnf)
      exact ret_pure ⟨_, rfl, fun _ => ⟨b2, c2, by rw [hol], plain_cells hcl2, RowsAt.of_cells hca2 hcl2 (by omega)⟩, fun h => (by simp at h)⟩
   ·repeat (first | (refine br_t hpos ?_; conv => whnf) | (refine br_t (by simpa using hg) ?_; conv => whnf))
    repeat' ((first | refine br_t rfl ?_ | refine br_f rfl ?_ | refine IdxN.lit rfl rfl ?_ | intro _); conv => whnf)
    have hfl : foldsL (x0 :: xs) = true := by simp [foldsL, hg]
    rw [if_pos hfl]
    refine CallN.pure (folded_spec ⟨skind, stb, snm, s3, s4, s5, (some ⟨ib, io, none⟩, (x0 :: xs).length, itc), sjoin, son, swh, (orb, orn, orc), sdesc, sinn⟩ its p9 o9 ac out base cp (x0 :: xs) _ ((show Vt.has p9 o9 _ from hct9).mono le_auto) his (hro.mono le_auto) (by have := hsl; omega) (fun r h => hir r (hsub r h)) (fun r h => hw r (hsub r h)) (fun r h => htd r (hsub r h)) (fun r h => htx r (hsub r h)) rfl (hxx.mono le_auto) hxl (hag hfl)) fun v V3 _ hV3 ⟨x, hv, h1, h2⟩ => ?_
    subst hv; conv => whnf
    repeat' ((first | refine br_t rfl ?_ | refine br_f rfl ?_ | refine IdxN.lit rfl rfl ?_ | intro _); conv => whnf)
    refine ret_pure ⟨x, ?_⟩
    by_cases he : (oneX its out (x0 :: xs)).2 = 0
    ·rw [if_neg (fun h => h he), he]
     exact ⟨rfl, fun _ => h1 he, fun h => absurd rfl h⟩
    ·rw [if_pos he]
     exact ⟨rfl, fun h => absurd h he, fun _ => h2 he⟩
end Go.Proofs.YtenpginanhnkbaaGreat
end
