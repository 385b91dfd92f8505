/- One part of a proof: an evaluator of the model, shown right, and contracts that it yields. No condition beyond those that each theorem names. -/
import Derived.Test.YtenpginanhnkbaaGreatCK
import Derived.Test.YtenpginanhnkbaaGreatCD
import Derived.Test.YtenpginanhnkbaaGreatCJ
section
set_option linter.unusedSimpArgs false
set_option linter.unusedVariables false
namespace Go.Proofs.YtenpginanhnkbaaGreat
open Go.X
set_option maxRecDepth 100000
set_option maxHeartbeats 2000000 in
/-- rows of two tables -/
theorem rsel2_spec (s : StV) (t u : TabV) (L R : List (List Val)) (lb rb : Option Addr) (lc rc : Nat) (on : List Val → List Val → Bool) (hold : List Val → Bool × Int) (l : List Item) (o : Option (ByteArray × ByteArray)) (V : View) (hjn : s.join.toList ≠ []) (ht : TabOk V t) (hu : TabOk V u) (ht3 : t.cols.length = 3) (hu3 : u.cols.length = 3)
  (hL : RowsAt V L lb) (hR : RowsAt V R rb) (hsL : L.length ≤ 30) (hsR : R.length ≤ 30) (hwL : ∀ r ∈ L, r.length ≤ 1000) (hwR : ∀ r ∈ R, r.length ≤ 1000) (x1 x2 : XC) (gon oc : Nat) (hon : s.on = (some ⟨gon, 0, none⟩, 2, oc)) (hx : V.has gon 0 (xcells x1 ++ xcells x2)) (ev1 ev2 : List Val → Val × Int)
  (he : ∀ cb cc, ∀ V1, V.le V1 → V1.cells (.slice cb (itemsOf t ++ itemsOf u).length cc) ((itemsOf t ++ itemsOf u).flatMap icells) → ∀ a ∈ L, ∀ b ∈ R, ∀ v V', V1.le V' → RowAt V' (a ++ b) v →
   PSpec 25 [.slice cb (itemsOf t ++ itemsOf u).length cc, v, xagg x1] V' (fun v _ => v = pairX (ev1 (a ++ b))) ∧ PSpec 25 [.slice cb (itemsOf t ++ itemsOf u).length cc, v, xagg x2] V' (fun v _ => v = pairX (ev2 (a ++ b))))
  (hcmp : ∀ a ∈ L, ∀ b ∈ R, on a b = decide (cmpR (ev1 (a ++ b)).1 (ev2 (a ++ b)).1 = 0)) (hfit : ∀ a ∈ L, ∀ b ∈ R, ((ev1 (a ++ b)).1.t.size : Int) ≤ 9223372036854775807)
  (H : RSel V s (itemsOf t ++ itemsOf u) (joinX on L R) hold l o) :
  PSpec 8 [stv s, tabv t, tabv u, .slice lb L.length lc, .slice rb R.length rc] V (fun v V' => ∃ x, v = .tuple #[x, .int .i64 (selX (itemsOf t ++ itemsOf u) hold (joinX on L R) l o s.desc).2] ∧ ((selX (itemsOf t ++ itemsOf u) hold (joinX on L R) l o s.desc).2 = 0 → RowsV V' (selX (itemsOf t ++ itemsOf u) hold (joinX on L R) l o s.desc).1 x) ∧ ((selX (itemsOf t ++ itemsOf u) hold (joinX on L R) l o s.desc).2 ≠ 0 → x = .slice none 0 0)) := by
 obtain ⟨skind, stb, snm, s3, s4, s5, sit, sjoin, son, swh, sord, sdesc, sinn⟩ := s
 obtain ⟨itb, itn, itc⟩ := sit
 obtain ⟨orb, orn, orc⟩ := sord
 simp only at hjn hon
 subst hon
 refine does_of_zfun [(13, [(1, []), (2, []), (3, []), (4, []), (6, []), (7, []), (8, []), (9, []), (0, []), (5, []), (10, []), (11, [])]), (22, [(0, []), (1, []), (2, []), (3, []), (4, []), (5, []), (6, []), (7, []), (8, []), (9, []), (10, []), (11, []), (12, [])]), (42, [(0, []), (1, []), (3, []), (4, []), (5, []), (6, []), (7, []), (8, []), (9, []), (10, []), (11, []), (12, []), (13, []), (14, []), (15, []), (2, []), (16, []), (17, []), (18, []), (19, []), (20, []), (21, [])])] mixed (args := [.v _, .v _, .v _, .v _, .v _]) (ms := []) Tryz.func8 (by kernel_rfl) rfl ?_
 have hil := itemsOf_len t
 have hil2 := itemsOf_len u
 have hits : (itemsOf t ++ itemsOf u).length = t.cols.length + u.cols.length := by rw [List.length_append, hil, hil2]
 have ht20 := ht.small
 have hu20 := hu.small
 conv => whnf
 repeat' ((first | refine br_t rfl ?_ | refine br_f rfl ?_ | refine IdxN.lit rfl rfl ?_ | intro _); conv => whnf)
 rename_i b5 b6 b7
 refine CallN.news (colsR_spec t _ (ht.mono le_auto)) fun v V1 bs hV1 ⟨a1, ac1, c1, cc1, hv, hA1, hC1, hb⟩ => ⟨[(300, .row (.slice a1 3 ac1) 68 3 3), (301, .row (.slice c1 3 cc1) 3 1 3)], by rw [hb, ht3]; rfl, by simp, fun x hx => by (simp only [List.mem_cons, List.not_mem_nil, or_false] at hx; rcases hx with rfl | rfl <;> rfl), ?_⟩
 rw [ht3] at hv hA1
 subst hv; conv => whnf
 repeat' ((first | refine br_t rfl ?_ | refine br_f rfl ?_ | refine IdxN.lit rfl rfl ?_ | intro _); conv => whnf)
 refine br_t (by rw [Bool.not_eq_true', beq_eq_false_iff_ne]; intro h; exact hjn (by rw [h]; simp [ByteArray.toList_eq])) ?_; conv => whnf
 repeat' ((first | refine br_t rfl ?_ | refine br_f rfl ?_ | refine IdxN.lit rfl rfl ?_ | intro _); conv => whnf)
 refine CallN.news (colsR_spec u _ (hu.mono le_auto)) fun v V2 bs hV2 ⟨a2, ac2, c2, cc2, hv, hA2, hC2, hb⟩ => ⟨[(302, .row (.slice a2 3 ac2) 68 3 3), (303, .row (.slice c2 3 cc2) 3 1 3)], by rw [hb, hu3]; rfl, by simp, fun x hx => by (simp only [List.mem_cons, List.not_mem_nil, or_false] at hx; rcases hx with rfl | rfl <;> rfl), ?_⟩
 rw [hu3] at hv hA2
 subst hv; conv => whnf
 repeat' ((first | refine br_t rfl ?_ | refine br_f rfl ?_ | refine IdxN.lit rfl rfl ?_ | intro _); conv => whnf)
 refine ⟨⟨300, _, rfl, ?_⟩⟩
 refine AppN.to (itemsOf t ++ itemsOf u).length (by rw [hits, ht3, hu3]) ((itemsOf t).flatMap icells) ((itemsOf u).flatMap icells) (hA1.mono le_auto) (by rw [flat_len (f := icells) (n := 3) (fun _ => rfl), hil, ht3]; rfl) (hA2.mono le_auto) (by rw [flat_len (f := icells) (n := 3) (fun _ => rfl), hil2, hu3]; rfl) (allOne_items _) (by omega) (by decide) fun a ac V3 hV3 hct3 => ?_; conv => whnf
 rw [← List.flatMap_append] at hct3
 have he := he a ac V3 le_auto hct3
 repeat' ((first | refine br_t rfl ?_ | refine br_f rfl ?_ | refine IdxN.lit rfl rfl ?_ | intro _); conv => whnf)
 refine loopz (σ := Nat × Option Addr × Nat × List (List Val) × List Value)
  (fun x => [(3, .v (.slice lb L.length lc)), (4, .v (.slice rb R.length rc)), (5, .own 5 0), (10, .v (.slice none 0 0)), (11, .v (.int .i64 0)), (12, .v (.slice a (itemsOf t ++ itemsOf u).length ac)), (14, .row 103), (17, .v (.int .i64 x.1))])
  (fun x => [(5, .box b5 30 [.int .i64 skind, .string stb, .string snm, .slice s3.1 s3.2.1 s3.2.2, .slice s4.1 s4.2.1 s4.2.2, .slice s5.1 s5.2.1 s5.2.2, .slice itb itn itc, .string sjoin, .slice (some ⟨gon, 0, none⟩) 2 oc, .slice swh.1 swh.2.1 swh.2.2, .slice orb orn orc, .bool sdesc, .slice sinn.1 sinn.2.1 sinn.2.2]), (103, .row (.slice x.2.1 x.2.2.2.1.length x.2.2.1) 42 1 x.2.2.2.1.length)])
  (fun j x V' => V3.le V' ∧ x.1 ≤ L.length ∧ L.length - x.1 = j ∧ x.2.2.2.1 = joinX on (L.take x.1) R ∧ CellsAt V' x.2.2.2.1 x.2.2.2.2 ∧ V'.cells (.slice x.2.1 x.2.2.2.1.length x.2.2.1) x.2.2.2.2)
  L.length (0, none, 0, [], []) ?_ ?_ ?_ ?_
 ·repeat' (first | exact sees_nil | refine sees_cons rfl rfl rfl ?_)
 ·repeat' (first | exact keeps_nil | refine keeps_cons rfl ?_ | refine keeps_free ?_)
 ·exact ⟨View.le_refl _, Nat.zero_le _, by simp, rfl, CellsAt.nil, rfl⟩
 rintro j ⟨i, base, cp, out, cells⟩ Vt ⟨hV, hi, hj, hout, hca, hcl⟩
 simp only at hi hj hout hca hcl
 have hol : out.length ≤ i * R.length := by
  rw [hout]
  refine Nat.le_trans (joinX_len _ _) (Nat.mul_le_mul_right _ ?_)
  rw [List.length_take]; omega
 have hwi := wrap_nat (i := i) (by omega)
 conv => whnf
 apply br <;> intro g1 <;> conv => whnf
 ·have hi1 : i < L.length := by have := of_decide_eq_true g1; omega
  obtain ⟨a0, ha⟩ : ∃ a, L[i]? = some a := ⟨_, List.getElem?_eq_getElem hi1⟩
  have ham := List.mem_of_getElem? ha
  have htake : joinX on (L.take (i + 1)) R = joinX on (L.take i) R ++ (R.filter (on a0)).map (a0 ++ ·) := by
   unfold joinX
   rw [List.take_add_one, ha, List.flatMap_append]
   simp
  obtain ⟨p, off, cv, rfl, hcell, hrow⟩ := hL.at ha
  obtain ⟨ab, abc, rfl, hap, hava⟩ := hrow
  have hal := hwL a0 ham
  repeat' ((first | refine br_t rfl ?_ | refine br_f rfl ?_ | refine IdxN.lit rfl rfl ?_ | intro _); conv => whnf)
  refine loopz (σ := Nat × Option Addr × Nat × List (List Val) × List Value)
   (fun x => [(3, .v (.slice (some ⟨p, off, none⟩) L.length lc)), (4, .v (.slice rb R.length rc)), (5, .own 5 0), (10, .v (.slice none 0 0)), (11, .v (.int .i64 0)), (12, .v (.slice a (itemsOf t ++ itemsOf u).length ac)), (14, .row 103), (17, .v (.int .i64 i)), (18, .v (.int .i64 x.1))])
   (fun x => [(5, .box b5 30 [.int .i64 skind, .string stb, .string snm, .slice s3.1 s3.2.1 s3.2.2, .slice s4.1 s4.2.1 s4.2.2, .slice s5.1 s5.2.1 s5.2.2, .slice itb itn itc, .string sjoin, .slice (some ⟨gon, 0, none⟩) 2 oc, .slice swh.1 swh.2.1 swh.2.2, .slice orb orn orc, .bool sdesc, .slice sinn.1 sinn.2.1 sinn.2.2]), (103, .row (.slice x.2.1 x.2.2.2.1.length x.2.2.1) 42 1 x.2.2.2.1.length)])
   (fun j x V2 => Vt.le V2 ∧ x.1 ≤ R.length ∧ R.length - x.1 = j ∧ x.2.2.2.1 = out ++ ((R.take x.1).filter (on a0)).map (a0 ++ ·) ∧ CellsAt V2 x.2.2.2.1 x.2.2.2.2 ∧ V2.cells (.slice x.2.1 x.2.2.2.1.length x.2.2.1) x.2.2.2.2)
   R.length (0, base, cp, out, cells) ?_ ?_ ?_ ?_
  ·repeat' (first | exact sees_nil | refine sees_cons rfl rfl rfl ?_)
  ·repeat' (first | exact keeps_nil | refine keeps_cons rfl ?_ | refine keeps_free ?_)
  ·exact ⟨le_auto, Nat.zero_le _, by simp, by simp, hca.mono le_auto, hcl.mono le_auto⟩
  clear hca hcl
  rintro j2 ⟨k, base2, cp2, out2, cells2⟩ V4 ⟨hV4, hk, hj2, hout2, hca, hcl⟩
  simp only at hk hj2 hout2 hca hcl
  have hol2 : out2.length ≤ 930 := by
   rw [hout2, List.length_append]
   have h1 := pairs_len (on := on) a0 (R.take k)
   have h2 : (R.take k).length ≤ 30 := by rw [List.length_take]; omega
   have h3 : i * R.length ≤ 30 * 30 := Nat.mul_le_mul (by omega) hsR
   omega
  have hwk := wrap_nat (i := k) (by omega)
  conv => whnf
  apply br <;> intro g2 <;> conv => whnf
  ·have hk1 : k < R.length := by have := of_decide_eq_true g2; omega
   obtain ⟨b0, hb0⟩ : ∃ b, R[k]? = some b := ⟨_, List.getElem?_eq_getElem hk1⟩
   have hbm := List.mem_of_getElem? hb0
   have htk : (R.take (k + 1)).filter (on a0) = (R.take k).filter (on a0) ++ (if on a0 b0 then [b0] else []) := by
    rw [List.take_add_one, hb0, List.filter_append]
    congr 1
    show List.filter (on a0) [b0] = _
    by_cases h : on a0 b0 = true
    ·rw [if_pos h]; simp [h]
    ·rw [if_neg h]; simp [h]
   obtain ⟨p2, off2, cv2, rfl, hcell2, hrow2⟩ := hR.at hb0
   obtain ⟨bb, bbc, rfl, hbp, hbva⟩ := hrow2
   have hbl := hwR b0 hbm
   refine IdxN.of (by omega) (by omega) ?_; conv => whnf
   refine LoadN.of (hcell.mono le_auto) 0 (by show off + i * 1 = off + i + 0; omega) rfl ?_; conv => whnf
   refine IdxN.of (by omega) (by omega) ?_; conv => whnf
   refine LoadN.of (hcell2.mono le_auto) 0 (by show off2 + k * 1 = off2 + k + 0; omega) rfl ?_; conv => whnf
   repeat' ((first | refine br_t rfl ?_ | refine br_f rfl ?_ | refine IdxN.lit rfl rfl ?_ | intro _); conv => whnf)
   rename_i lb0 lk0
   refine AppN.toR a0.length (Nat.zero_add _) [] (a0.flatMap vcells) lk0.has rfl (row_news hap (hava.mono le_auto)) (flat_len (f := vcells) (n := 3) (fun _ => rfl) _) (allOne_flat a0) (by omega) (by decide) fun base' cap' V5 hV5 hc5 _ => ?_; conv => whnf
   repeat' ((first | refine br_t rfl ?_ | refine br_f rfl ?_ | refine IdxN.lit rfl rfl ?_ | intro _); conv => whnf)
   refine AppN.toR (a0.length + b0.length) rfl (a0.flatMap vcells) (b0.flatMap vcells) (hc5.mono le_auto) (flat_len (f := vcells) (n := 3) (fun _ => rfl) _) (row_news hbp (hbva.mono le_auto)) (flat_len (f := vcells) (n := 3) (fun _ => rfl) _) (allOne_flat b0) (by omega) (by decide) fun base3 cap3 V6 hV6 hc6 _ => ?_; conv => whnf
   repeat' ((first | refine br_t rfl ?_ | refine br_f rfl ?_ | refine IdxN.lit rfl rfl ?_ | intro _); conv => whnf)
   have hc6' : V6.cells (.slice base3 (a0 ++ b0).length cap3) ((a0 ++ b0).flatMap vcells) := by rw [List.length_append, List.flatMap_append]; exact hc6
   have hab : RowAt V6 (a0 ++ b0) (.slice base3 (a0.length + b0.length) cap3) := ⟨base3, cap3, by rw [List.length_append], .inr (plain_cells hc6'), ValsAt.of_cells hc6' (by rw [List.length_append]; omega)⟩
   have hlab : a0.length + b0.length = (a0 ++ b0).length := (List.length_append ..).symm
   have hf1 := hfit a0 ham b0 hbm
   have hc1 := hcmp a0 ham b0 hbm
   refine LoadN.of (hx.mono le_auto) 0 rfl rfl ?_; conv => whnf
   refine CallN.pure (he a0 ham b0 hbm _ _ le_auto (hab.mono le_auto)).1 fun v V7 _ hV7 hv => ?_
   have he2 := fun V8 h1 h2 => (he a0 ham b0 hbm _ V8 h1 (hab.mono h2)).2
   generalize ev1 (a0 ++ b0) = E1 at *
   generalize ev2 (a0 ++ b0) = E2 at *
   obtain ⟨e1, n1⟩ := E1
   obtain ⟨e2, n2⟩ := E2
   subst hv; conv => whnf
   repeat' ((first | refine br_t rfl ?_ | refine br_f rfl ?_ | refine IdxN.lit rfl rfl ?_ | intro _); conv => whnf)
   refine LoadN.of (hx.mono le_auto) 7 rfl rfl ?_; conv => whnf
   refine CallN.pure (he2 _ le_auto le_auto) fun v V8 _ hV8 hv => ?_
   subst hv; conv => whnf
   repeat' ((first | refine br_t rfl ?_ | refine br_f rfl ?_ | refine IdxN.lit rfl rfl ?_ | intro _); conv => whnf)
   refine CallN.pure (rcmpv_spec e1 e2 hf1 _) fun v V9 _ hV9 hv => ?_
   subst hv; conv => whnf
   apply br <;> intro g4 <;> conv => whnf
   ·have g4' : on a0 b0 = true := by rw [hc1]; exact decide_eq_true (by simpa using g4)
    rw [if_pos g4'] at htk
    intro b3 V10 hV10 h6
    conv => whnf
    refine AppN.to (out2 ++ [a0 ++ b0]).length (by simp) cells2 [.slice base3 (a0.length + b0.length) cap3] (hcl.mono le_auto) (by rw [hca.len]; exact (Nat.mul_one _).symm) h6 rfl rfl (by simp only [List.length_append, List.length_cons, List.length_nil]; omega) (by decide) fun base' cap' V11 hV11 hc11 => ?_; conv => whnf
    refine ⟨j2 - 1, (k + 1, base', cap', out2 ++ [a0 ++ b0], cells2 ++ [.slice base3 (a0.length + b0.length) cap3]), by omega, ?_, ?_, ?_⟩
    ·repeat' (first | exact sees_nil | refine sees_cons rfl rfl rfl ?_ | refine sees_cons rfl rfl (by rw [← hwk]; rfl) ?_)
    ·repeat' (first | exact keeps_nil | refine keeps_cons rfl ?_ | refine keeps_free ?_)
    ·refine ⟨View.le_trans hV4 le_auto, hk1, by show _ - (k + 1) = _; omega, ?_, (hca.mono le_auto).snoc (hab.mono le_auto), hc11⟩
     show out2 ++ [a0 ++ b0] = _
     rw [htk, List.map_append, ← List.append_assoc, ← hout2]; rfl
   ·have g4' : on a0 b0 = false := by rw [hc1]; exact decide_eq_false (by simpa using g4)
    rw [if_neg (by rw [g4']; simp), List.append_nil] at htk
    repeat' ((first | refine br_t rfl ?_ | refine br_f rfl ?_ | refine IdxN.lit rfl rfl ?_ | intro _); conv => whnf)
    refine ⟨j2 - 1, (k + 1, base2, cp2, out2, cells2), by omega, ?_, ?_, ?_⟩
    ·repeat' (first | exact sees_nil | refine sees_cons rfl rfl rfl ?_ | refine sees_cons rfl rfl (by rw [← hwk]; rfl) ?_)
    ·repeat' (first | exact keeps_nil | refine keeps_cons rfl ?_ | refine keeps_free ?_)
    ·exact ⟨View.le_trans hV4 le_auto, hk1, by show _ - (k + 1) = _; omega, by show out2 = _; rw [htk]; exact hout2, hca.mono le_auto, hcl.mono le_auto⟩
  ·have hk1 : ¬ k < R.length := by have := of_decide_eq_false g2; omega
   rw [List.take_of_length_le (by omega)] at hout2
   repeat' ((first | refine br_t rfl ?_ | refine br_f rfl ?_ | refine IdxN.lit rfl rfl ?_ | intro _); conv => whnf)
   refine ⟨j - 1, (i + 1, base2, cp2, out2, cells2), by omega, ?_, ?_, ?_⟩
   ·repeat' (first | exact sees_nil | refine sees_cons rfl rfl rfl ?_ | refine sees_cons rfl rfl (by rw [← hwi]; rfl) ?_)
   ·repeat' (first | exact keeps_nil | refine keeps_cons rfl ?_ | refine keeps_free ?_)
   ·exact ⟨View.le_trans hV hV4, hi1, by show _ - (i + 1) = _; omega, by show out2 = _; rw [hout2, htake, hout], hca, hcl⟩
 ·have hi1 : ¬ i < L.length := by have := of_decide_eq_false g1; omega
  rw [List.take_of_length_le (by omega)] at hout
  have hjl := joinX_len (on := on) L R
  have hjl2 : L.length * R.length ≤ 30 * 30 := Nat.mul_le_mul hsL hsR
  subst hout
  have hrt : RowsAt Vt (joinX on L R) base := RowsAt.of_cells hca hcl (by omega)
  have hct : Vt.cells (.slice a (itemsOf t ++ itemsOf u).length ac) ((itemsOf t ++ itemsOf u).flatMap icells) := hct3.mono hV
  clear hca hcl hcmp hfit he hx hjl hjl2 hol hC1 hC2 hct3 hits hA1 hA2
  generalize joinX on L R = rows at *
  generalize itemsOf t ++ itemsOf u = its at *
  clear hwi hi hj
  repeat' ((first | refine br_t rfl ?_ | refine br_f rfl ?_ | refine IdxN.lit rfl rfl ?_ | intro _); conv => whnf)
  obtain ⟨hin, hx, hxl, hag, hpl, hod, hoa, his, hne, hs, hir, hw, htd, htx, hh⟩ := H
  simp only at hin hx hh hod
  subst hin
  obtain ⟨p9, o9, hb9, hct9⟩ := cells_some hct (fun e => hne (List.eq_nil_of_length_eq_zero (by have := congrArg List.length e; rw [flat_len (f := icells) (n := 3) (fun _ => rfl)] at this; simp only [List.length_nil] at this; omega)))
  subst hb9
  refine loopz (σ := Nat × Option Addr × Nat × List (List Val) × List Value)
   (fun x => [(5, .own 5 0), (10, .v (.slice none 0 0)), (11, .v (.int .i64 0)), (12, .v (.slice (some ⟨p9, o9, none⟩) its.length ac)), (14, .v (.slice base rows.length cp)), (24, .row 131), (25, .v (.int .i64 x.1))])
   (fun x => [(5, .box b5 30 [.int .i64 skind, .string stb, .string snm, .slice s3.1 s3.2.1 s3.2.2, .slice s4.1 s4.2.1 s4.2.2, .slice s5.1 s5.2.1 s5.2.2, .slice itb l.length itc, .string sjoin, .slice (some ⟨gon, 0, none⟩) 2 oc, .slice swh.1 swh.2.1 swh.2.2, .slice orb orn orc, .bool sdesc, .slice sinn.1 sinn.2.1 sinn.2.2]),
    (131, .row (.slice x.2.1 x.2.2.2.1.length x.2.2.1) 42 1 x.2.2.2.1.length)])
   (fun j x V' => Vt.le V' ∧ x.1 ≤ rows.length ∧ rows.length - x.1 = j ∧ x.2.2.2.1.length ≤ x.1 ∧ CellsAt V' x.2.2.2.1 x.2.2.2.2 ∧ V'.cells (.slice x.2.1 x.2.2.2.1.length x.2.2.1) x.2.2.2.2 ∧
    whereX hold rows = (if (whereX hold (rows.drop x.1)).2 = 0 then (x.2.2.2.1 ++ (whereX hold (rows.drop x.1)).1, 0) else ((whereX hold rows).1, (whereX hold (rows.drop x.1)).2)))
   rows.length (0, none, 0, [], []) ?_ ?_ ?_ ?_
  ·repeat' (first | exact sees_nil | refine sees_cons rfl rfl rfl ?_)
  ·repeat' (first | exact keeps_nil | refine keeps_cons rfl ?_ | refine keeps_free ?_)
  ·refine ⟨le_auto, Nat.zero_le _, by simp, Nat.le_refl _, CellsAt.nil, rfl, ?_⟩
   simp only [List.drop_zero, List.nil_append]
   split
   ·rename_i h0; rw [← h0]
   ·rfl
  rintro j ⟨i, base, cp, out, cells⟩ V' ⟨hV, hi, hj, hl, hca, hcl, hwx⟩
  simp only at hi hj hl hca hcl hwx
  have hwi := wrap_nat (i := i) (by omega)
  conv => whnf
  apply br <;> intro h3 <;> conv => whnf
  ·have hi1 : i < rows.length := by have := of_decide_eq_true h3; omega
   obtain ⟨r, hr1⟩ : ∃ r, rows[i]? = some r := ⟨_, List.getElem?_eq_getElem hi1⟩
   have hdrop : rows.drop i = r :: rows.drop (i + 1) := by
    rw [List.drop_eq_getElem_cons hi1]
    have e1 : rows[i] = r := by rw [List.getElem?_eq_getElem hi1] at hr1; exact Option.some.inj hr1
    rw [e1]
   rw [hdrop, whereX] at hwx
   obtain ⟨p, off, c, hrb, hcell, hrow⟩ := hrt.at hr1
   subst hrb
   obtain ⟨rbase, rcap, hrv⟩ := row_shape hrow
   subst hrv
   refine IdxN.of (by omega) (by omega) ?_; conv => whnf
   refine LoadN.of (hcell.mono le_auto) 0 (by show off + i * 1 = off + i + 0; omega) rfl ?_; conv => whnf
   repeat' ((first | refine br_t rfl ?_ | refine br_f rfl ?_ | refine IdxN.lit rfl rfl ?_ | intro _); conv => whnf)
   refine CallN.pure (hh _ _ Vt le_auto hct r (List.mem_of_getElem? hr1) (.slice rbase r.length rcap) _ le_auto (hrow.mono le_auto)) fun v V2 _ hV2 hv => ?_
   subst hv
   refine Prot.refl ?_; conv => whnf
   repeat' ((first | refine br_t rfl ?_ | refine br_f rfl ?_ | refine IdxN.lit rfl rfl ?_ | intro _); conv => whnf)
   apply br <;> intro h4 <;> conv => whnf
   ·have h4 : (hold r).2 ≠ 0 := by simpa using h4
    rw [if_pos h4] at hwx
    simp only [if_neg h4] at hwx
    have hw2 : (whereX hold rows).2 = (hold r).2 := congrArg Prod.snd hwx
    repeat' ((first | refine br_t rfl ?_ | refine br_f rfl ?_ | refine IdxN.lit rfl rfl ?_ | intro _); conv => whnf)
    refine ret_pure ⟨.slice none 0 0, ?_⟩
    unfold selX
    rw [if_pos (by rw [hw2]; exact h4), hw2]
    exact ⟨rfl, fun h => absurd h h4, fun _ => rfl⟩
   ·have h4 : (hold r).2 = 0 := by simpa using h4
    rw [if_neg (show ¬ (hold r).2 ≠ 0 from fun h => h h4)] at hwx
    apply br <;> intro h5 <;> conv => whnf
    ·rw [if_pos h5] at hwx
     repeat' ((first | refine br_t rfl ?_ | refine br_f rfl ?_ | refine IdxN.lit rfl rfl ?_ | intro _); conv => whnf)
     refine IdxN.of (by omega) (by omega) ?_; conv => whnf
     refine LoadN.of (hcell.mono le_auto) 0 (by show off + i * 1 = off + i + 0; omega) rfl ?_; conv => whnf
     intro b3 V3 hV3 h6
     conv => whnf
     refine AppN.to (out ++ [r]).length (by simp) cells [.slice rbase r.length rcap] (hcl.mono le_auto) (by rw [hca.len]; exact (Nat.mul_one _).symm) h6 rfl rfl (by simp only [List.length_append, List.length_cons, List.length_nil]; omega) (by decide) fun base' cap' V4 hV4 hc4 => ?_; conv => whnf
     refine ⟨j - 1, (i + 1, base', cap', out ++ [r], cells ++ [.slice rbase r.length rcap]), by omega, ?_, ?_, ?_⟩
     ·repeat' (first | exact sees_nil | refine sees_cons rfl rfl rfl ?_ | refine sees_cons rfl rfl (by rw [← hwi]; rfl) ?_)
     ·repeat' (first | exact keeps_nil | refine keeps_cons rfl ?_ | refine keeps_free ?_)
     ·refine ⟨View.le_trans hV le_auto, hi1, by show _ - (i + 1) = _; omega, by show (out ++ [r]).length ≤ i + 1; simp only [List.length_append, List.length_cons, List.length_nil]; omega, (hca.mono le_auto).snoc (hrow.mono le_auto), hc4, ?_⟩
      show _ = if _ then ((out ++ [r]) ++ _, (0 : Int)) else _
      rw [List.append_assoc]; exact hwx
    ·rw [if_neg (show ¬ (hold r).1 = true from by rw [h5]; simp)] at hwx
     repeat' ((first | refine br_t rfl ?_ | refine br_f rfl ?_ | refine IdxN.lit rfl rfl ?_ | intro _); conv => whnf)
     refine ⟨j - 1, (i + 1, base, cp, out, cells), by omega, ?_, ?_, ?_⟩
     ·repeat' (first | exact sees_nil | refine sees_cons rfl rfl rfl ?_ | refine sees_cons rfl rfl (by rw [← hwi]; rfl) ?_)
     ·repeat' (first | exact keeps_nil | refine keeps_cons rfl ?_ | refine keeps_free ?_)
     ·exact ⟨View.le_trans hV hV2, hi1, by show _ - (i + 1) = _; omega, by show out.length ≤ i + 1; omega, hca.mono hV2, hcl.mono hV2, hwx⟩
  ·have hi1 : ¬ i < rows.length := by have := of_decide_eq_false h3; omega
   rw [List.drop_eq_nil_of_le (by omega)] at hwx
   have hwx : whereX hold rows = (out, 0) := by
    rw [hwx]; simp [whereX]
   have hsub : ∀ r ∈ out, r ∈ rows := fun r h => whereX_mem hold (by rw [hwx]; exact h)
   have hsl : out.length ≤ 1000 := by omega
   have hro : RowsAt V' out base := RowsAt.of_cells hca hcl (by omega)
   unfold selX
   rw [hwx]
   simp only [ne_eq, not_true_eq_false, if_false]
   clear hwx hwi hi hj h3 hl
   rcases l with _ | ⟨x0, xs⟩
   ·refine br_f rfl ?_; conv => whnf
    repeat' ((first | refine br_t rfl ?_ | refine br_f rfl ?_ | refine IdxN.lit rfl rfl ?_ | intro _); conv => whnf)
    rw [if_neg (by simp [foldsL])]
    rcases hod with ⟨hod, rfl⟩ | ⟨g, tb, nm, hod, hg0, rfl⟩
    ·have hod : orn = 0 := hod
     subst hod
     refine br_f rfl ?_; conv => whnf
     repeat' ((first | refine br_t rfl ?_ | refine br_f rfl ?_ | refine IdxN.lit rfl rfl ?_ | intro _); conv => whnf)
     have hSl := hsl
     have hSw : ∀ r ∈ out, r.length = its.length := fun r h => hw r (hsub r h)
     unfold orderX
     simp only
     clear hca hcl
     refine loopz (σ := Nat × Option Addr × Nat × List Value)
      (fun x => [(5, .own 5 0), (24, .v (.slice base (out).length cp)), (30, .row 226), (31, .v (.int .i64 x.1))])
      (fun x => [(5, .box b5 30 [.int .i64 skind, .string stb, .string snm, .slice s3.1 s3.2.1 s3.2.2, .slice s4.1 s4.2.1 s4.2.2, .slice s5.1 s5.2.1 s5.2.2, .slice itb ([] : List Item).length itc, .string sjoin, .slice (some ⟨gon, 0, none⟩) 2 oc, .slice swh.1 swh.2.1 swh.2.2, .slice orb 0 orc, .bool sdesc, .slice sinn.1 sinn.2.1 sinn.2.2]), (226, .row (.slice x.2.1 x.1 x.2.2.1) 42 1 x.1)])
      (fun j x V2 => (V').le V2 ∧ x.1 ≤ (out).length ∧ (out).length - x.1 = j ∧ CellsAt V2 (((out).take x.1).map (pkX its [])) x.2.2.2 ∧ V2.cells (.slice x.2.1 x.1 x.2.2.1) x.2.2.2)
      (out).length (0, none, 0, []) ?_ ?_ ?_ ?_
     ·repeat' (first | exact sees_nil | refine sees_cons rfl rfl rfl ?_)
     ·repeat' (first | exact keeps_nil | refine keeps_cons rfl ?_ | refine keeps_free ?_)
     ·exact ⟨le_auto, Nat.zero_le _, by simp, CellsAt.nil, rfl⟩
     rintro j ⟨i, b2, c2, cl2⟩ V2 ⟨hV2, hi, hj, hca2, hcl2⟩
     simp only at hi hj hca2 hcl2
     have hwi := wrap_nat (i := i) (by omega)
     have hcll : cl2.length = i := by
      have := hca2.len
      rw [List.length_map, List.length_take] at this; omega
     conv => whnf
     apply br <;> intro g6 <;> conv => whnf
     ·have hi1 : i < (out).length := by have := of_decide_eq_true g6; omega
      obtain ⟨r, hr1⟩ : ∃ r, (out)[i]? = some r := ⟨_, List.getElem?_eq_getElem hi1⟩
      have hrl : r.length ≤ 1000 := by rw [hSw r (List.mem_of_getElem? hr1)]; exact his
      obtain ⟨p, off, c, hrb, hcell, hrow⟩ := (hro).at hr1
      subst hrb
      obtain ⟨rbase, rcap, hrv, hrp, hrva⟩ := hrow
      subst hrv
      intro lb Vl hVl hln
      conv => whnf
      refine IdxN.of (by omega) (by omega) ?_; conv => whnf
      refine LoadN.of (hcell.mono le_auto) 0 (by show off + i * 1 = off + i + 0; omega) rfl ?_; conv => whnf
      refine AppN.toR r.length (Nat.zero_add _) [] (r.flatMap vcells) hln rfl (row_news hrp (hrva.mono le_auto)) (flat_len (f := vcells) (n := 3) (fun _ => rfl) r) (allOne_flat r) (by omega) (by decide) fun base' cap' V4 hV4 hc4 _ => ?_; conv => whnf
      refine br_f rfl ?_; conv => whnf
      intro l3 V5 hV5 h5
      conv => whnf
      refine AppN.to (i + 1) rfl cl2 [.slice base' (r).length cap'] (hcl2.mono le_auto) (by rw [hcll]; exact (Nat.mul_one _).symm) h5 rfl rfl (by omega) (by decide) fun b3 c3 V6 hV6 hc6 => ?_; conv => whnf
      repeat' ((first | refine br_t rfl ?_ | refine br_f rfl ?_ | refine IdxN.lit rfl rfl ?_ | intro _); conv => whnf)
      have hrow6 : RowAt V6 (r) (.slice base' (r).length cap') := ⟨base', cap', rfl, .inr (plain_cells (hc4)), ValsAt.of_cells ((hc4).mono le_auto) (by omega)⟩
      refine ⟨j - 1, (i + 1, b3, c3, cl2 ++ [.slice base' (r).length cap']), by omega, ?_, ?_, View.le_trans hV2 le_auto, hi1, by show _ - (i + 1) = _; omega, ?_, hc6⟩
      ·repeat' (first | exact sees_nil | refine sees_cons rfl rfl rfl ?_ | refine sees_cons rfl rfl (by rw [← hwi]; rfl) ?_)
      ·repeat' (first | exact keeps_nil | refine keeps_cons rfl ?_ | refine keeps_free ?_)
      ·show CellsAt V6 (((out).take (i + 1)).map (pkX its ([]))) _
       rw [List.take_add_one, hr1, List.map_append]
       exact (hca2.mono le_auto).snoc hrow6
     ·have hi1 : ¬ i < (out).length := by have := of_decide_eq_false g6; omega
      have hie : i = (out).length := by omega
      rw [List.take_of_length_le (by omega), ← ofX_map] at hca2
      have hol : (ofX its ([]) (out)).length = i := by rw [ofX_map, List.length_map]; exact hie.symm
      repeat' ((first | refine br_t rfl ?_ | refine br_f rfl ?_ | refine IdxN.lit rfl rfl ?_ | intro _); conv => whnf)
      exact ret_pure ⟨_, rfl, fun _ => ⟨b2, c2, by rw [hol], plain_cells hcl2, RowsAt.of_cells hca2 hcl2 (by omega)⟩, fun h => (by simp at h)⟩
    ·simp only [Prod.mk.injEq] at hod
     obtain ⟨rfl, rfl, rfl⟩ := hod
     have hat := hoa tb nm rfl
     obtain ⟨k, hpk, hak, hkl⟩ := place_at hat
     refine br_t rfl ?_; conv => whnf
     repeat' ((first | refine br_t rfl ?_ | refine br_f rfl ?_ | refine IdxN.lit rfl rfl ?_ | intro _); conv => whnf)
     refine LoadN.of (hg0.mono le_auto) 0 rfl rfl ?_; conv => whnf
     refine CallN.pure (at_spec its its.length p9 ac o9 (colN tb nm) _ ((show Vt.has p9 o9 _ from hct9).mono le_auto) (by omega) (by omega)) fun v V1 _ hV1 hv => ?_
     subst hv
     simp only [List.take_length]
     rw [show (colN tb nm).tb = tb from rfl, show (colN tb nm).nm = nm from rfl, hak]
     conv => whnf
     repeat' ((first | refine br_t rfl ?_ | refine br_f rfl ?_ | refine IdxN.lit rfl rfl ?_ | intro _); conv => whnf)
     refine CallN.pure (rsort_spec out base cp (k : Int) sdesc _ (hro.mono le_auto) hsl (fun r h => by rw [hw r (hsub r h)]; exact his) ⟨by omega, by omega⟩ (fun r hr s hs => tidy_cmp (key_tid htd hsub hs) (key_tid htd hsub hr)) (fun r h => htx r (hsub r h))) fun v Vs _ hVs hv => ?_
     unfold orderX
     simp only
     rw [hpk]
     have hSl : (sortX (k : Int) sdesc out).length ≤ 1000 := by rw [sortX_len]; exact hsl
     have hSw : ∀ r ∈ sortX (k : Int) sdesc out, r.length = its.length := fun r h => hw r (hsub r (sortX_mem h))
     obtain ⟨b6, p6, rfl, _, hr6⟩ := hv
     generalize sortX (k : Int) sdesc out = S at *
     clear hca hcl
     conv => whnf
     repeat' ((first | refine br_t rfl ?_ | refine br_f rfl ?_ | refine IdxN.lit rfl rfl ?_ | intro _); conv => whnf)
     refine loopz (σ := Nat × Option Addr × Nat × List Value)
      (fun x => [(5, .own 5 0), (24, .v (.slice b6 (S).length p6)), (30, .row 226), (31, .v (.int .i64 x.1))])
      (fun x => [(5, .box b5 30 [.int .i64 skind, .string stb, .string snm, .slice s3.1 s3.2.1 s3.2.2, .slice s4.1 s4.2.1 s4.2.2, .slice s5.1 s5.2.1 s5.2.2, .slice itb ([] : List Item).length itc, .string sjoin, .slice (some ⟨gon, 0, none⟩) 2 oc, .slice swh.1 swh.2.1 swh.2.2, .slice (some ⟨g, 0, none⟩) 1 1, .bool sdesc, .slice sinn.1 sinn.2.1 sinn.2.2]), (226, .row (.slice x.2.1 x.1 x.2.2.1) 42 1 x.1)])
      (fun j x V2 => (Vs).le V2 ∧ x.1 ≤ (S).length ∧ (S).length - x.1 = j ∧ CellsAt V2 (((S).take x.1).map (pkX its [])) x.2.2.2 ∧ V2.cells (.slice x.2.1 x.1 x.2.2.1) x.2.2.2)
      (S).length (0, none, 0, []) ?_ ?_ ?_ ?_
     ·repeat' (first | exact sees_nil | refine sees_cons rfl rfl rfl ?_)
     ·repeat' (first | exact keeps_nil | refine keeps_cons rfl ?_ | refine keeps_free ?_)
     ·exact ⟨le_auto, Nat.zero_le _, by simp, CellsAt.nil, rfl⟩
     rintro j ⟨i, b2, c2, cl2⟩ V2 ⟨hV2, hi, hj, hca2, hcl2⟩
     simp only at hi hj hca2 hcl2
     have hwi := wrap_nat (i := i) (by omega)
     have hcll : cl2.length = i := by
      have := hca2.len
      rw [List.length_map, List.length_take] at this; omega
     conv => whnf
     apply br <;> intro g6 <;> conv => whnf
     ·have hi1 : i < (S).length := by have := of_decide_eq_true g6; omega
      obtain ⟨r, hr1⟩ : ∃ r, (S)[i]? = some r := ⟨_, List.getElem?_eq_getElem hi1⟩
      have hrl : r.length ≤ 1000 := by rw [hSw r (List.mem_of_getElem? hr1)]; exact his
      obtain ⟨p, off, c, hrb, hcell, hrow⟩ := (hr6).at hr1
      subst hrb
      obtain ⟨rbase, rcap, hrv, hrp, hrva⟩ := hrow
      subst hrv
      intro lb Vl hVl hln
      conv => whnf
      refine IdxN.of (by omega) (by omega) ?_; conv => whnf
      refine LoadN.of (hcell.mono le_auto) 0 (by show off + i * 1 = off + i + 0; omega) rfl ?_; conv => whnf
      refine AppN.toR r.length (Nat.zero_add _) [] (r.flatMap vcells) hln rfl (row_news hrp (hrva.mono le_auto)) (flat_len (f := vcells) (n := 3) (fun _ => rfl) r) (allOne_flat r) (by omega) (by decide) fun base' cap' V4 hV4 hc4 _ => ?_; conv => whnf
      refine br_f rfl ?_; conv => whnf
      intro l3 V5 hV5 h5
      conv => whnf
      refine AppN.to (i + 1) rfl cl2 [.slice base' (r).length cap'] (hcl2.mono le_auto) (by rw [hcll]; exact (Nat.mul_one _).symm) h5 rfl rfl (by omega) (by decide) fun b3 c3 V6 hV6 hc6 => ?_; conv => whnf
      repeat' ((first | refine br_t rfl ?_ | refine br_f rfl ?_ | refine IdxN.lit rfl rfl ?_ | intro _); conv => whnf)
      have hrow6 : RowAt V6 (r) (.slice base' (r).length cap') := ⟨base', cap', rfl, .inr (plain_cells (hc4)), ValsAt.of_cells ((hc4).mono le_auto) (by omega)⟩
      refine ⟨j - 1, (i + 1, b3, c3, cl2 ++ [.slice base' (r).length cap']), by omega, ?_, ?_, View.le_trans hV2 le_auto, hi1, by show _ - (i + 1) = _; omega, ?_, hc6⟩
      ·repeat' (first | exact sees_nil | refine sees_cons rfl rfl rfl ?_ | refine sees_cons rfl rfl (by rw [← hwi]; rfl) ?_)
      ·repeat' (first | exact keeps_nil | refine keeps_cons rfl ?_ | refine keeps_free ?_)
      ·show CellsAt V6 (((S).take (i + 1)).map (pkX its ([]))) _
       rw [List.take_add_one, hr1, List.map_append]
       exact (hca2.mono le_auto).snoc hrow6
     ·have hi1 : ¬ i < (S).length := by have := of_decide_eq_false g6; omega
      have hie : i = (S).length := by omega
      rw [List.take_of_length_le (by omega), ← ofX_map] at hca2
      have hol : (ofX its ([]) (S)).length = i := by rw [ofX_map, List.length_map]; exact hie.symm
      repeat' ((first | refine br_t rfl ?_ | refine br_f rfl ?_ | refine IdxN.lit rfl rfl ?_ | intro _); conv => whnf)
      exact ret_pure ⟨_, rfl, fun _ => ⟨b2, c2, by rw [hol], plain_cells hcl2, RowsAt.of_cells hca2 hcl2 (by omega)⟩, fun h => (by simp at h)⟩
   ·obtain ⟨ib, io, hib, hxx⟩ := cells_some hx (by intro h; cases h)
    subst hib
    have hx0 := has_flat (n := 3) (fun _ => rfl) (x0 :: xs) io hxx 0 x0 rfl
    have hpos : decide ((((x0 :: xs).length : Nat) : Int) > 0) = true := decide_eq_true (by simp only [List.length_cons]; omega)
    refine br_t hpos ?_; conv => whnf
    refine IdxN.of (by omega) (by simp only [List.length_cons]; omega) ?_; conv => whnf
    refine LoadN.of (hx0.mono le_auto) 0 rfl rfl ?_; conv => whnf
    repeat (refine br_t hpos ?_; conv => whnf)
    by_cases hg : x0.agg = 0
    ·repeat (first | (refine br_t hpos ?_; conv => whnf) | (refine br_f (by simpa using hg) ?_; conv => whnf))
     repeat' ((first | refine br_t rfl ?_ | refine br_f rfl ?_ | refine IdxN.lit rfl rfl ?_ | intro _); conv => whnf)
     have hfl : foldsL (x0 :: xs) = false := by simp [foldsL, hg]
     rw [if_neg (by rw [hfl]; simp)]
     have hpl := hpl hfl
     rcases hod with ⟨hod, rfl⟩ | ⟨g, tb, nm, hod, hg0, rfl⟩
     ·have hod : orn = 0 := hod
      subst hod
      refine br_f rfl ?_; conv => whnf
      repeat' ((first | refine br_t rfl ?_ | refine br_f rfl ?_ | refine IdxN.lit rfl rfl ?_ | intro _); conv => whnf)
      have hSl := hsl
      have hSw : ∀ r ∈ out, r.length = its.length := fun r h => hw r (hsub r h)
      unfold orderX
      simp only
      clear hca hcl
      refine loopz (σ := Nat × Option Addr × Nat × List Value)
       (fun x => [(5, .own 5 0), (12, .v (.slice (some ⟨p9, o9, none⟩) its.length ac)), (24, .v (.slice base (out).length cp)), (30, .row 226), (31, .v (.int .i64 x.1))])
       (fun x => [(5, .box b5 30 [.int .i64 skind, .string stb, .string snm, .slice s3.1 s3.2.1 s3.2.2, .slice s4.1 s4.2.1 s4.2.2, .slice s5.1 s5.2.1 s5.2.2, .slice (some ⟨ib, io, none⟩) (x0 :: xs).length itc, .string sjoin, .slice (some ⟨gon, 0, none⟩) 2 oc, .slice swh.1 swh.2.1 swh.2.2, .slice orb 0 orc, .bool sdesc, .slice sinn.1 sinn.2.1 sinn.2.2]), (226, .row (.slice x.2.1 x.1 x.2.2.1) 42 1 x.1)])
       (fun j x V2 => (V').le V2 ∧ x.1 ≤ (out).length ∧ (out).length - x.1 = j ∧ CellsAt V2 (((out).take x.1).map (pkX its (x0 :: xs))) x.2.2.2 ∧ V2.cells (.slice x.2.1 x.1 x.2.2.1) x.2.2.2)
       (out).length (0, none, 0, []) ?_ ?_ ?_ ?_
      ·repeat' (first | exact sees_nil | refine sees_cons rfl rfl rfl ?_)
      ·repeat' (first | exact keeps_nil | refine keeps_cons rfl ?_ | refine keeps_free ?_)
      ·exact ⟨le_auto, Nat.zero_le _, by simp, CellsAt.nil, rfl⟩
      rintro j ⟨i, b2, c2, cl2⟩ V2 ⟨hV2, hi, hj, hca2, hcl2⟩
      simp only at hi hj hca2 hcl2
      have hwi := wrap_nat (i := i) (by omega)
      have hcll : cl2.length = i := by
       have := hca2.len
       rw [List.length_map, List.length_take] at this; omega
      conv => whnf
      apply br <;> intro g6 <;> conv => whnf
      ·have hi1 : i < (out).length := by have := of_decide_eq_true g6; omega
       obtain ⟨r, hr1⟩ : ∃ r, (out)[i]? = some r := ⟨_, List.getElem?_eq_getElem hi1⟩
       have hrl : r.length ≤ 1000 := by rw [hSw r (List.mem_of_getElem? hr1)]; exact his
       obtain ⟨p, off, c, hrb, hcell, hrow⟩ := (hro).at hr1
       subst hrb
       obtain ⟨rbase, rcap, hrv, hrp, hrva⟩ := hrow
       subst hrv
       intro lb Vl hVl hln
       conv => whnf
       refine IdxN.of (by omega) (by omega) ?_; conv => whnf
       refine LoadN.of (hcell.mono le_auto) 0 (by show off + i * 1 = off + i + 0; omega) rfl ?_; conv => whnf
       refine AppN.toR r.length (Nat.zero_add _) [] (r.flatMap vcells) hln rfl (row_news hrp (hrva.mono le_auto)) (flat_len (f := vcells) (n := 3) (fun _ => rfl) r) (allOne_flat r) (by omega) (by decide) fun base' cap' V4 hV4 hc4 _ => ?_; conv => whnf
       repeat (refine br_t hpos ?_; conv => whnf)
       repeat' ((first | refine br_t rfl ?_ | refine br_f rfl ?_ | refine IdxN.lit rfl rfl ?_ | intro _); conv => whnf)
       refine loopz (σ := Nat × Option Addr × Nat × List Val)
        (fun z => [(5, .own 5 0), (12, .v (.slice (some ⟨p9, o9, none⟩) its.length ac)), (24, .v (.slice (some ⟨p, off, none⟩) (out).length cp)), (30, .row 226), (31, .v (.int .i64 i)), (32, .row 222), (33, .v (.int .i64 z.1))])
        (fun z => [(5, .box b5 30 [.int .i64 skind, .string stb, .string snm, .slice s3.1 s3.2.1 s3.2.2, .slice s4.1 s4.2.1 s4.2.2, .slice s5.1 s5.2.1 s5.2.2, .slice (some ⟨ib, io, none⟩) (x0 :: xs).length itc, .string sjoin, .slice (some ⟨gon, 0, none⟩) 2 oc, .slice swh.1 swh.2.1 swh.2.2, .slice orb 0 orc, .bool sdesc, .slice sinn.1 sinn.2.1 sinn.2.2]), (226, .row (.slice b2 i c2) 42 1 i), (222, .row (.slice z.2.1 z.2.2.2.length z.2.2.1) 44 3 z.2.2.2.length)])
        (fun j z Vx => V4.le Vx ∧ z.1 ≤ (x0 :: xs).length ∧ (x0 :: xs).length - z.1 = j ∧ z.2.2.2 = pickX its r ((x0 :: xs).take z.1) ∧ z.2.2.2.length ≤ z.1 ∧ Vx.cells (.slice z.2.1 z.2.2.2.length z.2.2.1) (z.2.2.2.flatMap vcells))
        (x0 :: xs).length (0, none, 0, []) ?_ ?_ ?_ ?_
       ·repeat' (first | exact sees_nil | refine sees_cons rfl rfl rfl ?_)
       ·repeat' (first | exact keeps_nil | refine keeps_cons rfl ?_ | refine keeps_free ?_)
       ·exact ⟨le_auto, Nat.zero_le _, by simp, rfl, Nat.le_refl _, rfl⟩
       rintro j2 ⟨k7, xb, xc, acc⟩ Vx ⟨hVx, hk, hj2, hacc, hal, hacl⟩
       simp only at hk hj2 hacc hal hacl
       have hwk := wrap_nat (i := k7) (by omega)
       conv => whnf
       apply br <;> intro g7 <;> conv => whnf
       ·have hk1 : k7 < (x0 :: xs).length := by have := of_decide_eq_true g7; omega
        obtain ⟨x, hxk⟩ : ∃ x, (x0 :: xs)[k7]? = some x := ⟨_, List.getElem?_eq_getElem hk1⟩
        have htk : pickX its r ((x0 :: xs).take (k7 + 1)) = acc ++ oneP its r x := by
         unfold pickX at hacc ⊢
         rw [List.take_add_one, hxk, List.flatMap_append, ← hacc]; simp
        have hxc := has_flat (n := 3) (fun _ => rfl) (x0 :: xs) io hxx k7 x hxk
        obtain ⟨kk, hpk, hak, hkl⟩ := place_at (hpl x (List.mem_of_getElem? hxk))
        have hrlen := hSw r (List.mem_of_getElem? hr1)
        obtain ⟨u, hu⟩ : ∃ u, r[kk]? = some u := ⟨_, List.getElem?_eq_getElem (by omega)⟩
        rw [oneP_at hpk hu] at htk
        obtain ⟨q, off2, hb2, hval⟩ := hrva.at hu
        subst hb2
        obtain ⟨xa, xtb, xnm⟩ := x
        simp only at hak hpk
        refine IdxN.of (by omega) (by omega) ?_; conv => whnf
        refine LoadN.of (hxc.mono le_auto) 1 rfl rfl ?_; conv => whnf
        refine IdxN.of (by omega) (by omega) ?_; conv => whnf
        refine LoadN.of (hxc.mono le_auto) 2 rfl rfl ?_; conv => whnf
        repeat' ((first | refine br_t rfl ?_ | refine br_f rfl ?_ | refine IdxN.lit rfl rfl ?_ | intro _); conv => whnf)
        refine CallN.pure (at_spec its its.length p9 ac o9 ⟨0, v0, xtb, xnm, none, 0, 0⟩ _ ((show Vt.has p9 o9 _ from hct9).mono le_auto) (by omega) (by omega)) fun v V7 _ hV7 hv => ?_
        subst hv
        simp only [List.take_length]
        rw [hak]
        refine Prot.refl ?_; conv => whnf
        repeat' ((first | refine br_t rfl ?_ | refine br_f rfl ?_ | refine IdxN.lit rfl rfl ?_ | intro _); conv => whnf)
        refine IdxN.of (by omega) (by omega) ?_; conv => whnf
        refine LoadN.of (hcell.mono le_auto) 0 (by show off + i * 1 = off + i + 0; omega) rfl ?_; conv => whnf
        refine IdxN.of (by omega) (by omega) ?_; conv => whnf
        refine LoadN.of (hval.mono le_auto) 0 rfl rfl ?_; conv => whnf
        intro l8 V8 hV8 hln8
        conv => whnf
        refine AppN.to (acc.length + 1) rfl (acc.flatMap vcells) (vcells u) (hacl.mono le_auto) (by rw [flat_len (f := vcells) (n := 3) (fun _ => rfl)]; rfl) hln8 rfl rfl (by omega) (by decide) fun base' cap' Vm hVm hcm => ?_; conv => whnf
        have hcm : Vm.cells (.slice base' (acc ++ [u]).length cap') ((acc ++ [u]).flatMap vcells) := by
         rw [List.flatMap_append, List.length_append]
         simpa using hcm
        refine ⟨j2 - 1, (k7 + 1, base', cap', acc ++ [u]), by omega, ?_, ?_, View.le_trans hVx le_auto, hk1, by show _ - (k7 + 1) = _; omega, htk.symm, by show (acc ++ [u]).length ≤ k7 + 1; simp only [List.length_append, List.length_cons, List.length_nil]; omega, hcm⟩
        ·repeat' (first | exact sees_nil | refine sees_cons rfl rfl (by simp only [List.length_append, List.length_cons, List.length_nil]; rfl) ?_ | refine sees_cons rfl rfl rfl ?_ | refine sees_cons rfl rfl (by rw [← hwk]; rfl) ?_)
        ·repeat' (first | exact keeps_nil | refine keeps_cons rfl ?_ | refine keeps_cons (by simp only [List.length_append, List.length_cons, List.length_nil]; rfl) ?_ | refine keeps_free ?_)
       ·have hk1 : ¬ k7 < (x0 :: xs).length := by have := of_decide_eq_false g7; omega
        rw [List.take_of_length_le (by omega)] at hacc
        have hpx : acc = pkX its (x0 :: xs) r := by rw [hacc]; rfl
        clear hacc
        subst hpx
        intro l3 V5 hV5 h5
        conv => whnf
        refine AppN.to (i + 1) rfl cl2 [.slice xb ((pkX its (x0 :: xs) r)).length xc] (hcl2.mono le_auto) (by rw [hcll]; exact (Nat.mul_one _).symm) h5 rfl rfl (by omega) (by decide) fun b3 c3 V6 hV6 hc6 => ?_; conv => whnf
        repeat' ((first | refine br_t rfl ?_ | refine br_f rfl ?_ | refine IdxN.lit rfl rfl ?_ | intro _); conv => whnf)
        have hrow6 : RowAt V6 ((pkX its (x0 :: xs) r)) (.slice xb ((pkX its (x0 :: xs) r)).length xc) := ⟨xb, xc, rfl, .inr (plain_cells (hacl)), ValsAt.of_cells ((hacl).mono le_auto) (by omega)⟩
        refine ⟨j - 1, (i + 1, b3, c3, cl2 ++ [.slice xb ((pkX its (x0 :: xs) r)).length xc]), by omega, ?_, ?_, View.le_trans hV2 le_auto, hi1, by show _ - (i + 1) = _; omega, ?_, hc6⟩
        ·repeat' (first | exact sees_nil | refine sees_cons rfl rfl rfl ?_ | refine sees_cons rfl rfl (by rw [← hwi]; rfl) ?_)
        ·repeat' (first | exact keeps_nil | refine keeps_cons rfl ?_ | refine keeps_free ?_)
        ·show CellsAt V6 (((out).take (i + 1)).map (pkX its ((x0 :: xs)))) _
         rw [List.take_add_one, hr1, List.map_append]
         exact (hca2.mono le_auto).snoc hrow6
      ·have hi1 : ¬ i < (out).length := by have := of_decide_eq_false g6; omega
       have hie : i = (out).length := by omega
       rw [List.take_of_length_le (by omega), ← ofX_map] at hca2
       have hol : (ofX its ((x0 :: xs)) (out)).length = i := by rw [ofX_map, List.length_map]; exact hie.symm
       repeat' ((first | refine br_t rfl ?_ | refine br_f rfl ?_ | refine IdxN.lit rfl rfl ?_ | intro _); conv => whnf)
       exact ret_pure ⟨_, rfl, fun _ => ⟨b2, c2, by rw [hol], plain_cells hcl2, RowsAt.of_cells hca2 hcl2 (by omega)⟩, fun h => (by simp at h)⟩
     ·simp only [Prod.mk.injEq] at hod
      obtain ⟨rfl, rfl, rfl⟩ := hod
      have hat := hoa tb nm rfl
      obtain ⟨k, hpk, hak, hkl⟩ := place_at hat
      refine br_t rfl ?_; conv => whnf
      repeat' ((first | refine br_t rfl ?_ | refine br_f rfl ?_ | refine IdxN.lit rfl rfl ?_ | intro _); conv => whnf)
      refine LoadN.of (hg0.mono le_auto) 0 rfl rfl ?_; conv => whnf
      refine CallN.pure (at_spec its its.length p9 ac o9 (colN tb nm) _ ((show Vt.has p9 o9 _ from hct9).mono le_auto) (by omega) (by omega)) fun v V1 _ hV1 hv => ?_
      subst hv
      simp only [List.take_length]
      rw [show (colN tb nm).tb = tb from rfl, show (colN tb nm).nm = nm from rfl, hak]
      conv => whnf
      repeat' ((first | refine br_t rfl ?_ | refine br_f rfl ?_ | refine IdxN.lit rfl rfl ?_ | intro _); conv => whnf)
      refine CallN.pure (rsort_spec out base cp (k : Int) sdesc _ (hro.mono le_auto) hsl (fun r h => by rw [hw r (hsub r h)]; exact his) ⟨by omega, by omega⟩ (fun r hr s hs => tidy_cmp (key_tid htd hsub hs) (key_tid htd hsub hr)) (fun r h => htx r (hsub r h))) fun v Vs _ hVs hv => ?_
      unfold orderX
      simp only
      rw [hpk]
      have hSl : (sortX (k : Int) sdesc out).length ≤ 1000 := by rw [sortX_len]; exact hsl
      have hSw : ∀ r ∈ sortX (k : Int) sdesc out, r.length = its.length := fun r h => hw r (hsub r (sortX_mem h))
      obtain ⟨b6, p6, rfl, _, hr6⟩ := hv
      generalize sortX (k : Int) sdesc out = S at *
      clear hca hcl
      conv => whnf
      repeat' ((first | refine br_t rfl ?_ | refine br_f rfl ?_ | refine IdxN.lit rfl rfl ?_ | intro _); conv => whnf)
      refine loopz (σ := Nat × Option Addr × Nat × List Value)
       (fun x => [(5, .own 5 0), (12, .v (.slice (some ⟨p9, o9, none⟩) its.length ac)), (24, .v (.slice b6 (S).length p6)), (30, .row 226), (31, .v (.int .i64 x.1))])
       (fun x => [(5, .box b5 30 [.int .i64 skind, .string stb, .string snm, .slice s3.1 s3.2.1 s3.2.2, .slice s4.1 s4.2.1 s4.2.2, .slice s5.1 s5.2.1 s5.2.2, .slice (some ⟨ib, io, none⟩) (x0 :: xs).length itc, .string sjoin, .slice (some ⟨gon, 0, none⟩) 2 oc, .slice swh.1 swh.2.1 swh.2.2, .slice (some ⟨g, 0, none⟩) 1 1, .bool sdesc, .slice sinn.1 sinn.2.1 sinn.2.2]), (226, .row (.slice x.2.1 x.1 x.2.2.1) 42 1 x.1)])
       (fun j x V2 => (Vs).le V2 ∧ x.1 ≤ (S).length ∧ (S).length - x.1 = j ∧ CellsAt V2 (((S).take x.1).map (pkX its (x0 :: xs))) x.2.2.2 ∧ V2.cells (.slice x.2.1 x.1 x.2.2.1) x.2.2.2)
       (S).length (0, none, 0, []) ?_ ?_ ?_ ?_
      ·repeat' (first | exact sees_nil | refine sees_cons rfl rfl rfl ?_)
      ·repeat' (first | exact keeps_nil | refine keeps_cons rfl ?_ | refine keeps_free ?_)
      ·exact ⟨le_auto, Nat.zero_le _, by simp, CellsAt.nil, rfl⟩
      rintro j ⟨i, b2, c2, cl2⟩ V2 ⟨hV2, hi, hj, hca2, hcl2⟩
      simp only at hi hj hca2 hcl2
      have hwi := wrap_nat (i := i) (by omega)
      have hcll : cl2.length = i := by
       have := hca2.len
       rw [List.length_map, List.length_take] at this; omega
      conv => whnf
      apply br <;> intro g6 <;> conv => whnf
      ·have hi1 : i < (S).length := by have := of_decide_eq_true g6; omega
       obtain ⟨r, hr1⟩ : ∃ r, (S)[i]? = some r := ⟨_, List.getElem?_eq_getElem hi1⟩
       have hrl : r.length ≤ 1000 := by rw [hSw r (List.mem_of_getElem? hr1)]; exact his
       obtain ⟨p, off, c, hrb, hcell, hrow⟩ := (hr6).at hr1
       subst hrb
       obtain ⟨rbase, rcap, hrv, hrp, hrva⟩ := hrow
       subst hrv
       intro lb Vl hVl hln
       conv => whnf
       refine IdxN.of (by omega) (by omega) ?_; conv => whnf
       refine LoadN.of (hcell.mono le_auto) 0 (by show off + i * 1 = off + i + 0; omega) rfl ?_; conv => whnf
       refine AppN.toR r.length (Nat.zero_add _) [] (r.flatMap vcells) hln rfl (row_news hrp (hrva.mono le_auto)) (flat_len (f := vcells) (n := 3) (fun _ => rfl) r) (allOne_flat r) (by omega) (by decide) fun base' cap' V4 hV4 hc4 _ => ?_; conv => whnf
       repeat (refine br_t hpos ?_; conv => whnf)
       repeat' ((first | refine br_t rfl ?_ | refine br_f rfl ?_ | refine IdxN.lit rfl rfl ?_ | intro _); conv => whnf)
       refine loopz (σ := Nat × Option Addr × Nat × List Val)
        (fun z => [(5, .own 5 0), (12, .v (.slice (some ⟨p9, o9, none⟩) its.length ac)), (24, .v (.slice (some ⟨p, off, none⟩) (S).length p6)), (30, .row 226), (31, .v (.int .i64 i)), (32, .row 222), (33, .v (.int .i64 z.1))])
        (fun z => [(5, .box b5 30 [.int .i64 skind, .string stb, .string snm, .slice s3.1 s3.2.1 s3.2.2, .slice s4.1 s4.2.1 s4.2.2, .slice s5.1 s5.2.1 s5.2.2, .slice (some ⟨ib, io, none⟩) (x0 :: xs).length itc, .string sjoin, .slice (some ⟨gon, 0, none⟩) 2 oc, .slice swh.1 swh.2.1 swh.2.2, .slice (some ⟨g, 0, none⟩) 1 1, .bool sdesc, .slice sinn.1 sinn.2.1 sinn.2.2]), (226, .row (.slice b2 i c2) 42 1 i), (222, .row (.slice z.2.1 z.2.2.2.length z.2.2.1) 44 3 z.2.2.2.length)])
        (fun j z Vx => V4.le Vx ∧ z.1 ≤ (x0 :: xs).length ∧ (x0 :: xs).length - z.1 = j ∧ z.2.2.2 = pickX its r ((x0 :: xs).take z.1) ∧ z.2.2.2.length ≤ z.1 ∧ Vx.cells (.slice z.2.1 z.2.2.2.length z.2.2.1) (z.2.2.2.flatMap vcells))
        (x0 :: xs).length (0, none, 0, []) ?_ ?_ ?_ ?_
       ·repeat' (first | exact sees_nil | refine sees_cons rfl rfl rfl ?_)
       ·repeat' (first | exact keeps_nil | refine keeps_cons rfl ?_ | refine keeps_free ?_)
       ·exact ⟨le_auto, Nat.zero_le _, by simp, rfl, Nat.le_refl _, rfl⟩
       rintro j2 ⟨k7, xb, xc, acc⟩ Vx ⟨hVx, hk, hj2, hacc, hal, hacl⟩
       simp only at hk hj2 hacc hal hacl
       have hwk := wrap_nat (i := k7) (by omega)
       conv => whnf
       apply br <;> intro g7 <;> conv => whnf
       ·have hk1 : k7 < (x0 :: xs).length := by have := of_decide_eq_true g7; omega
        obtain ⟨x, hxk⟩ : ∃ x, (x0 :: xs)[k7]? = some x := ⟨_, List.getElem?_eq_getElem hk1⟩
        have htk : pickX its r ((x0 :: xs).take (k7 + 1)) = acc ++ oneP its r x := by
         unfold pickX at hacc ⊢
         rw [List.take_add_one, hxk, List.flatMap_append, ← hacc]; simp
        have hxc := has_flat (n := 3) (fun _ => rfl) (x0 :: xs) io hxx k7 x hxk
        obtain ⟨kk, hpk, hak, hkl⟩ := place_at (hpl x (List.mem_of_getElem? hxk))
        have hrlen := hSw r (List.mem_of_getElem? hr1)
        obtain ⟨u, hu⟩ : ∃ u, r[kk]? = some u := ⟨_, List.getElem?_eq_getElem (by omega)⟩
        rw [oneP_at hpk hu] at htk
        obtain ⟨q, off2, hb2, hval⟩ := hrva.at hu
        subst hb2
        obtain ⟨xa, xtb, xnm⟩ := x
        simp only at hak hpk
        refine IdxN.of (by omega) (by omega) ?_; conv => whnf
        refine LoadN.of (hxc.mono le_auto) 1 rfl rfl ?_; conv => whnf
        refine IdxN.of (by omega) (by omega) ?_; conv => whnf
        refine LoadN.of (hxc.mono le_auto) 2 rfl rfl ?_; conv => whnf
        repeat' ((first | refine br_t rfl ?_ | refine br_f rfl ?_ | refine IdxN.lit rfl rfl ?_ | intro _); conv => whnf)
        refine CallN.pure (at_spec its its.length p9 ac o9 ⟨0, v0, xtb, xnm, none, 0, 0⟩ _ ((show Vt.has p9 o9 _ from hct9).mono le_auto) (by omega) (by omega)) fun v V7 _ hV7 hv => ?_
        subst hv
        simp only [List.take_length]
        rw [hak]
        refine Prot.refl ?_; conv => whnf
        repeat' ((first | refine br_t rfl ?_ | refine br_f rfl ?_ | refine IdxN.lit rfl rfl ?_ | intro _); conv => whnf)
        refine IdxN.of (by omega) (by omega) ?_; conv => whnf
        refine LoadN.of (hcell.mono le_auto) 0 (by show off + i * 1 = off + i + 0; omega) rfl ?_; conv => whnf
        refine IdxN.of (by omega) (by omega) ?_; conv => whnf
        refine LoadN.of (hval.mono le_auto) 0 rfl rfl ?_; conv => whnf
        intro l8 V8 hV8 hln8
        conv => whnf
        refine AppN.to (acc.length + 1) rfl (acc.flatMap vcells) (vcells u) (hacl.mono le_auto) (by rw [flat_len (f := vcells) (n := 3) (fun _ => rfl)]; rfl) hln8 rfl rfl (by omega) (by decide) fun base' cap' Vm hVm hcm => ?_; conv => whnf
        have hcm : Vm.cells (.slice base' (acc ++ [u]).length cap') ((acc ++ [u]).flatMap vcells) := by
         rw [List.flatMap_append, List.length_append]
         simpa using hcm
        refine ⟨j2 - 1, (k7 + 1, base', cap', acc ++ [u]), by omega, ?_, ?_, View.le_trans hVx le_auto, hk1, by show _ - (k7 + 1) = _; omega, htk.symm, by show (acc ++ [u]).length ≤ k7 + 1; simp only [List.length_append, List.length_cons, List.length_nil]; omega, hcm⟩
        ·repeat' (first | exact sees_nil | refine sees_cons rfl rfl (by simp only [List.length_append, List.length_cons, List.length_nil]; rfl) ?_ | refine sees_cons rfl rfl rfl ?_ | refine sees_cons rfl rfl (by rw [← hwk]; rfl) ?_)
        ·repeat' (first | exact keeps_nil | refine keeps_cons rfl ?_ | refine keeps_cons (by simp only [List.length_append, List.length_cons, List.length_nil]; rfl) ?_ | refine keeps_free ?_)
       ·have hk1 : ¬ k7 < (x0 :: xs).length := by have := of_decide_eq_false g7; omega
        rw [List.take_of_length_le (by omega)] at hacc
        have hpx : acc = pkX its (x0 :: xs) r := by rw [hacc]; rfl
        clear hacc
        subst hpx
        intro l3 V5 hV5 h5
        conv => whnf
        refine AppN.to (i + 1) rfl cl2 [.slice xb ((pkX its (x0 :: xs) r)).length xc] (hcl2.mono le_auto) (by rw [hcll]; exact (Nat.mul_one _).symm) h5 rfl rfl (by omega) (by decide) fun b3 c3 V6 hV6 hc6 => ?_; conv => whnf
        repeat' ((first | refine br_t rfl ?_ | refine br_f rfl ?_ | refine IdxN.lit rfl rfl ?_ | intro _); conv => whnf)
        have hrow6 : RowAt V6 ((pkX its (x0 :: xs) r)) (.slice xb ((pkX its (x0 :: xs) r)).length xc) := ⟨xb, xc, rfl, .inr (plain_cells (hacl)), ValsAt.of_cells ((hacl).mono le_auto) (by omega)⟩
        refine ⟨j - 1, (i + 1, b3, c3, cl2 ++ [.slice xb ((pkX its (x0 :: xs) r)).length xc]), by omega, ?_, ?_, View.le_trans hV2 le_auto, hi1, by show _ - (i + 1) = _; omega, ?_, hc6⟩
        ·repeat' (first | exact sees_nil | refine sees_cons rfl rfl rfl ?_ | refine sees_cons rfl rfl (by rw [← hwi]; rfl) ?_)
        ·repeat' (first | exact keeps_nil | refine keeps_cons rfl ?_ | refine keeps_free ?_)
        ·show CellsAt V6 (((S).take (i + 1)).map (pkX its ((x0 :: xs)))) _
         rw [List.take_add_one, hr1, List.map_append]
         exact (hca2.mono le_auto).snoc hrow6
      ·have hi1 : ¬ i < (S).length := by have := of_decide_eq_false g6; omega
       have hie : i = (S).length := by omega
       rw [List.take_of_length_le (by omega), ← ofX_map] at hca2
       have hol : (ofX its ((x0 :: xs)) (S)).length = i := by rw [ofX_map, List.length_map]; exact hie.symm
       repeat' ((first | refine br_t rfl ?_ | refine br_f rfl ?_ | refine IdxN.lit rfl rfl ?_ | intro _); conv => whnf)
       exact ret_pure ⟨_, rfl, fun _ => ⟨b2, c2, by rw [hol], plain_cells hcl2, RowsAt.of_cells hca2 hcl2 (by omega)⟩, fun h => (by simp at h)⟩
    ·repeat (first | (refine br_t hpos ?_; conv => whnf) | (refine br_t (by simpa using hg) ?_; conv => whnf))
     repeat' ((first | refine br_t rfl ?_ | refine br_f rfl ?_ | refine IdxN.lit rfl rfl ?_ | intro _); conv => whnf)
     have hfl : foldsL (x0 :: xs) = true := by simp [foldsL, hg]
     rw [if_pos hfl]
     refine CallN.pure (folded_spec ⟨skind, stb, snm, s3, s4, s5, (some ⟨ib, io, none⟩, (x0 :: xs).length, itc), sjoin, (some ⟨gon, 0, none⟩, 2, oc), swh, (orb, orn, orc), sdesc, sinn⟩ its p9 o9 ac out base cp (x0 :: xs) _ ((show Vt.has p9 o9 _ from hct9).mono le_auto) his (hro.mono le_auto) (by have := hsl; omega) (fun r h => hir r (hsub r h)) (fun r h => hw r (hsub r h)) (fun r h => htd r (hsub r h)) (fun r h => htx r (hsub r h)) rfl (hxx.mono le_auto) hxl (hag hfl)) fun v V3 _ hV3 ⟨x, hv, h1, h2⟩ => ?_
     subst hv; conv => whnf
     repeat' ((first | refine br_t rfl ?_ | refine br_f rfl ?_ | refine IdxN.lit rfl rfl ?_ | intro _); conv => whnf)
     refine ret_pure ⟨x, ?_⟩
     by_cases he : (oneX its out (x0 :: xs)).2 = 0
     ·rw [if_neg (fun h => h he), he]
      exact ⟨rfl, fun _ => h1 he, fun h => absurd rfl h⟩
     ·rw [if_pos he]
      exact ⟨rfl, fun h => absurd h he, fun _ => h2 he⟩
theorem rwhere_spec (its : List Item) (kinds : List Int) (p off c q off2 d n m : Nat) (hn : n = its.length) (hm : m = its.length) (w : Option Addr × Nat × Nat) (V : View) (h : ColsAt V its kinds p off q off2) (hw : WhereAt V its kinds w) :
  PSpec 72 [.slice (some ⟨p, off, none⟩) n c, .slice (some ⟨q, off2, none⟩) m d, .slice w.1 w.2.1 w.2.2] V (fun v _ => ∃ e, v = .int .i64 e) := by
 rcases hw with rfl | ⟨g, e, x, rfl, hx, hr, hwt, _⟩
 ·refine does_of_zfun [] mixed (args := [.v _, .v _, .v _]) (ms := []) Tryz.func72 (by kernel_rfl) rfl ?_; conv => whnf
  repeat' ((first | refine br_t rfl ?_ | refine br_f rfl ?_ | refine IdxN.lit rfl rfl ?_ | intro _); conv => whnf)
  refine unrollz 1 ?_; conv => whnf
  repeat' ((first | refine br_t rfl ?_ | refine br_f rfl ?_ | refine IdxN.lit rfl rfl ?_ | intro _); conv => whnf)
  exact ret_pure ⟨_, rfl⟩
 ·refine does_of_zfun [] mixed (args := [.v _, .v _, .v _]) (ms := []) Tryz.func72 (by kernel_rfl) rfl ?_
  obtain ⟨xop, xv, xtb, xnm, xbase, xlen, xcap⟩ := x
  conv => whnf
  repeat' ((first | refine br_t rfl ?_ | refine br_f rfl ?_ | refine IdxN.lit rfl rfl ?_ | intro _); conv => whnf)
  refine unrollz 2 ?_; conv => whnf
  repeat' ((first | refine br_t rfl ?_ | refine br_f rfl ?_ | refine IdxN.lit rfl rfl ?_ | intro _); conv => whnf)
  refine LoadN.of (hx.mono le_auto) 0 rfl rfl ?_; conv => whnf
  refine CallN.pure (kind_spec its kinds p off c q off2 d n m hn hm e ⟨xop, xv, xtb, xnm, xbase, xlen, xcap⟩ _ (h.mono le_auto) (hr.mono le_auto)) fun v V1 _ hV1 ⟨k1, e1, hv⟩ => ?_
  subst hv; conv => whnf
  apply br <;> intro g1 <;> conv => whnf
  ·repeat' ((first | refine br_t rfl ?_ | refine br_f rfl ?_ | refine IdxN.lit rfl rfl ?_ | intro _); conv => whnf)
   exact ret_pure ⟨_, rfl⟩
  repeat' ((first | refine br_t rfl ?_ | refine br_f rfl ?_ | refine IdxN.lit rfl rfl ?_ | intro _); conv => whnf)
  apply br <;> intro g2 <;> conv => whnf
  ·repeat' ((first | refine br_t rfl ?_ | refine br_f rfl ?_ | refine IdxN.lit rfl rfl ?_ | intro _); conv => whnf)
   exact ret_pure ⟨_, rfl⟩
  repeat' ((first | refine br_t rfl ?_ | refine br_f rfl ?_ | refine IdxN.lit rfl rfl ?_ | intro _); conv => whnf)
  exact ret_pure ⟨_, rfl⟩
/-- columns, as a list of expressions -/
def ColsL (V : View) (o : Option Addr × Nat × Nat) : Prop := o = (none, 0, 0) ∨ (∃ g tb nm, o = (some ⟨g, 0, none⟩, 1, 1) ∧ V.has g 0 (xcells (colN tb nm))) ∨ ∃ g tb1 nm1 tb2 nm2, o = (some ⟨g, 0, none⟩, 2, 2) ∧ V.has g 0 (xcells (colN tb1 nm1) ++ xcells (colN tb2 nm2))
theorem ColsL.mono {V V' : View} {o : Option Addr × Nat × Nat} (h : ColsL V o) (hV : V.le V') : ColsL V' o := by
 rcases h with h | ⟨g, tb, nm, h1, h2⟩ | ⟨g, tb1, nm1, tb2, nm2, h1, h2⟩
 ·exact .inl h
 ·exact .inr (.inl ⟨g, tb, nm, h1, h2.mono hV⟩)
 ·exact .inr (.inr ⟨g, tb1, nm1, tb2, nm2, h1, h2.mono hV⟩)
theorem columns_spec (o : Option Addr × Nat × Nat) (V : View) (h : ColsL V o) : PSpec 70 [.slice o.1 o.2.1 o.2.2] V (fun v _ => ∃ b, v = .bool b) := by
 rcases h with rfl | ⟨g, tb, nm, rfl, h2⟩ | ⟨g, tb1, nm1, tb2, nm2, rfl, h2⟩
 ·refine does_of_zfun [] mixed (args := [.v _]) (ms := []) Tryz.func70 (by kernel_rfl) rfl ?_; conv => whnf
  repeat' ((first | refine br_t rfl ?_ | refine br_f rfl ?_ | refine IdxN.lit rfl rfl ?_ | intro _); conv => whnf)
  refine unrollz 1 ?_; conv => whnf
  repeat' ((first | refine br_t rfl ?_ | refine br_f rfl ?_ | refine IdxN.lit rfl rfl ?_ | intro _); conv => whnf)
  exact ret_pure ⟨_, rfl⟩
 ·refine does_of_zfun [] mixed (args := [.v _]) (ms := []) Tryz.func70 (by kernel_rfl) rfl ?_; conv => whnf
  repeat' ((first | refine br_t rfl ?_ | refine br_f rfl ?_ | refine IdxN.lit rfl rfl ?_ | intro _); conv => whnf)
  refine unrollz 2 ?_; conv => whnf
  repeat' ((first | refine br_t rfl ?_ | refine br_f rfl ?_ | refine IdxN.lit rfl rfl ?_ | intro _); conv => whnf)
  refine LoadN.of (h2.mono le_auto) 0 rfl rfl ?_; conv => whnf
  repeat' ((first | refine br_t rfl ?_ | refine br_f rfl ?_ | refine IdxN.lit rfl rfl ?_ | intro _); conv => whnf)
  refine LoadN.of (h2.mono le_auto) 6 rfl rfl ?_; conv => whnf
  repeat' ((first | refine br_t rfl ?_ | refine br_f rfl ?_ | refine IdxN.lit rfl rfl ?_ | intro _); conv => whnf)
  exact ret_pure ⟨_, rfl⟩
 ·refine does_of_zfun [] mixed (args := [.v _]) (ms := []) Tryz.func70 (by kernel_rfl) rfl ?_; conv => whnf
  repeat' ((first | refine br_t rfl ?_ | refine br_f rfl ?_ | refine IdxN.lit rfl rfl ?_ | intro _); conv => whnf)
  refine unrollz 3 ?_; conv => whnf
  repeat' ((first | refine br_t rfl ?_ | refine br_f rfl ?_ | refine IdxN.lit rfl rfl ?_ | intro _); conv => whnf)
  refine LoadN.of (h2.mono le_auto) 0 rfl rfl ?_; conv => whnf
  repeat' ((first | refine br_t rfl ?_ | refine br_f rfl ?_ | refine IdxN.lit rfl rfl ?_ | intro _); conv => whnf)
  refine LoadN.of (h2.mono le_auto) 6 rfl rfl ?_; conv => whnf
  repeat' ((first | refine br_t rfl ?_ | refine br_f rfl ?_ | refine IdxN.lit rfl rfl ?_ | intro _); conv => whnf)
  refine LoadN.of (h2.mono le_auto) 7 rfl rfl ?_; conv => whnf
  repeat' ((first | refine br_t rfl ?_ | refine br_f rfl ?_ | refine IdxN.lit rfl rfl ?_ | intro _); conv => whnf)
  refine LoadN.of (h2.mono le_auto) 13 rfl rfl ?_; conv => whnf
  repeat' ((first | refine br_t rfl ?_ | refine br_f rfl ?_ | refine IdxN.lit rfl rfl ?_ | intro _); conv => whnf)
  exact ret_pure ⟨_, rfl⟩
set_option maxHeartbeats 4000000 in
theorem lists_spec (s : StV) (V : View) (hk : s.kind = 6) (ho : ColsL V s.on) (hd : ColsL V s.order) : PSpec 45 [stv s] V (fun v _ => ∃ b, v = .bool b) := by
 obtain ⟨skind, stb, snm, s3, s4, s5, sit, sjoin, son, swh, sord, sdesc, sinn⟩ := s
 have hk : skind = 6 := hk
 subst hk
 refine does_of_zfun [] mixed (args := [.v _]) (ms := []) Tryz.func45 (by kernel_rfl) rfl ?_; conv => whnf
 repeat' ((first | refine br_t rfl ?_ | refine br_f rfl ?_ | refine IdxN.lit rfl rfl ?_ | intro _); conv => whnf)
 apply br <;> intro g0 <;> conv => whnf
 ·repeat (first | (intro _; conv => whnf) | (refine br_t rfl ?_; conv => whnf) | (refine br_f rfl ?_; conv => whnf) | (refine IdxN.lit rfl rfl ?_; conv => whnf) | (refine br_t g1 ?_; conv => whnf) | (refine br_f g1 ?_; conv => whnf) | (refine br_t g2 ?_; conv => whnf) | (refine br_f g2 ?_; conv => whnf) | (refine br_t g3 ?_; conv => whnf) | (refine br_f g3 ?_; conv => whnf) | (refine br_t g4 ?_; conv => whnf) | (refine br_f g4 ?_; conv => whnf) | (refine br_t g5 ?_; conv => whnf) | (refine br_f g5 ?_; conv => whnf) | (refine br_t g6 ?_; conv => whnf) | (refine br_f g6 ?_; conv => whnf))
  apply br <;> intro g1 <;> conv => whnf
  ·repeat (first | (intro _; conv => whnf) | (refine br_t rfl ?_; conv => whnf) | (refine br_f rfl ?_; conv => whnf) | (refine IdxN.lit rfl rfl ?_; conv => whnf) | (refine br_t g1 ?_; conv => whnf) | (refine br_f g1 ?_; conv => whnf) | (refine br_t g2 ?_; conv => whnf) | (refine br_f g2 ?_; conv => whnf) | (refine br_t g3 ?_; conv => whnf) | (refine br_f g3 ?_; conv => whnf) | (refine br_t g4 ?_; conv => whnf) | (refine br_f g4 ?_; conv => whnf) | (refine br_t g5 ?_; conv => whnf) | (refine br_f g5 ?_; conv => whnf) | (refine br_t g6 ?_; conv => whnf) | (refine br_f g6 ?_; conv => whnf))
   apply br <;> intro g2 <;> conv => whnf
   ·repeat (first | (intro _; conv => whnf) | (refine br_t rfl ?_; conv => whnf) | (refine br_f rfl ?_; conv => whnf) | (refine IdxN.lit rfl rfl ?_; conv => whnf) | (refine br_t g1 ?_; conv => whnf) | (refine br_f g1 ?_; conv => whnf) | (refine br_t g2 ?_; conv => whnf) | (refine br_f g2 ?_; conv => whnf) | (refine br_t g3 ?_; conv => whnf) | (refine br_f g3 ?_; conv => whnf) | (refine br_t g4 ?_; conv => whnf) | (refine br_f g4 ?_; conv => whnf) | (refine br_t g5 ?_; conv => whnf) | (refine br_f g5 ?_; conv => whnf) | (refine br_t g6 ?_; conv => whnf) | (refine br_f g6 ?_; conv => whnf))
    apply br <;> intro g3 <;> conv => whnf
    ·repeat (first | (intro _; conv => whnf) | (refine br_t rfl ?_; conv => whnf) | (refine br_f rfl ?_; conv => whnf) | (refine IdxN.lit rfl rfl ?_; conv => whnf) | (refine br_t g1 ?_; conv => whnf) | (refine br_f g1 ?_; conv => whnf) | (refine br_t g2 ?_; conv => whnf) | (refine br_f g2 ?_; conv => whnf) | (refine br_t g3 ?_; conv => whnf) | (refine br_f g3 ?_; conv => whnf) | (refine br_t g4 ?_; conv => whnf) | (refine br_f g4 ?_; conv => whnf) | (refine br_t g5 ?_; conv => whnf) | (refine br_f g5 ?_; conv => whnf) | (refine br_t g6 ?_; conv => whnf) | (refine br_f g6 ?_; conv => whnf))
     refine CallN.pure (columns_spec son _ (ho.mono le_auto)) fun v V1 _ hV1 ⟨b1, hv⟩ => ?_
     subst hv; conv => whnf
     repeat (first | (intro _; conv => whnf) | (refine br_t rfl ?_; conv => whnf) | (refine br_f rfl ?_; conv => whnf) | (refine IdxN.lit rfl rfl ?_; conv => whnf) | (refine br_t g1 ?_; conv => whnf) | (refine br_f g1 ?_; conv => whnf) | (refine br_t g2 ?_; conv => whnf) | (refine br_f g2 ?_; conv => whnf) | (refine br_t g3 ?_; conv => whnf) | (refine br_f g3 ?_; conv => whnf) | (refine br_t g4 ?_; conv => whnf) | (refine br_f g4 ?_; conv => whnf) | (refine br_t g5 ?_; conv => whnf) | (refine br_f g5 ?_; conv => whnf) | (refine br_t g6 ?_; conv => whnf) | (refine br_f g6 ?_; conv => whnf))
     apply br <;> intro g4 <;> conv => whnf
     ·repeat (first | (intro _; conv => whnf) | (refine br_t rfl ?_; conv => whnf) | (refine br_f rfl ?_; conv => whnf) | (refine IdxN.lit rfl rfl ?_; conv => whnf) | (refine br_t g1 ?_; conv => whnf) | (refine br_f g1 ?_; conv => whnf) | (refine br_t g2 ?_; conv => whnf) | (refine br_f g2 ?_; conv => whnf) | (refine br_t g3 ?_; conv => whnf) | (refine br_f g3 ?_; conv => whnf) | (refine br_t g4 ?_; conv => whnf) | (refine br_f g4 ?_; conv => whnf) | (refine br_t g5 ?_; conv => whnf) | (refine br_f g5 ?_; conv => whnf) | (refine br_t g6 ?_; conv => whnf) | (refine br_f g6 ?_; conv => whnf))
      refine CallN.pure (columns_spec sord _ (hd.mono le_auto)) fun v V1 _ hV1 ⟨b2, hv⟩ => ?_
      subst hv; conv => whnf
      repeat (first | (intro _; conv => whnf) | (refine br_t rfl ?_; conv => whnf) | (refine br_f rfl ?_; conv => whnf) | (refine IdxN.lit rfl rfl ?_; conv => whnf) | (refine br_t g1 ?_; conv => whnf) | (refine br_f g1 ?_; conv => whnf) | (refine br_t g2 ?_; conv => whnf) | (refine br_f g2 ?_; conv => whnf) | (refine br_t g3 ?_; conv => whnf) | (refine br_f g3 ?_; conv => whnf) | (refine br_t g4 ?_; conv => whnf) | (refine br_f g4 ?_; conv => whnf) | (refine br_t g5 ?_; conv => whnf) | (refine br_f g5 ?_; conv => whnf) | (refine br_t g6 ?_; conv => whnf) | (refine br_f g6 ?_; conv => whnf))
      exact ret_pure ⟨_, rfl⟩
     ·repeat (first | (intro _; conv => whnf) | (refine br_t rfl ?_; conv => whnf) | (refine br_f rfl ?_; conv => whnf) | (refine IdxN.lit rfl rfl ?_; conv => whnf) | (refine br_t g1 ?_; conv => whnf) | (refine br_f g1 ?_; conv => whnf) | (refine br_t g2 ?_; conv => whnf) | (refine br_f g2 ?_; conv => whnf) | (refine br_t g3 ?_; conv => whnf) | (refine br_f g3 ?_; conv => whnf) | (refine br_t g4 ?_; conv => whnf) | (refine br_f g4 ?_; conv => whnf) | (refine br_t g5 ?_; conv => whnf) | (refine br_f g5 ?_; conv => whnf) | (refine br_t g6 ?_; conv => whnf) | (refine br_f g6 ?_; conv => whnf))
      exact ret_pure ⟨_, rfl⟩
    ·repeat (first | (intro _; conv => whnf) | (refine br_t rfl ?_; conv => whnf) | (refine br_f rfl ?_; conv => whnf) | (refine IdxN.lit rfl rfl ?_; conv => whnf) | (refine br_t g1 ?_; conv => whnf) | (refine br_f g1 ?_; conv => whnf) | (refine br_t g2 ?_; conv => whnf) | (refine br_f g2 ?_; conv => whnf) | (refine br_t g3 ?_; conv => whnf) | (refine br_f g3 ?_; conv => whnf) | (refine br_t g4 ?_; conv => whnf) | (refine br_f g4 ?_; conv => whnf) | (refine br_t g5 ?_; conv => whnf) | (refine br_f g5 ?_; conv => whnf) | (refine br_t g6 ?_; conv => whnf) | (refine br_f g6 ?_; conv => whnf))
     exact ret_pure ⟨_, rfl⟩
   ·repeat (first | (intro _; conv => whnf) | (refine br_t rfl ?_; conv => whnf) | (refine br_f rfl ?_; conv => whnf) | (refine IdxN.lit rfl rfl ?_; conv => whnf) | (refine br_t g1 ?_; conv => whnf) | (refine br_f g1 ?_; conv => whnf) | (refine br_t g2 ?_; conv => whnf) | (refine br_f g2 ?_; conv => whnf) | (refine br_t g3 ?_; conv => whnf) | (refine br_f g3 ?_; conv => whnf) | (refine br_t g4 ?_; conv => whnf) | (refine br_f g4 ?_; conv => whnf) | (refine br_t g5 ?_; conv => whnf) | (refine br_f g5 ?_; conv => whnf) | (refine br_t g6 ?_; conv => whnf) | (refine br_f g6 ?_; conv => whnf))
    exact ret_pure ⟨_, rfl⟩
  ·repeat (first | (intro _; conv => whnf) | (refine br_t rfl ?_; conv => whnf) | (refine br_f rfl ?_; conv => whnf) | (refine IdxN.lit rfl rfl ?_; conv => whnf) | (refine br_t g1 ?_; conv => whnf) | (refine br_f g1 ?_; conv => whnf) | (refine br_t g2 ?_; conv => whnf) | (refine br_f g2 ?_; conv => whnf) | (refine br_t g3 ?_; conv => whnf) | (refine br_f g3 ?_; conv => whnf) | (refine br_t g4 ?_; conv => whnf) | (refine br_f g4 ?_; conv => whnf) | (refine br_t g5 ?_; conv => whnf) | (refine br_f g5 ?_; conv => whnf) | (refine br_t g6 ?_; conv => whnf) | (refine br_f g6 ?_; conv => whnf))
   exact ret_pure ⟨_, rfl⟩
 ·repeat (first | (intro _; conv => whnf) | (refine br_t rfl ?_; conv => whnf) | (refine br_f rfl ?_; conv => whnf) | (refine IdxN.lit rfl rfl ?_; conv => whnf) | (refine br_t g1 ?_; conv => whnf) | (refine br_f g1 ?_; conv => whnf) | (refine br_t g2 ?_; conv => whnf) | (refine br_f g2 ?_; conv => whnf) | (refine br_t g3 ?_; conv => whnf) | (refine br_f g3 ?_; conv => whnf) | (refine br_t g4 ?_; conv => whnf) | (refine br_f g4 ?_; conv => whnf) | (refine br_t g5 ?_; conv => whnf) | (refine br_f g5 ?_; conv => whnf) | (refine br_t g6 ?_; conv => whnf) | (refine br_f g6 ?_; conv => whnf))
  apply br <;> intro g1 <;> conv => whnf
  ·repeat (first | (intro _; conv => whnf) | (refine br_t rfl ?_; conv => whnf) | (refine br_f rfl ?_; conv => whnf) | (refine IdxN.lit rfl rfl ?_; conv => whnf) | (refine br_t g1 ?_; conv => whnf) | (refine br_f g1 ?_; conv => whnf) | (refine br_t g2 ?_; conv => whnf) | (refine br_f g2 ?_; conv => whnf) | (refine br_t g3 ?_; conv => whnf) | (refine br_f g3 ?_; conv => whnf) | (refine br_t g4 ?_; conv => whnf) | (refine br_f g4 ?_; conv => whnf) | (refine br_t g5 ?_; conv => whnf) | (refine br_f g5 ?_; conv => whnf) | (refine br_t g6 ?_; conv => whnf) | (refine br_f g6 ?_; conv => whnf))
   apply br <;> intro g2 <;> conv => whnf
   ·repeat (first | (intro _; conv => whnf) | (refine br_t rfl ?_; conv => whnf) | (refine br_f rfl ?_; conv => whnf) | (refine IdxN.lit rfl rfl ?_; conv => whnf) | (refine br_t g1 ?_; conv => whnf) | (refine br_f g1 ?_; conv => whnf) | (refine br_t g2 ?_; conv => whnf) | (refine br_f g2 ?_; conv => whnf) | (refine br_t g3 ?_; conv => whnf) | (refine br_f g3 ?_; conv => whnf) | (refine br_t g4 ?_; conv => whnf) | (refine br_f g4 ?_; conv => whnf) | (refine br_t g5 ?_; conv => whnf) | (refine br_f g5 ?_; conv => whnf) | (refine br_t g6 ?_; conv => whnf) | (refine br_f g6 ?_; conv => whnf))
    apply br <;> intro g3 <;> conv => whnf
    ·repeat (first | (intro _; conv => whnf) | (refine br_t rfl ?_; conv => whnf) | (refine br_f rfl ?_; conv => whnf) | (refine IdxN.lit rfl rfl ?_; conv => whnf) | (refine br_t g1 ?_; conv => whnf) | (refine br_f g1 ?_; conv => whnf) | (refine br_t g2 ?_; conv => whnf) | (refine br_f g2 ?_; conv => whnf) | (refine br_t g3 ?_; conv => whnf) | (refine br_f g3 ?_; conv => whnf) | (refine br_t g4 ?_; conv => whnf) | (refine br_f g4 ?_; conv => whnf) | (refine br_t g5 ?_; conv => whnf) | (refine br_f g5 ?_; conv => whnf) | (refine br_t g6 ?_; conv => whnf) | (refine br_f g6 ?_; conv => whnf))
     refine CallN.pure (columns_spec son _ (ho.mono le_auto)) fun v V1 _ hV1 ⟨b1, hv⟩ => ?_
     subst hv; conv => whnf
     repeat (first | (intro _; conv => whnf) | (refine br_t rfl ?_; conv => whnf) | (refine br_f rfl ?_; conv => whnf) | (refine IdxN.lit rfl rfl ?_; conv => whnf) | (refine br_t g1 ?_; conv => whnf) | (refine br_f g1 ?_; conv => whnf) | (refine br_t g2 ?_; conv => whnf) | (refine br_f g2 ?_; conv => whnf) | (refine br_t g3 ?_; conv => whnf) | (refine br_f g3 ?_; conv => whnf) | (refine br_t g4 ?_; conv => whnf) | (refine br_f g4 ?_; conv => whnf) | (refine br_t g5 ?_; conv => whnf) | (refine br_f g5 ?_; conv => whnf) | (refine br_t g6 ?_; conv => whnf) | (refine br_f g6 ?_; conv => whnf))
     apply br <;> intro g4 <;> conv => whnf
     ·repeat (first | (intro _; conv => whnf) | (refine br_t rfl ?_; conv => whnf) | (refine br_f rfl ?_; conv => whnf) | (refine IdxN.lit rfl rfl ?_; conv => whnf) | (refine br_t g1 ?_; conv => whnf) | (refine br_f g1 ?_; conv => whnf) | (refine br_t g2 ?_; conv => whnf) | (refine br_f g2 ?_; conv => whnf) | (refine br_t g3 ?_; conv => whnf) | (refine br_f g3 ?_; conv => whnf) | (refine br_t g4 ?_; conv => whnf) | (refine br_f g4 ?_; conv => whnf) | (refine br_t g5 ?_; conv => whnf) | (refine br_f g5 ?_; conv => whnf) | (refine br_t g6 ?_; conv => whnf) | (refine br_f g6 ?_; conv => whnf))
      refine CallN.pure (columns_spec sord _ (hd.mono le_auto)) fun v V1 _ hV1 ⟨b2, hv⟩ => ?_
      subst hv; conv => whnf
      repeat (first | (intro _; conv => whnf) | (refine br_t rfl ?_; conv => whnf) | (refine br_f rfl ?_; conv => whnf) | (refine IdxN.lit rfl rfl ?_; conv => whnf) | (refine br_t g1 ?_; conv => whnf) | (refine br_f g1 ?_; conv => whnf) | (refine br_t g2 ?_; conv => whnf) | (refine br_f g2 ?_; conv => whnf) | (refine br_t g3 ?_; conv => whnf) | (refine br_f g3 ?_; conv => whnf) | (refine br_t g4 ?_; conv => whnf) | (refine br_f g4 ?_; conv => whnf) | (refine br_t g5 ?_; conv => whnf) | (refine br_f g5 ?_; conv => whnf) | (refine br_t g6 ?_; conv => whnf) | (refine br_f g6 ?_; conv => whnf))
      exact ret_pure ⟨_, rfl⟩
     ·repeat (first | (intro _; conv => whnf) | (refine br_t rfl ?_; conv => whnf) | (refine br_f rfl ?_; conv => whnf) | (refine IdxN.lit rfl rfl ?_; conv => whnf) | (refine br_t g1 ?_; conv => whnf) | (refine br_f g1 ?_; conv => whnf) | (refine br_t g2 ?_; conv => whnf) | (refine br_f g2 ?_; conv => whnf) | (refine br_t g3 ?_; conv => whnf) | (refine br_f g3 ?_; conv => whnf) | (refine br_t g4 ?_; conv => whnf) | (refine br_f g4 ?_; conv => whnf) | (refine br_t g5 ?_; conv => whnf) | (refine br_f g5 ?_; conv => whnf) | (refine br_t g6 ?_; conv => whnf) | (refine br_f g6 ?_; conv => whnf))
      exact ret_pure ⟨_, rfl⟩
    ·repeat (first | (intro _; conv => whnf) | (refine br_t rfl ?_; conv => whnf) | (refine br_f rfl ?_; conv => whnf) | (refine IdxN.lit rfl rfl ?_; conv => whnf) | (refine br_t g1 ?_; conv => whnf) | (refine br_f g1 ?_; conv => whnf) | (refine br_t g2 ?_; conv => whnf) | (refine br_f g2 ?_; conv => whnf) | (refine br_t g3 ?_; conv => whnf) | (refine br_f g3 ?_; conv => whnf) | (refine br_t g4 ?_; conv => whnf) | (refine br_f g4 ?_; conv => whnf) | (refine br_t g5 ?_; conv => whnf) | (refine br_f g5 ?_; conv => whnf) | (refine br_t g6 ?_; conv => whnf) | (refine br_f g6 ?_; conv => whnf))
     exact ret_pure ⟨_, rfl⟩
   ·repeat (first | (intro _; conv => whnf) | (refine br_t rfl ?_; conv => whnf) | (refine br_f rfl ?_; conv => whnf) | (refine IdxN.lit rfl rfl ?_; conv => whnf) | (refine br_t g1 ?_; conv => whnf) | (refine br_f g1 ?_; conv => whnf) | (refine br_t g2 ?_; conv => whnf) | (refine br_f g2 ?_; conv => whnf) | (refine br_t g3 ?_; conv => whnf) | (refine br_f g3 ?_; conv => whnf) | (refine br_t g4 ?_; conv => whnf) | (refine br_f g4 ?_; conv => whnf) | (refine br_t g5 ?_; conv => whnf) | (refine br_f g5 ?_; conv => whnf) | (refine br_t g6 ?_; conv => whnf) | (refine br_f g6 ?_; conv => whnf))
    exact ret_pure ⟨_, rfl⟩
  ·repeat (first | (intro _; conv => whnf) | (refine br_t rfl ?_; conv => whnf) | (refine br_f rfl ?_; conv => whnf) | (refine IdxN.lit rfl rfl ?_; conv => whnf) | (refine br_t g1 ?_; conv => whnf) | (refine br_f g1 ?_; conv => whnf) | (refine br_t g2 ?_; conv => whnf) | (refine br_f g2 ?_; conv => whnf) | (refine br_t g3 ?_; conv => whnf) | (refine br_f g3 ?_; conv => whnf) | (refine br_t g4 ?_; conv => whnf) | (refine br_f g4 ?_; conv => whnf) | (refine br_t g5 ?_; conv => whnf) | (refine br_f g5 ?_; conv => whnf) | (refine br_t g6 ?_; conv => whnf) | (refine br_f g6 ?_; conv => whnf))
   exact ret_pure ⟨_, rfl⟩
def tE : Value := .agg #[.string noText, .slice none 0 0, .slice none 0 0]
theorem tableT_spec (r p q p2 : Nat) (V : View) (hr : V.has r 0 (tvcells (tT p q) ++ tvcells (tU p2))) : PSpec 16 [tv3 r, .string (txt [116])] V (fun v _ => v = .tuple #[tabv (tT p q), .bool true]) := by
 refine does_of_zfun [] mixed (args := [.v _, .v _]) (ms := []) Tryz.func16 (by kernel_rfl) rfl ?_; conv => whnf
 repeat (first | (intro _; conv => whnf) | (refine br_t rfl ?_; conv => whnf) | (refine br_f rfl ?_; conv => whnf) | (refine IdxN.lit rfl rfl ?_; conv => whnf) | (refine LoadN.of (hr.mono le_auto) 0 rfl rfl ?_; conv => whnf) | (refine LoadN.of (hr.mono le_auto) 3 rfl rfl ?_; conv => whnf) | (refine br_t ?hb ?_; (case hb => simp [txt, ByteArray.toList_eq, tT, tU, noText]; done); conv => whnf) | (refine br_f ?hb ?_; (case hb => simp [txt, ByteArray.toList_eq, tT, tU, noText]; done); conv => whnf))
 refine unrollz 3 ?_; conv => whnf
 repeat (first | (intro _; conv => whnf) | (refine br_t rfl ?_; conv => whnf) | (refine br_f rfl ?_; conv => whnf) | (refine IdxN.lit rfl rfl ?_; conv => whnf) | (refine LoadN.of (hr.mono le_auto) 0 rfl rfl ?_; conv => whnf) | (refine LoadN.of (hr.mono le_auto) 3 rfl rfl ?_; conv => whnf) | (refine br_t ?hb ?_; (case hb => simp [txt, ByteArray.toList_eq, tT, tU, noText]; done); conv => whnf) | (refine br_f ?hb ?_; (case hb => simp [txt, ByteArray.toList_eq, tT, tU, noText]; done); conv => whnf))
 exact ret_pure rfl
theorem tableU_spec (r p q p2 : Nat) (V : View) (hr : V.has r 0 (tvcells (tT p q) ++ tvcells (tU p2))) : PSpec 16 [tv3 r, .string (txt [117])] V (fun v _ => v = .tuple #[tabv (tU p2), .bool true]) := by
 refine does_of_zfun [] mixed (args := [.v _, .v _]) (ms := []) Tryz.func16 (by kernel_rfl) rfl ?_; conv => whnf
 repeat (first | (intro _; conv => whnf) | (refine br_t rfl ?_; conv => whnf) | (refine br_f rfl ?_; conv => whnf) | (refine IdxN.lit rfl rfl ?_; conv => whnf) | (refine LoadN.of (hr.mono le_auto) 0 rfl rfl ?_; conv => whnf) | (refine LoadN.of (hr.mono le_auto) 3 rfl rfl ?_; conv => whnf) | (refine br_t ?hb ?_; (case hb => simp [txt, ByteArray.toList_eq, tT, tU, noText]; done); conv => whnf) | (refine br_f ?hb ?_; (case hb => simp [txt, ByteArray.toList_eq, tT, tU, noText]; done); conv => whnf))
 refine unrollz 3 ?_; conv => whnf
 repeat (first | (intro _; conv => whnf) | (refine br_t rfl ?_; conv => whnf) | (refine br_f rfl ?_; conv => whnf) | (refine IdxN.lit rfl rfl ?_; conv => whnf) | (refine LoadN.of (hr.mono le_auto) 0 rfl rfl ?_; conv => whnf) | (refine LoadN.of (hr.mono le_auto) 3 rfl rfl ?_; conv => whnf) | (refine br_t ?hb ?_; (case hb => simp [txt, ByteArray.toList_eq, tT, tU, noText]; done); conv => whnf) | (refine br_f ?hb ?_; (case hb => simp [txt, ByteArray.toList_eq, tT, tU, noText]; done); conv => whnf))
 exact ret_pure rfl
theorem tableN_spec (r p q p2 : Nat) (V : View) (hr : V.has r 0 (tvcells (tT p q) ++ tvcells (tU p2))) : PSpec 16 [tv3 r, .string (noText)] V (fun v _ => v = .tuple #[tE, .bool false]) := by
 refine does_of_zfun [] mixed (args := [.v _, .v _]) (ms := []) Tryz.func16 (by kernel_rfl) rfl ?_; conv => whnf
 repeat (first | (intro _; conv => whnf) | (refine br_t rfl ?_; conv => whnf) | (refine br_f rfl ?_; conv => whnf) | (refine IdxN.lit rfl rfl ?_; conv => whnf) | (refine LoadN.of (hr.mono le_auto) 0 rfl rfl ?_; conv => whnf) | (refine LoadN.of (hr.mono le_auto) 3 rfl rfl ?_; conv => whnf) | (refine br_t ?hb ?_; (case hb => simp [txt, ByteArray.toList_eq, tT, tU, noText]; done); conv => whnf) | (refine br_f ?hb ?_; (case hb => simp [txt, ByteArray.toList_eq, tT, tU, noText]; done); conv => whnf))
 refine unrollz 3 ?_; conv => whnf
 repeat (first | (intro _; conv => whnf) | (refine br_t rfl ?_; conv => whnf) | (refine br_f rfl ?_; conv => whnf) | (refine IdxN.lit rfl rfl ?_; conv => whnf) | (refine LoadN.of (hr.mono le_auto) 0 rfl rfl ?_; conv => whnf) | (refine LoadN.of (hr.mono le_auto) 3 rfl rfl ?_; conv => whnf) | (refine br_t ?hb ?_; (case hb => simp [txt, ByteArray.toList_eq, tT, tU, noText]; done); conv => whnf) | (refine br_f ?hb ?_; (case hb => simp [txt, ByteArray.toList_eq, tT, tU, noText]; done); conv => whnf))
 exact ret_pure rfl
end Go.Proofs.YtenpginanhnkbaaGreat
end
