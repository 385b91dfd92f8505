/- One part of a proof: an evaluator of the model, shown right, and contracts that it yields. No condition beyond those that each theorem names. -/
import Derived.Test.YtenpginanhnkbaaGreatCG
import Derived.Test.YtenpginanhnkbaaGreatCD
import Derived.Test.YtenpginanhnkbaaGreatXY
import Derived.Test.YtenpginanhnkbaaGreatCA
section
set_option linter.unusedSimpArgs false
set_option linter.unusedVariables false
namespace Go.Proofs.YtenpginanhnkbaaGreat
open Go.X
set_option maxRecDepth 100000
theorem ltR_of {k : Nat} {d : Bool} {r s : List Val} : ltR k d r s = (if d then decide (cmpV (keyX k s) (keyX k r) < 0) else decide (cmpV (keyX k s) (keyX k r) > 0)) := by
 unfold ltR ordX
 cases d
 ·simp only [Bool.false_eq_true, if_false]
  rw [cmpV_neg (keyX k s) (keyX k r)]
  congr 1
  apply propext
  constructor <;> intro h <;> omega
 ·simp
theorem insAt_mem {α : Type} {x y : α} {l : List α} {k : Nat} (h : y ∈ insAt x l k) : y = x ∨ y ∈ l := by
 unfold insAt at h
 rcases List.mem_append.1 h with h | h
 ·exact .inr (List.mem_of_mem_take h)
 ·rcases List.mem_cons.1 h with h | h
  ·exact .inl h
  ·exact .inr (List.mem_of_mem_drop h)
theorem one_of : ∀ {l : List Value}, (∀ v ∈ l, v.oneCell' = true) → allOne l = true
 | [], _ => rfl
 | v :: l, hl => by
  unfold allOne
  rw [hl v List.mem_cons_self]
  exact one_of fun x hx => hl x (List.mem_cons_of_mem _ hx)
theorem one_take {l : List Value} (h : allOne l = true) (k : Nat) : allOne (l.take k) = true := one_of fun v hv => allOne_spec h v (List.mem_of_mem_take hv)
theorem one_drop {l : List Value} (h : allOne l = true) (k : Nat) : allOne (l.drop k) = true := one_of fun v hv => allOne_spec h v (List.mem_of_mem_drop hv)
set_option maxHeartbeats 4000000 in
theorem rsort_spec (rows : List (List Val)) (rb : Option Addr) (rc : Nat) (k : Int) (d : Bool) (V : View) (hr : RowsAt V rows rb) (hs : rows.length ≤ 1000) (hw : ∀ r ∈ rows, r.length ≤ 1000) (hk : InR k)
  (hcmp : ∀ r ∈ rows, ∀ s ∈ rows, cmpR (keyX k.toNat s) (keyX k.toNat r) = cmpV (keyX k.toNat s) (keyX k.toNat r)) (htx : ∀ r ∈ rows, ∀ v ∈ r, (v.t.size : Int) ≤ 9223372036854775807) :
  PSpec 30 [.slice rb rows.length rc, .int .i64 k, .bool d] V (fun v V' => RowsV V' (sortX k d rows) v) := by
 refine does_of_zfun [(12, [(0, []), (1, []), (2, []), (3, []), (4, []), (5, []), (6, []), (7, []), (8, []), (9, []), (10, []), (11, []), (12, []), (13, []), (14, []), (15, []), (16, [])]), (15, [(1, []), (2, []), (3, []), (6, []), (7, []), (8, []), (9, []), (13, []), (14, []), (15, []), (0, [5]), (4, [5]), (5, []), (10, []), (11, []), (12, []), (16, []), (17, [])])] mixed (args := [.v _, .v _, .v _]) (ms := []) Tryz.func30 (by kernel_rfl) rfl ?_; conv => whnf
 refine loopz (σ := Nat) (fun i => [(0, .v (.slice rb rows.length rc)), (1, .v (.int .i64 k)), (2, .v (.bool d)), (7, .v (.slice none 0 0)), (8, .v (.bool (allHave k (rows.take i)))), (9, .v (.int .i64 i))]) (fun _ => [])
  (fun j i V' => V.le V' ∧ i ≤ rows.length ∧ rows.length - i = j) rows.length 0 ?_ ?_ ?_ ?_
 ·repeat' (first | exact sees_nil | refine sees_cons rfl rfl rfl ?_ | refine sees_cons rfl rfl (by rw [allHave]; simp [toVal]) ?_)
 ·exact keeps_nil
 ·exact ⟨View.le_refl _, Nat.zero_le _, rfl⟩
 rintro j i V' ⟨hV, hi, hj⟩
 conv => whnf
 apply br <;> intro g1 <;> conv => whnf
 ·have hi1 : i < rows.length := by have := of_decide_eq_true g1; omega
  obtain ⟨r, hr1⟩ : ∃ r, rows[i]? = some r := ⟨_, List.getElem?_eq_getElem hi1⟩
  have htake : allHave k (rows.take (i + 1)) = (allHave k (rows.take i) && decide (k < (r.length : Int))) := by
   unfold allHave
   rw [List.take_add_one, hr1, List.all_append, Bool.and_assoc]
   simp
  have hwi := wrap_nat (i := i) (by omega)
  apply br <;> intro g2 <;> conv => whnf
  ·obtain ⟨p, off, cv, rfl, hcell, hrow⟩ := hr.at hr1
   obtain ⟨rbase, rcap, hrv⟩ := row_shape hrow
   subst hrv
   refine IdxN.of (by omega) (by omega) ?_; conv => whnf
   refine LoadN.of (hcell.mono le_auto) 0 (by show off + i * 1 = off + i + 0; omega) rfl ?_; conv => whnf
   refine ⟨j - 1, i + 1, by omega, ?_, keeps_nil, hV, hi1, by omega⟩
   repeat' (first | exact sees_nil | refine sees_cons rfl rfl rfl ?_ | refine sees_cons rfl rfl (by rw [htake, g2, Bool.true_and]; rfl) ?_ | refine sees_cons rfl rfl (by rw [← hwi]; rfl) ?_)
  ·refine ⟨j - 1, i + 1, by omega, ?_, keeps_nil, hV, hi1, by omega⟩
   repeat' (first | exact sees_nil | refine sees_cons rfl rfl rfl ?_ | refine sees_cons rfl rfl (by rw [htake, g2]; rfl) ?_ | refine sees_cons rfl rfl (by rw [← hwi]; rfl) ?_)
 have hi1 : ¬ i < rows.length := by have := of_decide_eq_false g1; omega
 have hti : rows.take i = rows := List.take_of_length_le (by omega)
 have hWk : ∀ r ∈ rows, allHave k rows = true → 0 ≤ k ∧ k.toNat < r.length := fun r hr h => by
  rw [allHave, Bool.and_eq_true, List.all_eq_true] at h
  have h1 := of_decide_eq_true h.1
  have h2 := of_decide_eq_true (h.2 r hr)
  exact ⟨h1, by omega⟩
 have hfin := rsort_eq k d rows
 generalize hWd : allHave k rows = W at hWk hfin
 refine loopz (σ := Nat × Option Addr × Nat × List (List Val) × List Value) (fun x => [(0, .v (.slice rb rows.length rc)), (1, .v (.int .i64 k)), (2, .v (.bool d)), (7, .v (.slice x.2.1 x.2.2.2.1.length x.2.2.1)), (8, .v (.bool W)), (10, .v (.int .i64 x.1))]) (fun _ => [])
  (fun j x V2 => V'.le V2 ∧ x.1 ≤ rows.length ∧ rows.length - x.1 = j ∧ x.2.2.2.1.length = x.1 ∧ x.1 ≤ x.2.2.1 ∧ Plain x.2.1 ∧ CellsAt V2 x.2.2.2.1 x.2.2.2.2 ∧ V2.cells (.slice x.2.1 x.2.2.2.1.length x.2.2.1) x.2.2.2.2 ∧ (∀ s ∈ x.2.2.2.1, s ∈ rows) ∧ rsortF W k.toNat d x.2.2.2.1 (rows.drop x.1) = sortX k d rows) rows.length (0, none, 0, [], []) ?_ ?_ ?_ ?_
 ·repeat' (first | exact sees_nil | refine sees_cons rfl rfl rfl ?_ | refine sees_cons rfl rfl (by rw [hti, hWd]; rfl) ?_)
 ·exact keeps_nil
 ·exact ⟨View.le_refl _, Nat.zero_le _, rfl, rfl, Nat.le_refl _, .inl rfl, CellsAt.nil, rfl, fun s h => (by cases h), hfin⟩
 rintro j2 ⟨i2, base, cp, out, cells⟩ V2 ⟨hV2, hi2, hj2, hol, hcp, hpl, hca, hcl, hin, hrs⟩
 simp only at hi2 hj2 hol hcp hpl hca hcl hin hrs
 conv => whnf
 apply br <;> intro g3 <;> conv => whnf
 ·have hi3 : i2 < rows.length := by have := of_decide_eq_true g3; omega
  obtain ⟨r, hr1⟩ : ∃ r, rows[i2]? = some r := ⟨_, List.getElem?_eq_getElem hi3⟩
  have hrm := List.mem_of_getElem? hr1
  have hdrop : rows.drop i2 = r :: rows.drop (i2 + 1) := by
   rw [List.drop_eq_getElem_cons hi3]
   have e1 : rows[i2] = r := by rw [List.getElem?_eq_getElem hi3] at hr1; exact Option.some.inj hr1
   rw [e1]
  rw [hdrop, rsortF] at hrs
  have hwi := wrap_nat (i := i2) (by omega)
  obtain ⟨p, off, cv, hrb, hcell, hrow⟩ := hr.at hr1
  obtain ⟨rbase, rcap, hrv, hrp, hrva⟩ := hrow
  subst hrb; subst hrv
  repeat' ((first | refine br_t rfl ?_ | refine br_f rfl ?_ | refine IdxN.lit rfl rfl ?_ | intro _); conv => whnf)
  refine loopz (σ := Nat) (fun kk => [(0, .v (.slice (some ⟨p, off, none⟩) rows.length rc)), (1, .v (.int .i64 k)), (2, .v (.bool d)), (7, .v (.slice base out.length cp)), (8, .v (.bool W)), (10, .v (.int .i64 i2)), (11, .v (.int .i64 kk))]) (fun _ => [])
   (fun j kk V3 => V2.le V3 ∧ kk ≤ out.length ∧ kk = j ∧ placeX W k.toNat d r out out.length = placeX W k.toNat d r out kk) out.length out.length ?_ ?_ ?_ ?_
  ·repeat' (first | exact sees_nil | refine sees_cons rfl rfl rfl ?_)
  ·exact keeps_nil
  ·exact ⟨View.le_refl _, Nat.le_refl _, rfl, rfl⟩
  rintro j3 kk V3 ⟨hV3, hkk, hj3, hpx⟩
  conv => whnf
  apply br <;> intro g4 <;> conv => whnf
  ·have hkp : 0 < kk := by have := of_decide_eq_true g4; omega
   apply br <;> intro g5 <;> conv => whnf
   ·have g5 : W = true := g5
    obtain ⟨hk0, hkr⟩ := hWk r hrm g5
    obtain ⟨kn, hkn⟩ := Int.eq_ofNat_of_zero_le hk0
    subst hkn
    obtain ⟨s, hs1⟩ : ∃ s, out[kk - 1]? = some s := ⟨_, List.getElem?_eq_getElem (by omega)⟩
    have hsm := hin s (List.mem_of_getElem? hs1)
    obtain ⟨_, hks⟩ := hWk s hsm g5
    rw [Int.toNat_natCast] at hkr hks
    have hwk : IntKind.i64.wrap ((kk : Int) - 1) = ((kk - 1 : Nat) : Int) := by rw [wrapE]; omega
    obtain ⟨x, hx⟩ : ∃ x, s[kn]? = some x := ⟨_, List.getElem?_eq_getElem hks⟩
    obtain ⟨y, hy⟩ : ∃ y, r[kn]? = some y := ⟨_, List.getElem?_eq_getElem hkr⟩
    have ex : keyX (kn : Int).toNat s = x := by rw [Int.toNat_natCast, keyX, hx]
    have ey : keyX (kn : Int).toNat r = y := by rw [Int.toNat_natCast, keyX, hy]
    have hcc := hcmp r hrm s hsm
    rw [ex, ey] at hcc
    have hlt : ltR (kn : Int).toNat d r s = (if d then decide (cmpR x y < 0) else decide (cmpR x y > 0)) := by rw [ltR_of, ex, ey, hcc]
    obtain ⟨cs, hcs⟩ : ∃ cs, cells[kk - 1]? = some cs := ⟨_, List.getElem?_eq_getElem (by rw [hca.len]; omega)⟩
    obtain ⟨sb, sc, hsv, _, hsva⟩ := hca.at' (kk - 1) s cs hs1 hcs
    subst hsv
    obtain ⟨p3, o3, hb3, hh3⟩ := cells_some hcl (fun e => by rw [e] at hcs; simp at hcs)
    obtain ⟨p4, o4, hb4, hx4⟩ := hsva.at hx
    obtain ⟨p5, o5, hb5, hy5⟩ := hrva.at hy
    have hcell3 := has_one hh3 hcs
    have hbw : base = some ⟨p3, o3, none⟩ := hb3
    subst hb3; subst hb4; subst hb5
    refine IdxN.of (by omega) (by omega) ?_; conv => whnf
    refine LoadN.of (hcell3.mono le_auto) 0 (by show o3 + (IntKind.i64.wrap ((kk : Int) - 1)).toNat * 1 = o3 + (kk - 1) + 0; omega) rfl ?_; conv => whnf
    refine IdxN.of (by omega) (by omega) ?_; conv => whnf
    refine LoadN.of (hx4.mono le_auto) 0 rfl rfl ?_; conv => whnf
    refine IdxN.of (by omega) (by omega) ?_; conv => whnf
    refine LoadN.of (hcell.mono le_auto) 0 (by show off + i2 * 1 = off + i2 + 0; omega) rfl ?_; conv => whnf
    refine IdxN.of (by omega) (by omega) ?_; conv => whnf
    refine LoadN.of (hy5.mono le_auto) 0 rfl rfl ?_; conv => whnf
    refine CallN.pure (rcmpv_spec x y (htx s hsm x (List.mem_of_getElem? hx)) _) fun v V4 _ hV4 hv => ?_
    subst hv
    refine Prot.refl ?_
    have hstop : ltR (kn : Int).toNat d r s = false → placeX W (kn : Int).toNat d r out out.length = kk := fun h => by
     obtain ⟨k1, hk1⟩ : ∃ k1, kk = k1 + 1 := ⟨kk - 1, by omega⟩
     subst hk1
     rw [hpx, placeX, if_pos g5, kOf]
     rw [Nat.add_sub_cancel] at hs1
     rw [hs1]; simp only [h]; rfl
    have hgo : ltR (kn : Int).toNat d r s = true → placeX W (kn : Int).toNat d r out out.length = placeX W (kn : Int).toNat d r out (kk - 1) := fun h => by
     obtain ⟨k1, hk1⟩ : ∃ k1, kk = k1 + 1 := ⟨kk - 1, by omega⟩
     subst hk1
     rw [hpx, placeX, placeX, if_pos g5, if_pos g5, kOf]
     rw [Nat.add_sub_cancel] at hs1 ⊢
     rw [hs1]; simp only [h, if_true]
    have hkkw := hwk
    cases d
    ·conv => whnf
     repeat' ((first | refine br_t rfl ?_ | refine br_f rfl ?_ | refine IdxN.lit rfl rfl ?_ | intro _); conv => whnf)
     apply br <;> intro g7 <;> conv => whnf
     ·have hpx2 : placeX W (kn : Int).toNat false r out out.length = kk := hstop (by rw [hlt]; have := of_decide_eq_true g7; simp; omega)
      have hpos := hpx2
      rw [hpos] at hrs
      have hcn : cells.length = out.length := hca.len
      have h1c := cells_one hca
      refine ⟨⟨_, fun w => slice_hiP _ _ hpl out.length cp kk under63 size63 (by omega) w, ?_⟩⟩
      conv => whnf
      refine IdxN.of (by omega) (by omega) ?_; conv => whnf
      refine LoadN.of (hcell.mono le_auto) 0 (by show off + i2 * 1 = off + i2 + 0; omega) rfl ?_; conv => whnf
      refine ⟨⟨_, fun w => slice_loP _ _ hpl out.length cp kk under63 size63 hkk w, ?_⟩⟩
      conv => whnf
      repeat' ((first | refine br_t rfl ?_ | refine br_f rfl ?_ | refine IdxN.lit rfl rfl ?_ | intro _); conv => whnf)
      refine AppN.to kk (Nat.zero_add _) [] (cells.take kk) (fun i v hv => by simp at hv) rfl (cells_take (hcl.mono le_auto) hpl kk) (by rw [List.length_take, hcn, Nat.min_eq_left hkk]; exact (Nat.mul_one _).symm) (one_take h1c kk) (by omega) (by decide) fun b5 c5 V5 hV5 hc5 => ?_; conv => whnf
      repeat' ((first | refine br_t rfl ?_ | refine br_f rfl ?_ | refine IdxN.lit rfl rfl ?_ | intro _); conv => whnf)
      refine AppN.toR r.length (Nat.zero_add _) [] (r.flatMap vcells) (fun i v hv => by simp at hv) rfl (row_news hrp (hrva.mono le_auto)) (flat_len (f := vcells) (n := 3) (fun _ => rfl) _) (allOne_flat r) (by have := hw r hrm; omega) (by decide) fun b6 c6 V6 hV6 hc6 _ => ?_; conv => whnf
      have hrow6 : RowAt V6 r (.slice b6 r.length c6) := ⟨b6, c6, rfl, .inr (plain_cells hc6), ValsAt.of_cells hc6 (by have := hw r hrm; omega)⟩
      repeat' ((first | refine br_t rfl ?_ | refine br_f rfl ?_ | refine IdxN.lit rfl rfl ?_ | intro _); conv => whnf)
      rename_i l2 lk2
      refine AppN.to (kk + 1) rfl (cells.take kk) [.slice b6 r.length c6] (hc5.mono le_auto) (by rw [List.length_take, hcn, Nat.min_eq_left hkk]; exact (Nat.mul_one _).symm) lk2.has rfl rfl (by omega) (by decide) fun b7 c7 V7 hV7 hc7 => ?_; conv => whnf
      refine AppN.toc (out.length + 1) (by omega) (cells.take kk ++ [.slice b6 r.length c6]) (cells.drop kk) hc7 (by rw [List.length_append, List.length_take, hcn, Nat.min_eq_left hkk]; exact (Nat.mul_one _).symm) (cells_drop (hcl.mono le_auto) hpl kk (by omega)) (by rw [List.length_drop, hcn]; exact (Nat.mul_one _).symm) (one_drop h1c kk) (by omega) (by decide) fun b8 c8 V8 hV8 hc8 hcp8 => ?_; conv => whnf
      have hc8 : V8.cells (.slice b8 (insAt r out kk).length c8) (insAt (.slice b6 r.length c6) cells kk) := by
       rw [insAt_len, insAt]
       simpa using hc8
      refine ⟨j2 - 1, (i2 + 1, b8, c8, insAt r out kk, insAt (.slice b6 r.length c6) cells kk), by omega, ?_, keeps_nil, View.le_trans hV2 le_auto, hi3, by show _ - (i2 + 1) = _; omega, by show (insAt r out kk).length = i2 + 1; rw [insAt_len, hol], by show i2 + 1 ≤ c8; omega, plain_cells hc8, (hca.mono le_auto).ins (hrow6.mono le_auto) kk, hc8, fun s hs => ?_, hrs⟩
      ·repeat' (first | exact sees_nil | refine sees_cons rfl rfl rfl ?_ | refine sees_cons rfl rfl (by rw [insAt_len]; rfl) ?_ | refine sees_cons rfl rfl (by rw [← hwi]; rfl) ?_)
      ·rcases insAt_mem hs with rfl | hs
       ·exact hrm
       ·exact hin s hs
     ·have h7 : ¬ cmpR x y ≤ 0 := of_decide_eq_false g7
      refine ⟨j3 - 1, kk - 1, by omega, ?_, keeps_nil, View.le_trans hV3 le_auto, by omega, by omega, hgo (by rw [hlt]; simp; omega)⟩
      repeat' (first | exact sees_nil | refine sees_cons rfl rfl rfl ?_ | refine sees_cons rfl rfl (by rw [← hwk]; rfl) ?_)
    ·conv => whnf
     repeat' ((first | refine br_t rfl ?_ | refine br_f rfl ?_ | refine IdxN.lit rfl rfl ?_ | intro _); conv => whnf)
     apply br <;> intro g7 <;> conv => whnf
     ·have hpx2 : placeX W (kn : Int).toNat true r out out.length = kk := hstop (by rw [hlt]; have := of_decide_eq_true g7; simp; omega)
      repeat (first | (refine br_t g7 ?_; conv => whnf) | (refine br_t rfl ?_; conv => whnf) | (refine br_f rfl ?_; conv => whnf))
      have hpos := hpx2
      rw [hpos] at hrs
      have hcn : cells.length = out.length := hca.len
      have h1c := cells_one hca
      refine ⟨⟨_, fun w => slice_hiP _ _ hpl out.length cp kk under63 size63 (by omega) w, ?_⟩⟩
      conv => whnf
      refine IdxN.of (by omega) (by omega) ?_; conv => whnf
      refine LoadN.of (hcell.mono le_auto) 0 (by show off + i2 * 1 = off + i2 + 0; omega) rfl ?_; conv => whnf
      refine ⟨⟨_, fun w => slice_loP _ _ hpl out.length cp kk under63 size63 hkk w, ?_⟩⟩
      conv => whnf
      repeat' ((first | refine br_t rfl ?_ | refine br_f rfl ?_ | refine IdxN.lit rfl rfl ?_ | intro _); conv => whnf)
      refine AppN.to kk (Nat.zero_add _) [] (cells.take kk) (fun i v hv => by simp at hv) rfl (cells_take (hcl.mono le_auto) hpl kk) (by rw [List.length_take, hcn, Nat.min_eq_left hkk]; exact (Nat.mul_one _).symm) (one_take h1c kk) (by omega) (by decide) fun b5 c5 V5 hV5 hc5 => ?_; conv => whnf
      repeat' ((first | refine br_t rfl ?_ | refine br_f rfl ?_ | refine IdxN.lit rfl rfl ?_ | intro _); conv => whnf)
      refine AppN.toR r.length (Nat.zero_add _) [] (r.flatMap vcells) (fun i v hv => by simp at hv) rfl (row_news hrp (hrva.mono le_auto)) (flat_len (f := vcells) (n := 3) (fun _ => rfl) _) (allOne_flat r) (by have := hw r hrm; omega) (by decide) fun b6 c6 V6 hV6 hc6 _ => ?_; conv => whnf
      have hrow6 : RowAt V6 r (.slice b6 r.length c6) := ⟨b6, c6, rfl, .inr (plain_cells hc6), ValsAt.of_cells hc6 (by have := hw r hrm; omega)⟩
      repeat' ((first | refine br_t rfl ?_ | refine br_f rfl ?_ | refine IdxN.lit rfl rfl ?_ | intro _); conv => whnf)
      rename_i l2 lk2
      refine AppN.to (kk + 1) rfl (cells.take kk) [.slice b6 r.length c6] (hc5.mono le_auto) (by rw [List.length_take, hcn, Nat.min_eq_left hkk]; exact (Nat.mul_one _).symm) lk2.has rfl rfl (by omega) (by decide) fun b7 c7 V7 hV7 hc7 => ?_; conv => whnf
      refine AppN.toc (out.length + 1) (by omega) (cells.take kk ++ [.slice b6 r.length c6]) (cells.drop kk) hc7 (by rw [List.length_append, List.length_take, hcn, Nat.min_eq_left hkk]; exact (Nat.mul_one _).symm) (cells_drop (hcl.mono le_auto) hpl kk (by omega)) (by rw [List.length_drop, hcn]; exact (Nat.mul_one _).symm) (one_drop h1c kk) (by omega) (by decide) fun b8 c8 V8 hV8 hc8 hcp8 => ?_; conv => whnf
      have hc8 : V8.cells (.slice b8 (insAt r out kk).length c8) (insAt (.slice b6 r.length c6) cells kk) := by
       rw [insAt_len, insAt]
       simpa using hc8
      refine ⟨j2 - 1, (i2 + 1, b8, c8, insAt r out kk, insAt (.slice b6 r.length c6) cells kk), by omega, ?_, keeps_nil, View.le_trans hV2 le_auto, hi3, by show _ - (i2 + 1) = _; omega, by show (insAt r out kk).length = i2 + 1; rw [insAt_len, hol], by show i2 + 1 ≤ c8; omega, plain_cells hc8, (hca.mono le_auto).ins (hrow6.mono le_auto) kk, hc8, fun s hs => ?_, hrs⟩
      ·repeat' (first | exact sees_nil | refine sees_cons rfl rfl rfl ?_ | refine sees_cons rfl rfl (by rw [insAt_len]; rfl) ?_ | refine sees_cons rfl rfl (by rw [← hwi]; rfl) ?_)
      ·rcases insAt_mem hs with rfl | hs
       ·exact hrm
       ·exact hin s hs
     ·have h7 : ¬ cmpR x y ≥ 0 := of_decide_eq_false g7
      repeat (first | (refine br_f g7 ?_; conv => whnf) | (refine br_t rfl ?_; conv => whnf) | (refine br_f rfl ?_; conv => whnf))
      refine ⟨j3 - 1, kk - 1, by omega, ?_, keeps_nil, View.le_trans hV3 le_auto, by omega, by omega, hgo (by rw [hlt]; simp; omega)⟩
      repeat' (first | exact sees_nil | refine sees_cons rfl rfl rfl ?_ | refine sees_cons rfl rfl (by rw [← hwk]; rfl) ?_)
   ·repeat (refine br_f g5 ?_; conv => whnf)
    have g5 : W = false := g5
    have hpx2 : placeX W k.toNat d r out out.length = kk := by rw [hpx, placeX, if_neg (by rw [g5]; simp)]
    have hpos := hpx2
    rw [hpos] at hrs
    have hcn : cells.length = out.length := hca.len
    have h1c := cells_one hca
    refine ⟨⟨_, fun w => slice_hiP _ _ hpl out.length cp kk under63 size63 (by omega) w, ?_⟩⟩
    conv => whnf
    refine IdxN.of (by omega) (by omega) ?_; conv => whnf
    refine LoadN.of (hcell.mono le_auto) 0 (by show off + i2 * 1 = off + i2 + 0; omega) rfl ?_; conv => whnf
    refine ⟨⟨_, fun w => slice_loP _ _ hpl out.length cp kk under63 size63 hkk w, ?_⟩⟩
    conv => whnf
    repeat' ((first | refine br_t rfl ?_ | refine br_f rfl ?_ | refine IdxN.lit rfl rfl ?_ | intro _); conv => whnf)
    refine AppN.to kk (Nat.zero_add _) [] (cells.take kk) (fun i v hv => by simp at hv) rfl (cells_take (hcl.mono le_auto) hpl kk) (by rw [List.length_take, hcn, Nat.min_eq_left hkk]; exact (Nat.mul_one _).symm) (one_take h1c kk) (by omega) (by decide) fun b5 c5 V5 hV5 hc5 => ?_; conv => whnf
    repeat' ((first | refine br_t rfl ?_ | refine br_f rfl ?_ | refine IdxN.lit rfl rfl ?_ | intro _); conv => whnf)
    refine AppN.toR r.length (Nat.zero_add _) [] (r.flatMap vcells) (fun i v hv => by simp at hv) rfl (row_news hrp (hrva.mono le_auto)) (flat_len (f := vcells) (n := 3) (fun _ => rfl) _) (allOne_flat r) (by have := hw r hrm; omega) (by decide) fun b6 c6 V6 hV6 hc6 _ => ?_; conv => whnf
    have hrow6 : RowAt V6 r (.slice b6 r.length c6) := ⟨b6, c6, rfl, .inr (plain_cells hc6), ValsAt.of_cells hc6 (by have := hw r hrm; omega)⟩
    repeat' ((first | refine br_t rfl ?_ | refine br_f rfl ?_ | refine IdxN.lit rfl rfl ?_ | intro _); conv => whnf)
    rename_i l2 lk2
    refine AppN.to (kk + 1) rfl (cells.take kk) [.slice b6 r.length c6] (hc5.mono le_auto) (by rw [List.length_take, hcn, Nat.min_eq_left hkk]; exact (Nat.mul_one _).symm) lk2.has rfl rfl (by omega) (by decide) fun b7 c7 V7 hV7 hc7 => ?_; conv => whnf
    refine AppN.toc (out.length + 1) (by omega) (cells.take kk ++ [.slice b6 r.length c6]) (cells.drop kk) hc7 (by rw [List.length_append, List.length_take, hcn, Nat.min_eq_left hkk]; exact (Nat.mul_one _).symm) (cells_drop (hcl.mono le_auto) hpl kk (by omega)) (by rw [List.length_drop, hcn]; exact (Nat.mul_one _).symm) (one_drop h1c kk) (by omega) (by decide) fun b8 c8 V8 hV8 hc8 hcp8 => ?_; conv => whnf
    have hc8 : V8.cells (.slice b8 (insAt r out kk).length c8) (insAt (.slice b6 r.length c6) cells kk) := by
     rw [insAt_len, insAt]
     simpa using hc8
    refine ⟨j2 - 1, (i2 + 1, b8, c8, insAt r out kk, insAt (.slice b6 r.length c6) cells kk), by omega, ?_, keeps_nil, View.le_trans hV2 le_auto, hi3, by show _ - (i2 + 1) = _; omega, by show (insAt r out kk).length = i2 + 1; rw [insAt_len, hol], by show i2 + 1 ≤ c8; omega, plain_cells hc8, (hca.mono le_auto).ins (hrow6.mono le_auto) kk, hc8, fun s hs => ?_, hrs⟩
    ·repeat' (first | exact sees_nil | refine sees_cons rfl rfl rfl ?_ | refine sees_cons rfl rfl (by rw [insAt_len]; rfl) ?_ | refine sees_cons rfl rfl (by rw [← hwi]; rfl) ?_)
    ·rcases insAt_mem hs with rfl | hs
     ·exact hrm
     ·exact hin s hs
  ·have hkp : kk = 0 := by have := of_decide_eq_false g4; omega
   repeat (refine br_f g4 ?_; conv => whnf)
   have hpx2 : placeX W k.toNat d r out out.length = kk := by rw [hpx, hkp, placeX]; cases W <;> rfl
   have hpos := hpx2
   rw [hpos] at hrs
   have hcn : cells.length = out.length := hca.len
   have h1c := cells_one hca
   refine ⟨⟨_, fun w => slice_hiP _ _ hpl out.length cp kk under63 size63 (by omega) w, ?_⟩⟩
   conv => whnf
   refine IdxN.of (by omega) (by omega) ?_; conv => whnf
   refine LoadN.of (hcell.mono le_auto) 0 (by show off + i2 * 1 = off + i2 + 0; omega) rfl ?_; conv => whnf
   refine ⟨⟨_, fun w => slice_loP _ _ hpl out.length cp kk under63 size63 hkk w, ?_⟩⟩
   conv => whnf
   repeat' ((first | refine br_t rfl ?_ | refine br_f rfl ?_ | refine IdxN.lit rfl rfl ?_ | intro _); conv => whnf)
   refine AppN.to kk (Nat.zero_add _) [] (cells.take kk) (fun i v hv => by simp at hv) rfl (cells_take (hcl.mono le_auto) hpl kk) (by rw [List.length_take, hcn, Nat.min_eq_left hkk]; exact (Nat.mul_one _).symm) (one_take h1c kk) (by omega) (by decide) fun b5 c5 V5 hV5 hc5 => ?_; conv => whnf
   repeat' ((first | refine br_t rfl ?_ | refine br_f rfl ?_ | refine IdxN.lit rfl rfl ?_ | intro _); conv => whnf)
   refine AppN.toR r.length (Nat.zero_add _) [] (r.flatMap vcells) (fun i v hv => by simp at hv) rfl (row_news hrp (hrva.mono le_auto)) (flat_len (f := vcells) (n := 3) (fun _ => rfl) _) (allOne_flat r) (by have := hw r hrm; omega) (by decide) fun b6 c6 V6 hV6 hc6 _ => ?_; conv => whnf
   have hrow6 : RowAt V6 r (.slice b6 r.length c6) := ⟨b6, c6, rfl, .inr (plain_cells hc6), ValsAt.of_cells hc6 (by have := hw r hrm; omega)⟩
   repeat' ((first | refine br_t rfl ?_ | refine br_f rfl ?_ | refine IdxN.lit rfl rfl ?_ | intro _); conv => whnf)
   rename_i l2 lk2
   refine AppN.to (kk + 1) rfl (cells.take kk) [.slice b6 r.length c6] (hc5.mono le_auto) (by rw [List.length_take, hcn, Nat.min_eq_left hkk]; exact (Nat.mul_one _).symm) lk2.has rfl rfl (by omega) (by decide) fun b7 c7 V7 hV7 hc7 => ?_; conv => whnf
   refine AppN.toc (out.length + 1) (by omega) (cells.take kk ++ [.slice b6 r.length c6]) (cells.drop kk) hc7 (by rw [List.length_append, List.length_take, hcn, Nat.min_eq_left hkk]; exact (Nat.mul_one _).symm) (cells_drop (hcl.mono le_auto) hpl kk (by omega)) (by rw [List.length_drop, hcn]; exact (Nat.mul_one _).symm) (one_drop h1c kk) (by omega) (by decide) fun b8 c8 V8 hV8 hc8 hcp8 => ?_; conv => whnf
   have hc8 : V8.cells (.slice b8 (insAt r out kk).length c8) (insAt (.slice b6 r.length c6) cells kk) := by
    rw [insAt_len, insAt]
    simpa using hc8
   refine ⟨j2 - 1, (i2 + 1, b8, c8, insAt r out kk, insAt (.slice b6 r.length c6) cells kk), by omega, ?_, keeps_nil, View.le_trans hV2 le_auto, hi3, by show _ - (i2 + 1) = _; omega, by show (insAt r out kk).length = i2 + 1; rw [insAt_len, hol], by show i2 + 1 ≤ c8; omega, plain_cells hc8, (hca.mono le_auto).ins (hrow6.mono le_auto) kk, hc8, fun s hs => ?_, hrs⟩
   ·repeat' (first | exact sees_nil | refine sees_cons rfl rfl rfl ?_ | refine sees_cons rfl rfl (by rw [insAt_len]; rfl) ?_ | refine sees_cons rfl rfl (by rw [← hwi]; rfl) ?_)
   ·rcases insAt_mem hs with rfl | hs
    ·exact hrm
    ·exact hin s hs
 ·have hi3 : ¬ i2 < rows.length := by have := of_decide_eq_false g3; omega
  repeat' ((first | refine br_t rfl ?_ | refine br_f rfl ?_ | refine IdxN.lit rfl rfl ?_ | intro _); conv => whnf)
  rw [List.drop_eq_nil_of_le (by omega), rsortF] at hrs
  exact ret_pure ⟨base, cp, by rw [← hrs]; rfl, hpl, hrs ▸ RowsAt.of_cells hca hcl (by omega)⟩
/-- of one sort: numbers without a text, or texts without a number -/
def Tidy (x : Val) : Prop := (x.k = 1 → x.t.toList = []) ∧ (x.k ≠ 1 → x.n = 0)
theorem tidy_cmp {x y : Val} (hx : Tidy x) (hy : Tidy y) : cmpR x y = cmpV x y := by
 unfold cmpR cmpV
 by_cases h1 : x.k < y.k
 ·rw [if_pos h1]
  have : cmpI x.k y.k = -1 := by unfold cmpI; rw [if_pos h1]
  rw [this]; rfl
 ·rw [if_neg h1]
  by_cases h2 : y.k < x.k
  ·rw [if_pos h2]
   have : cmpI x.k y.k = 1 := by unfold cmpI; rw [if_neg h1, if_pos h2]
   rw [this]; rfl
  ·rw [if_neg h2]
   have hk : x.k = y.k := by omega
   have : cmpI x.k y.k = 0 := by rw [hk, cmpI_self]
   rw [this, zero_orI]
   by_cases h3 : x.k = 1
   ·rw [if_pos h3, cmpS_empty (hx.1 h3) (hy.1 (hk ▸ h3)), orI_zero]
   ·rw [if_neg h3, hx.2 h3, hy.2 (hk ▸ h3), cmpI_self, zero_orI]
def kindsOf (t : TabV) : List Int := t.cols.map (·.kind)
def tv3 (r : Nat) : Value := .agg #[.slice (some ⟨r, 0, none⟩) 2 2, .slice none 0 0]
theorem items_snoc (t : TabV) (i : Nat) (c : ColT) (h : t.cols[i]? = some c) : (itemsOf t).take (i + 1) = (itemsOf t).take i ++ [⟨0, t.nm, c.nm⟩] := by
 rw [List.take_add_one, itemsOf, List.getElem?_map, h]; rfl
theorem kinds_snoc (t : TabV) (i : Nat) (c : ColT) (h : t.cols[i]? = some c) : (kindsOf t).take (i + 1) = (kindsOf t).take i ++ [c.kind] := by
 rw [List.take_add_one, kindsOf, List.getElem?_map, h]; rfl
/-- a table's columns, and their kinds: both lists may be appended to -/
def ColsO (t : TabV) (v : Value) (V' : View) (bs : List Res) : Prop := ∃ a ac b bc, v = .tuple #[.slice a t.cols.length ac, .slice b t.cols.length bc] ∧ V'.cells (.slice a t.cols.length ac) ((itemsOf t).flatMap icells) ∧ V'.cells (.slice b t.cols.length bc) ((kindsOf t).map (.int .i64 ·)) ∧
 bs = [.row (.slice a t.cols.length ac) 68 3 t.cols.length, .row (.slice b t.cols.length bc) 3 1 t.cols.length]
set_option maxHeartbeats 4000000 in
theorem colsP_spec (t : TabV) (V : View) (ht : TabOk V t) : Does Tryz.prog 39 [tabv t] V [] (ColsO t) := by
 obtain ⟨tnm, tp, tcols, tcap, tq, tql, tqc⟩ := t
 have hsm : tcols.length ≤ 20 := ht.small
 have hhas : V.has tp 0 (tcols.flatMap ccells) := ht.has
 refine does_of_zfun [(6, [(0, []), (1, []), (2, []), (3, []), (4, []), (5, []), (6, []), (7, []), (8, []), (9, []), (12, []), (13, []), (14, []), (15, []), (16, []), (17, []), (18, []), (10, [19]), (11, [19]), (19, []), (20, []), (21, []), (22, [])])] mixed (args := [.v _]) (ms := []) Tryz.func39 (by kernel_rfl) rfl ?_; conv => whnf
 repeat' ((first | refine br_t rfl ?_ | refine br_f rfl ?_ | refine IdxN.lit rfl rfl ?_ | intro _); conv => whnf)
 rename_i b1
 refine loopz (σ := Nat × (Option Addr × Nat) × (Option Addr × Nat))
  (fun x => [(1, .own 1 0), (4, .row 25), (5, .row 34), (6, .v (.int .i64 x.1))])
  (fun x => [(1, .box b1 33 [.string tnm, .slice (some ⟨tp, 0, none⟩) tcols.length tcap, .slice tq tql tqc]), (25, .row (.slice x.2.1.1 x.1 x.2.1.2) 68 3 x.1), (34, .row (.slice x.2.2.1 x.1 x.2.2.2) 3 1 x.1)])
  (fun j x V' => V.le V' ∧ x.1 ≤ tcols.length ∧ tcols.length - x.1 = j ∧ V'.cells (.slice x.2.1.1 x.1 x.2.1.2) (((itemsOf ⟨tnm, tp, tcols, tcap, tq, tql, tqc⟩).take x.1).flatMap icells) ∧ V'.cells (.slice x.2.2.1 x.1 x.2.2.2) (((kindsOf ⟨tnm, tp, tcols, tcap, tq, tql, tqc⟩).take x.1).map (.int .i64 ·)))
  tcols.length (0, (none, 0), (none, 0)) ?_ ?_ ?_ ?_
 ·repeat' (first | exact sees_nil | refine sees_cons rfl rfl rfl ?_)
 ·repeat' (first | exact keeps_nil | refine keeps_cons rfl ?_ | refine keeps_free ?_)
 ·exact ⟨View.le_refl _, Nat.zero_le _, rfl, rfl, rfl⟩
 rintro j ⟨i, ⟨a, ac⟩, ⟨b, bc⟩⟩ V' ⟨hV, hi, hj, h1, h2⟩
 simp only at hi hj h1 h2
 conv => whnf
 apply br <;> intro h3 <;> conv => whnf
 ·have hi1 : i < tcols.length := by have := of_decide_eq_true h3; omega
  obtain ⟨c, hc1⟩ : ∃ c, tcols[i]? = some c := ⟨_, List.getElem?_eq_getElem hi1⟩
  have hcc := has_flat (n := 3) (fun _ => rfl) tcols 0 hhas i c hc1
  refine IdxN.of (by omega) (by omega) ?_; conv => whnf
  refine LoadN.of (hcc.mono le_auto) 0 rfl rfl ?_; conv => whnf
  refine IdxN.of (by omega) (by omega) ?_; conv => whnf
  refine LoadN.of (hcc.mono le_auto) 1 rfl rfl ?_; conv => whnf
  repeat' ((first | refine br_t rfl ?_ | refine br_f rfl ?_ | refine IdxN.lit rfl rfl ?_ | intro _); conv => whnf)
  rename_i lb lk
  have hl1 : (((itemsOf ⟨tnm, tp, tcols, tcap, tq, tql, tqc⟩).take i).flatMap icells).length = i * 3 := by
   rw [flat_len (n := 3) (fun _ => rfl), List.length_take, itemsOf_len]
   show min i tcols.length * 3 = _
   rw [Nat.min_eq_left hi]
  have hl2 : (((kindsOf ⟨tnm, tp, tcols, tcap, tq, tql, tqc⟩).take i).map (Value.int .i64 ·)).length = i * 1 := by
   rw [List.length_map, List.length_take]
   simp only [kindsOf, List.length_map]
   omega
  refine AppN.to (i + 1) rfl (((itemsOf ⟨tnm, tp, tcols, tcap, tq, tql, tqc⟩).take i).flatMap icells) (icells ⟨0, tnm, c.nm⟩) (h1.mono le_auto) hl1 lk.has rfl rfl (by omega) (by decide) fun a' ac' V3 hV3 hc3 => ?_; conv => whnf
  repeat' ((first | refine br_t rfl ?_ | refine br_f rfl ?_ | refine IdxN.lit rfl rfl ?_ | intro _); conv => whnf)
  rename_i lb2 lk2
  refine AppN.to (i + 1) rfl (((kindsOf ⟨tnm, tp, tcols, tcap, tq, tql, tqc⟩).take i).map (Value.int .i64 ·)) [Value.int .i64 c.kind] (h2.mono le_auto) hl2 lk2.has rfl rfl (by omega) (by decide) fun b' bc' V4 hV4 hc4 => ?_; conv => whnf
  have hwi := wrap_nat (i := i) (by omega)
  refine ⟨j - 1, (i + 1, (a', ac'), (b', bc')), by omega, ?_, ?_, ?_⟩
  ·repeat' (first | exact sees_nil | refine sees_cons rfl rfl rfl ?_ | refine sees_cons rfl rfl (by rw [← hwi]; rfl) ?_)
  ·repeat' (first | exact keeps_nil | refine keeps_cons rfl ?_ | refine keeps_free ?_)
  ·refine ⟨View.le_trans hV le_auto, hi1, by show _ - (i + 1) = _; omega, ?_, ?_⟩
   ·show V4.cells (.slice a' (i + 1) ac') _
    rw [items_snoc _ i c hc1, List.flatMap_append]
    simpa using hc3.mono le_auto
   ·show V4.cells (.slice b' (i + 1) bc') _
    rw [kinds_snoc _ i c hc1, List.map_append]
    exact hc4
 ·have hi1 : i = tcols.length := by have := of_decide_eq_false h3; omega
  subst hi1
  repeat' ((first | refine br_t rfl ?_ | refine br_f rfl ?_ | refine IdxN.lit rfl rfl ?_ | intro _); conv => whnf)
  refine ⟨[25, 34], by simp, [_, _], rfl, a, ac, b, bc, rfl, ?_, ?_, rfl⟩
  ·rw [List.take_of_length_le (by rw [itemsOf_len]; exact Nat.le_refl _)] at h1; exact h1
  ·rw [List.take_of_length_le (by simp [kindsOf])] at h2; exact h2
set_option maxHeartbeats 4000000 in
theorem colsR_spec (t : TabV) (V : View) (ht : TabOk V t) : Does Tryz.prog 24 [tabv t] V [] (ColsO t) := by
 obtain ⟨tnm, tp, tcols, tcap, tq, tql, tqc⟩ := t
 have hsm : tcols.length ≤ 20 := ht.small
 have hhas : V.has tp 0 (tcols.flatMap ccells) := ht.has
 refine does_of_zfun [(6, [(0, []), (1, []), (2, []), (3, []), (4, []), (5, []), (6, []), (7, []), (8, []), (9, []), (12, []), (13, []), (14, []), (15, []), (16, []), (17, []), (18, []), (10, [19]), (11, [19]), (19, []), (20, []), (21, []), (22, [])])] mixed (args := [.v _]) (ms := []) Tryz.func24 (by kernel_rfl) rfl ?_; conv => whnf
 repeat' ((first | refine br_t rfl ?_ | refine br_f rfl ?_ | refine IdxN.lit rfl rfl ?_ | intro _); conv => whnf)
 rename_i b1
 refine loopz (σ := Nat × (Option Addr × Nat) × (Option Addr × Nat))
  (fun x => [(1, .own 1 0), (4, .row 25), (5, .row 34), (6, .v (.int .i64 x.1))])
  (fun x => [(1, .box b1 33 [.string tnm, .slice (some ⟨tp, 0, none⟩) tcols.length tcap, .slice tq tql tqc]), (25, .row (.slice x.2.1.1 x.1 x.2.1.2) 68 3 x.1), (34, .row (.slice x.2.2.1 x.1 x.2.2.2) 3 1 x.1)])
  (fun j x V' => V.le V' ∧ x.1 ≤ tcols.length ∧ tcols.length - x.1 = j ∧ V'.cells (.slice x.2.1.1 x.1 x.2.1.2) (((itemsOf ⟨tnm, tp, tcols, tcap, tq, tql, tqc⟩).take x.1).flatMap icells) ∧ V'.cells (.slice x.2.2.1 x.1 x.2.2.2) (((kindsOf ⟨tnm, tp, tcols, tcap, tq, tql, tqc⟩).take x.1).map (.int .i64 ·)))
  tcols.length (0, (none, 0), (none, 0)) ?_ ?_ ?_ ?_
 ·repeat' (first | exact sees_nil | refine sees_cons rfl rfl rfl ?_)
 ·repeat' (first | exact keeps_nil | refine keeps_cons rfl ?_ | refine keeps_free ?_)
 ·exact ⟨View.le_refl _, Nat.zero_le _, rfl, rfl, rfl⟩
 rintro j ⟨i, ⟨a, ac⟩, ⟨b, bc⟩⟩ V' ⟨hV, hi, hj, h1, h2⟩
 simp only at hi hj h1 h2
 conv => whnf
 apply br <;> intro h3 <;> conv => whnf
 ·have hi1 : i < tcols.length := by have := of_decide_eq_true h3; omega
  obtain ⟨c, hc1⟩ : ∃ c, tcols[i]? = some c := ⟨_, List.getElem?_eq_getElem hi1⟩
  have hcc := has_flat (n := 3) (fun _ => rfl) tcols 0 hhas i c hc1
  refine IdxN.of (by omega) (by omega) ?_; conv => whnf
  refine LoadN.of (hcc.mono le_auto) 0 rfl rfl ?_; conv => whnf
  refine IdxN.of (by omega) (by omega) ?_; conv => whnf
  refine LoadN.of (hcc.mono le_auto) 1 rfl rfl ?_; conv => whnf
  repeat' ((first | refine br_t rfl ?_ | refine br_f rfl ?_ | refine IdxN.lit rfl rfl ?_ | intro _); conv => whnf)
  rename_i lb lk
  have hl1 : (((itemsOf ⟨tnm, tp, tcols, tcap, tq, tql, tqc⟩).take i).flatMap icells).length = i * 3 := by
   rw [flat_len (n := 3) (fun _ => rfl), List.length_take, itemsOf_len]
   show min i tcols.length * 3 = _
   rw [Nat.min_eq_left hi]
  have hl2 : (((kindsOf ⟨tnm, tp, tcols, tcap, tq, tql, tqc⟩).take i).map (Value.int .i64 ·)).length = i * 1 := by
   rw [List.length_map, List.length_take]
   simp only [kindsOf, List.length_map]
   omega
  refine AppN.to (i + 1) rfl (((itemsOf ⟨tnm, tp, tcols, tcap, tq, tql, tqc⟩).take i).flatMap icells) (icells ⟨0, tnm, c.nm⟩) (h1.mono le_auto) hl1 lk.has rfl rfl (by omega) (by decide) fun a' ac' V3 hV3 hc3 => ?_; conv => whnf
  repeat' ((first | refine br_t rfl ?_ | refine br_f rfl ?_ | refine IdxN.lit rfl rfl ?_ | intro _); conv => whnf)
  rename_i lb2 lk2
  refine AppN.to (i + 1) rfl (((kindsOf ⟨tnm, tp, tcols, tcap, tq, tql, tqc⟩).take i).map (Value.int .i64 ·)) [Value.int .i64 c.kind] (h2.mono le_auto) hl2 lk2.has rfl rfl (by omega) (by decide) fun b' bc' V4 hV4 hc4 => ?_; conv => whnf
  have hwi := wrap_nat (i := i) (by omega)
  refine ⟨j - 1, (i + 1, (a', ac'), (b', bc')), by omega, ?_, ?_, ?_⟩
  ·repeat' (first | exact sees_nil | refine sees_cons rfl rfl rfl ?_ | refine sees_cons rfl rfl (by rw [← hwi]; rfl) ?_)
  ·repeat' (first | exact keeps_nil | refine keeps_cons rfl ?_ | refine keeps_free ?_)
  ·refine ⟨View.le_trans hV le_auto, hi1, by show _ - (i + 1) = _; omega, ?_, ?_⟩
   ·show V4.cells (.slice a' (i + 1) ac') _
    rw [items_snoc _ i c hc1, List.flatMap_append]
    simpa using hc3.mono le_auto
   ·show V4.cells (.slice b' (i + 1) bc') _
    rw [kinds_snoc _ i c hc1, List.map_append]
    exact hc4
 ·have hi1 : i = tcols.length := by have := of_decide_eq_false h3; omega
  subst hi1
  repeat' ((first | refine br_t rfl ?_ | refine br_f rfl ?_ | refine IdxN.lit rfl rfl ?_ | intro _); conv => whnf)
  refine ⟨[25, 34], by simp, [_, _], rfl, a, ac, b, bc, rfl, ?_, ?_, rfl⟩
  ·rw [List.take_of_length_le (by rw [itemsOf_len]; exact Nat.le_refl _)] at h1; exact h1
  ·rw [List.take_of_length_le (by simp [kindsOf])] at h2; exact h2
theorem num_at (b : Nat) (s : Src) (k : Nat) (m x : Int) (hx : s.l[k]? = some x) (hm : 0 < m) (V : View) (hs : s.ok V) :
  Does Tryz.prog 38 [.pointer (some ⟨b, 0, none⟩), .int .i64 m] V [picks b s k] (fun v _ bs => v = .int .i64 (x.tmod m) ∧ bs = [picks b s ((k + 1 : Nat) : Int)]) := by
 refine does_of_zfun [(1, [(0, []), (1, []), (2, []), (3, []), (4, []), (5, []), (6, []), (7, []), (8, []), (9, [])]), (4, [(0, []), (1, []), (2, []), (3, []), (4, []), (5, []), (6, []), (7, []), (8, []), (9, []), (10, []), (11, []), (12, []), (13, []), (14, [])])] mixed (args := [.own 0 0, .v _]) (ms := [(0, picks b s k)]) Tryz.func38 (by kernel_rfl) rfl ?_; conv => whnf
 have hlen := hs.len
 have hlt : k < s.l.length := (List.getElem?_eq_some_iff.1 hx).1
 refine br_f (decide_eq_false (by omega)) ?_; conv => whnf
 have hw : IntKind.i64.wrap ((k : Int) + 1) = ((k + 1 : Nat) : Int) := by rw [wrapE]; omega
 have hw2 : IntKind.i64.wrap (IntKind.i64.wrap ((k : Int) + 1) - 1) = (k : Int) := by rw [hw, wrapE]; omega
 have hhas := hs.has (fun e => by rw [e] at hlt; simp at hlt)
 have hx2 := hs.num x (List.mem_of_getElem? hx)
 obtain ⟨p, off, hb, hh⟩ : ∃ p off, s.base = some ⟨p, off, none⟩ ∧ V.has p off s.cells := by
  have hne : s.cells ≠ [] := fun e => by
   have := congrArg List.length e
   simp only [Src.cells, List.length_map, List.length_nil] at this
   omega
  obtain ⟨y, l, hyl⟩ := List.exists_cons_of_ne_nil hne
  unfold Src.slice at hhas
  rw [hyl] at hhas ⊢
  exact cells_cut hhas
 have hone : V.has p (off + k) [.int .u8 x] := has_one hh (by simp [Src.cells, hx])
 refine ⟨⟨p, off, hb, by rw [hw2]; omega, by rw [hw2]; omega, ?_⟩⟩
 conv => whnf
 refine LoadN.of hone 0 (by rw [hw2]; show off + ((k : Nat) : Int).toNat * 1 = off + k + 0; omega) rfl ?_; conv => whnf
 have hwx : IntKind.i64.wrap x = x := by rw [wrapE]; omega
 refine ⟨⟨_, rem_run _ _ _ _ (by omega), ?_⟩⟩
 conv => whnf
 exact ⟨[0], by simp, [picks b s (IntKind.i64.wrap ((k : Int) + 1))], rfl, by rw [hwx]; rfl, by rw [hw]⟩
/-- the last number, or 0 -/
theorem picks1_spec (s : Src) (V : View) (hs : s.ok V) : PSpec 13 [s.slice] V (fun v _ => ∃ x, v = .int .u8 x ∧ 0 ≤ x ∧ x ≤ 255) := by
 refine does_of_zfun [] mixed (args := [.v _]) (ms := []) Tryz.func13 (by kernel_rfl) rfl ?_; conv => whnf
 have hlen := hs.len
 apply br <;> intro h1 <;> conv => whnf
 ·exact ret_pure ⟨0, rfl, by decide, by decide⟩
 have h1 : s.l.length ≠ 0 := fun e => by rw [e] at h1; exact absurd h1 (by decide)
 have hhas := hs.has (fun e => h1 (by rw [e]; rfl))
 obtain ⟨x, hx⟩ : ∃ x, s.l[s.l.length - 1]? = some x := ⟨_, List.getElem?_eq_getElem (by omega)⟩
 have hx2 := hs.num x (List.mem_of_getElem? hx)
 obtain ⟨p, off, hb, hh⟩ : ∃ p off, s.base = some ⟨p, off, none⟩ ∧ V.has p off s.cells := by
  have hne : s.cells ≠ [] := fun e => by
   have := congrArg List.length e
   simp only [Src.cells, List.length_map, List.length_nil] at this
   omega
  obtain ⟨y, l, hyl⟩ := List.exists_cons_of_ne_nil hne
  unfold Src.slice at hhas
  rw [hyl] at hhas ⊢
  exact cells_cut hhas
 have hw : IntKind.i64.wrap ((s.l.length : Int) - 1) = ((s.l.length - 1 : Nat) : Int) := by rw [wrapE]; omega
 have hone : V.has p (off + (s.l.length - 1)) [.int .u8 x] := has_one hh (by simp [Src.cells, hx])
 refine ⟨⟨p, off, hb, by rw [hw]; omega, by rw [hw]; omega, ?_⟩⟩
 conv => whnf
 refine LoadN.of hone 0 (by rw [hw]; show off + (((s.l.length - 1 : Nat)) : Int).toNat * 1 = off + (s.l.length - 1) + 0; omega) rfl ?_; conv => whnf
 exact ret_pure ⟨x, rfl, hx2⟩
/-- a where: none, or a condition -/
def WhereAt (V : View) (its : List Item) (kinds : List Int) (w : Option Addr × Nat × Nat) : Prop :=
 w = (none, 0, 0) ∨ ∃ g e x, w = (some ⟨g, 0, none⟩, 1, 1) ∧ V.has g 0 (xcells x) ∧ RepX V e x ∧ WT its kinds 3 e ∧ e.high ≤ 6
theorem WhereAt.mono {V V' : View} {its : List Item} {kinds : List Int} {w : Option Addr × Nat × Nat} (h : WhereAt V its kinds w) (hV : V.le V') : WhereAt V' its kinds w := by
 rcases h with h | ⟨g, e, x, h1, h2, h3, h4, h5⟩
 ·exact .inl h
 ·exact .inr ⟨g, e, x, h1, h2.mono hV, h3.mono hV, h4, h5⟩
theorem pwhere_spec (b : Nat) (s : Src) (k : Int) (hk : FarOk s k) (its : List Item) (kinds : List Int) (p off c q off2 d n : Nat) (V : View) (hs : s.ok V) (h : ColsAt V its kinds p off q off2) (hn : n = its.length) :
  Does Tryz.prog 43 [.pointer (some ⟨b, 0, none⟩), .slice (some ⟨p, off, none⟩) n c, .slice (some ⟨q, off2, none⟩) n d] V [picks b s k]
   (fun v V' bs => ∃ w k', v = .slice w.1 w.2.1 w.2.2 ∧ WhereAt V' its kinds w ∧ FarOk s k' ∧ bs = [picks b s k']) := by
 subst hn
 refine does_of_zfun [] mixed (args := [.own 0 0, .v _, .v _]) (ms := [(0, picks b s k)]) Tryz.func43 (by kernel_rfl) rfl ?_; conv => whnf
 refine CallN.box 0 rfl (num_spec b s k 3 hk (by omega) _ hs) fun v V1 bs hV1 ⟨r1, k1, hv, h01, hr1, hf1, hb1⟩ => ⟨92, picksC s k1, hb1, ?_⟩
 subst hv; conv => whnf
 apply br <;> intro h1 <;> conv => whnf
 ·exact ⟨[0], by simp, [picks b s k1], rfl, (none, 0, 0), k1, rfl, .inl rfl, hf1, rfl⟩
 refine CallN.box 0 rfl (expr_spec b s its kinds p off c q off2 d 5 3 0 k1 _ hf1 (hs.mono le_auto) (h.mono le_auto) (by decide) (by decide) (by decide)) fun v V2 bs hV2 ⟨e, x, k2, hv, hrep, hwt, hf2, hb2, hh⟩ => ⟨92, picksC s k2, hb2, ?_⟩
 subst hv
 obtain ⟨xop, xv, xtb, xnm, xbase, xlen, xcap⟩ := x
 conv => whnf
 intro lb Vl hVl lk
 conv => whnf
 exact ⟨[0], by simp, [picks b s k2], rfl, (some ⟨lb, 0, none⟩, 1, 1), k2, rfl, .inr ⟨lb, e, _, rfl, lk, hrep.mono hVl, hwt, hh⟩, hf2, rfl⟩
/-- a memory, and further resources -/
def joinM (mem : Nat → Option Res) (outs : List (Nat × Res)) : Nat → Option Res := fun i => match mem i with | some r => some r | none => memOf outs i
theorem memOf_none : ∀ {l : List (Nat × Res)} {i : Nat}, i ∉ l.map (·.1) → memOf l i = none
 | [], i, _ => rfl
 | (j, r) :: l, i, h => by
  show upd (memOf l) j r i = none
  rw [upd_ne _ _ (fun e => h (by rw [e]; exact List.mem_cons_self))]
  exact memOf_none fun h' => h (List.mem_cons_of_mem _ h')
theorem updL_memOf : ∀ {l : List (Nat × Res)} {mem : Nat → Option Res} {i : Nat}, i ∈ l.map (·.1) → updL l mem i = memOf l i
 | [], mem, i, h => by cases h
 | (j, r) :: l, mem, i, h => by
  show upd (updL l mem) j r i = upd (memOf l) j r i
  by_cases hi : i = j
  ·subst hi; rw [upd_same, upd_same]
  ·rw [upd_ne _ _ hi, upd_ne _ _ hi]
   refine updL_memOf ?_
   rcases List.mem_cons.1 h with h | h
   ·exact absurd h hi
   ·exact h
theorem updL_notin : ∀ {l : List (Nat × Res)} {mem : Nat → Option Res} {i : Nat}, i ∉ l.map (·.1) → updL l mem i = mem i
 | [], mem, i, _ => rfl
 | (j, r) :: l, mem, i, h => by
  show upd (updL l mem) j r i = mem i
  rw [upd_ne _ _ (fun e => h (by rw [e]; exact List.mem_cons_self))]
  exact updL_notin fun h' => h (List.mem_cons_of_mem _ h')
theorem updL_joinM {l : List (Nat × Res)} {mem : Nat → Option Res} (h : ∀ x ∈ l, mem x.1 = none) : updL l mem = joinM mem l := by
 funext i
 unfold joinM
 by_cases hi : i ∈ l.map (·.1)
 ·rw [updL_memOf hi]
  obtain ⟨x, hx, rfl⟩ := List.mem_map.1 hi
  rw [h x hx]
 ·rw [updL_notin hi, memOf_none hi]
  cases mem i <;> rfl
/-- a call that hands back new resources -/
theorem CallN.news {P : Program} {f : FuncId} {args : List Value} {V : View} {mem : Nat → Option Res} {R : Value → View → List Res → Prop} {K : SV → View → (Nat → Option Res) → Prop} (h : Does P f args V [] R)
  (k : ∀ v V' bs', V.le V' → R v V' bs' → ∃ outs : List (Nat × Res), outs.map (·.2) = bs' ∧ (outs.map (·.1)).Nodup ∧ (∀ x ∈ outs, mem x.1 = none) ∧ K (.v v) V' (joinM mem outs)) : CallN P f args V mem K := by
 refine CallN.gen [] List.nodup_nil (bs := []) rfl h fun v V' bs' hle hR => ?_
 obtain ⟨outs, hb, hn, hf, hK⟩ := k v V' bs' hle hR
 refine ⟨outs, .v v, hb, hn, fun s x hx => ?_, rfl, ?_⟩
 ·rw [← hx]
  refine toVal_of fun i hi => ?_
  show updL outs mem i = mem i
  refine updL_notin fun hin => ?_
  obtain ⟨y, hy, rfl⟩ := List.mem_map.1 hin
  have h0 := hf y hy
  cases s with
  | v z => cases hi
  | kb z => cases hi
  | own j o => simp only [SV.name, Option.some.injEq] at hi; subst hi; simp [toVal, h0] at hx
  | row j => simp only [SV.name, Option.some.injEq] at hi; subst hi; simp [toVal, h0] at hx
 ·show K (.v v) V' (updL outs mem)
  rw [updL_joinM hf]; exact hK
end Go.Proofs.YtenpginanhnkbaaGreat
end
