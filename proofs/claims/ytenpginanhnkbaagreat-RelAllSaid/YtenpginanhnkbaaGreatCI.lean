/- One part of a proof: an evaluator of the model, shown right, and contracts that it yields. No condition beyond those that each theorem names. -/
import Derived.Test.YtenpginanhnkbaaGreatCH
section
set_option linter.unusedSimpArgs false
set_option linter.unusedVariables false
namespace Go.Proofs.YtenpginanhnkbaaGreat
open Go.X
set_option maxRecDepth 100000
def tT (p q : Nat) : TabV := ⟨txt [116], p, colsT, 3, some ⟨q, 0, none⟩, 1, 1⟩
def tU (p : Nat) : TabV := ⟨txt [117], p, colsU, 3, none, 0, 0⟩
/-- a column of a kind among columns, by its name, or its table's too -/
def ColOk (its : List Item) (kinds : List Int) (kd : Int) (x : Item) (tb : ByteArray) : Prop := x ∈ colsOf kd its kinds ∧ ((tb = noText ∧ countN x.nm its = 1) ∨ tb = x.tb)
structure Parts (V : View) (its : List Item) (kinds : List Int) (s : StV) : Prop where
 wh : WhereAt V its kinds s.wh
 items : ∃ l : List Item, s.items.2.1 = l.length ∧ l.length ≤ 4 ∧ V.cells (.slice s.items.1 s.items.2.1 s.items.2.2) (l.flatMap icells)
 order : s.order = (none, 0, 0) ∨ ∃ g tb nm, s.order = (some ⟨g, 0, none⟩, 1, 1) ∧ V.has g 0 (xcells (colN tb nm))
def OnAt (V : View) (its : List Item) (kinds : List Int) (on : Option Addr × Nat × Nat) : Prop :=
 ∃ g kd x1 x2 tb1 tb2, on = (some ⟨g, 0, none⟩, 2, 2) ∧ V.has g 0 (xcells (colN tb1 x1.nm) ++ xcells (colN tb2 x2.nm)) ∧ ColOk its kinds kd x1 tb1 ∧ ColOk its kinds kd x2 tb2 ∧ (kd = 1 ∨ kd = 2)
theorem OnAt.mono {V V' : View} {its : List Item} {kinds : List Int} {on : Option Addr × Nat × Nat} (h : OnAt V its kinds on) (hV : V.le V') : OnAt V' its kinds on := by
 obtain ⟨g, kd, x1, x2, tb1, tb2, h1, h2, h3⟩ := h
 exact ⟨g, kd, x1, x2, tb1, tb2, h1, h2.mono hV, h3⟩
/-- a select as it is made -/
def SelAt (V : View) (t o : TabV) (s : StV) : Prop := s.kind = 6 ∧ s.tb = t.nm ∧
  ((s.join = noText ∧ s.on = (none, 0, 0) ∧ Parts V (itemsOf t) (kindsOf t) s) ∨
   (s.join = o.nm ∧ OnAt V (itemsOf t ++ itemsOf o) (kindsOf t ++ kindsOf o) s.on ∧ Parts V (itemsOf t ++ itemsOf o) (kindsOf t ++ kindsOf o) s))
theorem allOne_of : ∀ {l : List Value}, (∀ v ∈ l, v.oneCell' = true) → allOne l = true
 | [], _ => rfl
 | v :: l, h => by
  unfold allOne
  rw [h v List.mem_cons_self]
  exact allOne_of fun x hx => h x (List.mem_cons_of_mem _ hx)
theorem allOne_items (l : List Item) : allOne (l.flatMap icells) = true := allOne_of fun v hv => by
 obtain ⟨x, _, hx⟩ := List.mem_flatMap.1 hv
 simp only [icells, List.mem_cons, List.not_mem_nil, or_false] at hx
 rcases hx with rfl | rfl | rfl <;> rfl
theorem allOne_ints (l : List Int) : allOne (l.map (Value.int .i64 ·)) = true := allOne_of fun v hv => by
 obtain ⟨x, _, rfl⟩ := List.mem_map.1 hv
 rfl
theorem three {α : Type} {l : List α} (h : l.length = 3) : ∃ a b c, l = [a, b, c] := by
 match l, h with
 | [a, b, c], _ => exact ⟨a, b, c, rfl⟩
theorem kindsOf_len (t : TabV) : (kindsOf t).length = t.cols.length := by simp [kindsOf]
set_option maxHeartbeats 8000000 in
theorem selected_spec (b : Nat) (s : Src) (k : Int) (hk : FarOk s k) (r : Nat) (t o t1 t2 : TabV) (V : View) (hs : s.ok V) (hr : V.has r 0 (tvcells t1 ++ tvcells t2)) (ht : TabOk V t) (ho : TabOk V o)
  (hto : (t.nm = txt [116] ∧ o = t2) ∨ (t.nm = txt [117] ∧ o = t1)) (ht3 : t.cols.length = 3) (ho3 : o.cols.length = 3)
  (hk1 : ∀ kd, kd = 1 ∨ kd = 2 → colsOf kd (itemsOf t) (kindsOf t) ≠ []) (hk2 : ∀ kd, kd = 1 ∨ kd = 2 → colsOf kd (itemsOf t ++ itemsOf o) (kindsOf t ++ kindsOf o) ≠ []) :
  Does Tryz.prog 44 [.pointer (some ⟨b, 0, none⟩), tv3 r, tabv t] V [picks b s k]
   (fun v V' bs => ∃ st k', v = stv st ∧ SelAt V' t o st ∧ FarOk s k' ∧ bs = [picks b s k']) := by
 obtain ⟨tnm, tp, tcols, tcap, tq, tql, tqc⟩ := t
 obtain ⟨anm, ap, acols, acap, aq, aql, aqc⟩ := t1
 obtain ⟨unm, up, ucols, ucap, uq, uql, uqc⟩ := t2
 obtain ⟨d1, d2, d3, rfl⟩ := three ht3
 refine does_of_zfun [(22, [(0, []), (1, []), (2, []), (5, []), (6, []), (7, []), (8, []), (3, []), (4, []), (9, []), (10, []), (11, []), (12, []), (13, [])]), (32, [(5, []), (7, []), (0, []), (2, []), (3, [1]), (4, []), (1, []), (6, []), (8, [])])] mixed (args := [.own 0 0, .v _, .v _]) (ms := [(0, picks b s k)]) Tryz.func44 (by kernel_rfl) rfl ?_; conv => whnf
 repeat' ((first | refine br_t rfl ?_ | refine br_f rfl ?_ | refine IdxN.lit rfl rfl ?_ | intro _); conv => whnf)
 rename_i b4 b5 b6 b7
 refine CallN.news (colsP_spec ⟨tnm, tp, [d1, d2, d3], tcap, tq, tql, tqc⟩ _ (ht.mono le_auto)) fun v Vc bs hVc ⟨a, ac, c, cc, hv, hA, hC, hb⟩ => ⟨[(300, .row (.slice a 3 ac) 68 3 3), (301, .row (.slice c 3 cc) 3 1 3)], by rw [hb]; rfl, by simp, fun x hx => by (simp only [List.mem_cons, List.not_mem_nil, or_false] at hx; rcases hx with rfl | rfl <;> rfl), ?_⟩
 subst hv; conv => whnf
 repeat' ((first | refine br_t rfl ?_ | refine br_f rfl ?_ | refine IdxN.lit rfl rfl ?_ | intro _); conv => whnf)
 refine CallN.box 0 rfl (num_spec b s k 4 hk (by omega) _ (hs.mono le_auto)) fun v V1 bs hV1 ⟨r1, k1, hv, h01, hr1, hf1, hb1⟩ => ⟨92, picksC s k1, hb1, ?_⟩
 subst hv; conv => whnf
 apply br <;> intro g1 <;> conv => whnf
 ·repeat' ((first | refine br_t rfl ?_ | refine br_f rfl ?_ | refine IdxN.lit rfl rfl ?_ | intro _); conv => whnf)
  refine LoadN.of (hr.mono le_auto) 0 rfl rfl ?_; conv => whnf
  repeat' ((first | refine br_t rfl ?_ | refine br_f rfl ?_ | refine IdxN.lit rfl rfl ?_ | intro _); conv => whnf)
  rename_i b10
  rcases hto with ⟨hn, hoe⟩ | ⟨hn, hoe⟩
  ·have hn : tnm = txt [116] := hn
   subst hn; subst hoe
   refine br_t (by simp [txt, ByteArray.toList_eq]) ?_; conv => whnf
   repeat' ((first | refine br_t rfl ?_ | refine br_f rfl ?_ | refine IdxN.lit rfl rfl ?_ | intro _); conv => whnf)
   refine LoadN.of (hr.mono le_auto) 3 rfl rfl ?_; conv => whnf
   repeat' ((first | refine br_t rfl ?_ | refine br_f rfl ?_ | refine IdxN.lit rfl rfl ?_ | intro _); conv => whnf)
   obtain ⟨e1, e2, e3, rfl⟩ := three ho3
   refine CallN.news (colsP_spec ⟨unm, up, [e1, e2, e3], ucap, uq, uql, uqc⟩ _ (ho.mono le_auto)) fun v V2 bs hV2 ⟨a2, ac2, c2, cc2, hv, hA2, hC2, hb⟩ => ⟨[(302, .row (.slice a2 3 ac2) 68 3 3), (303, .row (.slice c2 3 cc2) 3 1 3)], by rw [hb]; rfl, by simp, fun x hx => by (simp only [List.mem_cons, List.not_mem_nil, or_false] at hx; rcases hx with rfl | rfl <;> rfl), ?_⟩
   subst hv; conv => whnf
   repeat' ((first | refine br_t rfl ?_ | refine br_f rfl ?_ | refine IdxN.lit rfl rfl ?_ | intro _); conv => whnf)
   refine ⟨⟨300, _, rfl, ?_⟩⟩
   refine AppN.to 6 rfl ((itemsOf ⟨txt [116], tp, [d1, d2, d3], tcap, tq, tql, tqc⟩).flatMap icells) ((itemsOf ⟨unm, up, [e1, e2, e3], ucap, uq, uql, uqc⟩).flatMap icells) (hA.mono le_auto) rfl (hA2.mono le_auto) rfl (allOne_items _) (by decide) (by decide) fun a3 ac3 V3 hV3 hA3 => ?_; conv => whnf
   refine ⟨⟨301, _, rfl, ?_⟩⟩
   refine AppN.to 6 rfl ((kindsOf ⟨txt [116], tp, [d1, d2, d3], tcap, tq, tql, tqc⟩).map (.int .i64 ·)) ((kindsOf ⟨unm, up, [e1, e2, e3], ucap, uq, uql, uqc⟩).map (.int .i64 ·)) (hC.mono le_auto) rfl (hC2.mono le_auto) rfl (allOne_ints _) (by decide) (by decide) fun c3 cc3 V4 hV4 hC3 => ?_; conv => whnf
   refine CallN.box 0 rfl (num_spec b s k1 2 hf1 (by omega) _ (hs.mono le_auto)) fun v V2 bs hV2 ⟨r2, k2, hv, h02, hr2, hf2, hb2⟩ => ⟨92, picksC s k2, hb2, ?_⟩
   subst hv; conv => whnf
   have hkd : IntKind.i64.wrap (1 + r2) = 1 ∨ IntKind.i64.wrap (1 + r2) = 2 := by rw [wrapE]; omega
   generalize IntKind.i64.wrap (1 + r2) = kd at *
   obtain ⟨p5, o5, hb5, hh5⟩ := cells_some hA3 (by intro h; cases h)
   obtain ⟨q5, u5, hd5, hj5⟩ := cells_some hC3 (by intro h; cases h)
   subst hb5; subst hd5
   have hat : ColsAt V4 (itemsOf ⟨txt [116], tp, [d1, d2, d3], tcap, tq, tql, tqc⟩ ++ itemsOf ⟨unm, up, [e1, e2, e3], ucap, uq, uql, uqc⟩) (kindsOf ⟨txt [116], tp, [d1, d2, d3], tcap, tq, tql, tqc⟩ ++ kindsOf ⟨unm, up, [e1, e2, e3], ucap, uq, uql, uqc⟩) p5 o5 q5 u5 := ⟨by rw [List.flatMap_append]; exact hh5.mono le_auto, by rw [List.map_append]; exact hj5, rfl, by show 6 ≤ 20; decide⟩
   refine CallN.box 0 rfl (col_spec b s k2 kd hf2 _ _ p5 o5 ac3 q5 u5 cc3 6 _ (hs.mono le_auto) (hat.mono le_auto) rfl) fun v V5 bs hV5 ⟨k5, hf5, hb5, hc5⟩ => ⟨92, picksC s k5, hb5, ?_⟩
   rcases hc5 with ⟨he, _⟩ | ⟨x5, hx5, tb5, hv, hn5⟩
   ·exact absurd he (hk2 kd hkd)
   subst hv; conv => whnf
   repeat' ((first | refine br_t rfl ?_ | refine br_f rfl ?_ | refine IdxN.lit rfl rfl ?_ | intro _); conv => whnf)
   rename_i b14
   refine CallN.box 0 rfl (col_spec b s k5 kd hf5 _ _ p5 o5 ac3 q5 u5 cc3 6 _ (hs.mono le_auto) (hat.mono le_auto) rfl) fun v V6 bs hV6 ⟨k6, hf6, hb6, hc6⟩ => ⟨92, picksC s k6, hb6, ?_⟩
   rcases hc6 with ⟨he, _⟩ | ⟨x6, hx6, tb6, hv, hn6⟩
   ·exact absurd he (hk2 kd hkd)
   subst hv; conv => whnf
   repeat' ((first | refine br_t rfl ?_ | refine br_f rfl ?_ | refine IdxN.lit rfl rfl ?_ | intro _); conv => whnf)
   rename_i b16 ln Vn hVn hln
   have hon : OnAt Vn (itemsOf ⟨txt [116], tp, [d1, d2, d3], tcap, tq, tql, tqc⟩ ++ itemsOf ⟨unm, up, [e1, e2, e3], ucap, uq, uql, uqc⟩) (kindsOf ⟨txt [116], tp, [d1, d2, d3], tcap, tq, tql, tqc⟩ ++ kindsOf ⟨unm, up, [e1, e2, e3], ucap, uq, uql, uqc⟩) (some ⟨ln, 0, none⟩, 2, 2) := ⟨ln, kd, x5, x6, tb5, tb6, rfl, hln, ⟨hx5, hn5⟩, ⟨hx6, hn6⟩, hkd⟩
   refine CallN.box 0 rfl (pwhere_spec b s k6 hf6 (itemsOf ⟨txt [116], tp, [d1, d2, d3], tcap, tq, tql, tqc⟩ ++ itemsOf ⟨unm, up, [e1, e2, e3], ucap, uq, uql, uqc⟩) (kindsOf ⟨txt [116], tp, [d1, d2, d3], tcap, tq, tql, tqc⟩ ++ kindsOf ⟨unm, up, [e1, e2, e3], ucap, uq, uql, uqc⟩) _ _ ac3 _ _ cc3 6 _ (hs.mono le_auto) (hat.mono le_auto) rfl) fun v V9 bs hV9 ⟨w, k9, hv, hwh, hf9, hb9⟩ => ⟨92, picksC s k9, hb9, ?_⟩
   subst hv; conv => whnf
   repeat' ((first | refine br_t rfl ?_ | refine br_f rfl ?_ | refine IdxN.lit rfl rfl ?_ | intro _); conv => whnf)
   refine CallN.box 0 rfl (num_spec b s k9 4 hf9 (by omega) _ (hs.mono le_auto)) fun v V10 bs hV10 ⟨r10, k10, hv, h010, hr10, hf10, hb10⟩ => ⟨92, picksC s k10, hb10, ?_⟩
   subst hv; conv => whnf
   apply br <;> intro h10 <;> conv => whnf
   ·intro lb Vb hVb hlb
    conv => whnf
    have hlb : Vb.has lb 0 ([⟨1, noText, noText⟩].flatMap icells) := hlb
    repeat' ((first | refine br_t rfl ?_ | refine br_f rfl ?_ | refine IdxN.lit rfl rfl ?_ | intro _); conv => whnf)
    refine CallN.box 0 rfl (num_spec b s k10 3 hf10 (by omega) _ (hs.mono le_auto)) fun v V11 bs hV11 ⟨r11, k11, hv, h011, hr11, hf11, hb11⟩ => ⟨92, picksC s k11, hb11, ?_⟩
    subst hv; conv => whnf
    repeat' ((first | refine br_t rfl ?_ | refine br_f rfl ?_ | refine IdxN.lit rfl rfl ?_ | intro _); conv => whnf)
    refine loopz (σ := Int × List Item × Option Addr × Nat × Int × Bool)
     (fun x => [(0, .own 0 0), (6, .own 6 0), (7, .own 7 0), (8, .v (.slice (some ⟨p5, o5, none⟩) 6 ac3)), (9, .v (.slice (some ⟨q5, u5, none⟩) 6 cc3)), (18, .v (.int .i64 x.1))])
     (fun x => (0, picks b s x.2.2.2.2.1) :: (6, .box b6 30 [.int .i64 0, .string noText, .string noText, .slice none 0 0, .slice none 0 0, .slice none 0 0, .slice none 0 0, .string noText, .slice none 0 0, .slice none 0 0, .slice none 0 0, .bool false, .slice none 0 0]) ::
      (7, .box b7 30 [.int .i64 6, .string (txt [116]), .string noText, .slice none 0 0, .slice none 0 0, .slice none 0 0, .slice x.2.2.1 x.2.1.length x.2.2.2.1, .string (unm), .slice ((some ⟨ln, 0, none⟩, 2, 2) : Option Addr × Nat × Nat).1 ((some ⟨ln, 0, none⟩, 2, 2) : Option Addr × Nat × Nat).2.1 ((some ⟨ln, 0, none⟩, 2, 2) : Option Addr × Nat × Nat).2.2, .slice w.1 w.2.1 w.2.2, .slice none 0 0, .bool false, .slice none 0 0]) ::
      (match x.2.2.2.2.2 with | true => [] | false => [(121, .row (.slice x.2.2.1 x.2.1.length x.2.2.2.1) 68 3 x.2.1.length)]))
     (fun j x V' => Vb.le V' ∧ 0 ≤ x.1 ∧ x.1.toNat = j ∧ (x.2.1.length : Int) + x.1 ≤ 3 ∧ FarOk s x.2.2.2.2.1 ∧ V'.cells (.slice x.2.2.1 x.2.1.length x.2.2.2.1) (x.2.1.flatMap icells) ∧ x.2.1 ≠ [] ∧ (x.2.2.2.2.2 = true → x.2.1.length = 1 ∧ ∃ g, x.2.2.1 = some ⟨g, 0, none⟩ ∧ x.2.2.2.1 = 1))
     r11.toNat (r11, [⟨1, noText, noText⟩], some ⟨lb, 0, none⟩, 1, k11, true) ?_ ?_ ?_ ?_
    ·repeat' (first | exact sees_nil | refine sees_cons rfl rfl rfl ?_)
    ·repeat' (first | exact keeps_nil | refine keeps_cons rfl ?_ | refine keeps_free ?_)
    ·exact ⟨le_auto, h011, rfl, by show (1 : Int) + r11 ≤ 3; omega, hf11, hlb.mono le_auto, List.cons_ne_nil _ _, fun _ => ⟨rfl, lb, rfl, rfl⟩⟩
    rintro j ⟨i, l, base, cp, kk, fst⟩ V' ⟨hV, hi, hj, hl, hfk, hcl, hlne, hfst⟩
    simp only at hi hj hl hfk hcl hlne hfst
    rcases fst with _ | _
    ·obtain ⟨it0, l', rfl⟩ := List.exists_cons_of_ne_nil hlne
     conv => whnf
     apply br <;> intro h12 <;> conv => whnf
     ·have hi0 : 0 < i := of_decide_eq_true h12
      refine CallN.box 0 rfl (col_spec b s kk 1 hfk (itemsOf ⟨txt [116], tp, [d1, d2, d3], tcap, tq, tql, tqc⟩ ++ itemsOf ⟨unm, up, [e1, e2, e3], ucap, uq, uql, uqc⟩) (kindsOf ⟨txt [116], tp, [d1, d2, d3], tcap, tq, tql, tqc⟩ ++ kindsOf ⟨unm, up, [e1, e2, e3], ucap, uq, uql, uqc⟩) p5 o5 ac3 q5 u5 cc3 6 _ (hs.mono le_auto) (hat.mono le_auto) rfl) fun v V13 bs hV13 ⟨k13, hf13, hb13, hc13⟩ => ⟨92, picksC s k13, hb13, ?_⟩
      rcases hc13 with ⟨he, _⟩ | ⟨x13, hx13, tb13, hv, hn13⟩
      ·exact absurd he (hk2 1 (.inl rfl))
      subst hv; conv => whnf
      repeat' ((first | refine br_t rfl ?_ | refine br_f rfl ?_ | refine IdxN.lit rfl rfl ?_ | intro _); conv => whnf)
      rename_i b19
      refine CallN.box 0 rfl (num_spec b s k13 3 hf13 (by omega) _ (hs.mono le_auto)) fun v V14 bs hV14 ⟨r14, k14, hv, h014, hr14, hf14, hb14⟩ => ⟨92, picksC s k14, hb14, ?_⟩
      subst hv
      refine Prot.box rfl rfl ?_; conv => whnf
      repeat' ((first | refine br_t rfl ?_ | refine br_f rfl ?_ | refine IdxN.lit rfl rfl ?_ | intro _); conv => whnf)
      rename_i lz lk
      refine ⟨⟨121, _, rfl, rfl, ?_⟩⟩
      refine AppN.to ((it0 :: l') ++ [(⟨IntKind.i64.wrap (2 + r14), tb13, x13.nm⟩ : Item)]).length (by simp) ((it0 :: l').flatMap icells) (icells ⟨IntKind.i64.wrap (2 + r14), tb13, x13.nm⟩) (hcl.mono le_auto) (flat_len (n := 3) (fun _ => rfl) _) lk.has rfl rfl (by simp at hl ⊢; omega) (by decide) fun base' cap' V15 hV15 hc15 => ?_; conv => whnf
      repeat' ((first | refine br_t rfl ?_ | refine br_f rfl ?_ | refine IdxN.lit rfl rfl ?_ | intro _); conv => whnf)
      have hwi : IntKind.i64.wrap (i - 1) = i - 1 := by rw [wrapE]; simp at hl; omega
      refine ⟨j - 1, (i - 1, (it0 :: l') ++ [⟨IntKind.i64.wrap (2 + r14), tb13, x13.nm⟩], base', cap', k14, false), by omega, ?_, ?_, ?_⟩
      ·repeat' (first | exact sees_nil | refine sees_cons rfl rfl rfl ?_ | refine sees_cons rfl rfl (by show some (Value.int .i64 (i - 1)) = some (Value.int .i64 (IntKind.i64.wrap (i - 1))); rw [hwi]) ?_)
      ·repeat' (first | exact keeps_nil | refine keeps_cons rfl ?_ | refine keeps_free ?_)
      ·refine ⟨View.le_trans hV le_auto, by show 0 ≤ i - 1; omega, by show (i - 1).toNat = j - 1; omega, by simp at hl ⊢; omega, hf14, by rw [List.flatMap_append]; simpa using hc15, by simp, fun h => by cases h⟩
     ·repeat' ((first | refine br_t rfl ?_ | refine br_f rfl ?_ | refine IdxN.lit rfl rfl ?_ | intro _); conv => whnf)
      refine ⟨[0], by simp, [picks b s kk], rfl, ⟨6, txt [116], noText, (none, 0, 0), (none, 0, 0), (none, 0, 0), (base, (((it0 :: l') : List Item)).length, cp), unm, (some ⟨ln, 0, none⟩, 2, 2), w, (none, 0, 0), false, (none, 0, 0)⟩, kk, rfl, ⟨rfl, rfl, ?_⟩, hfk, rfl⟩
      exact .inr ⟨rfl, hon.mono le_auto, ⟨hwh.mono le_auto, ⟨((it0 :: l') : List Item), rfl, by simp at hl ⊢ <;> omega, hcl⟩, (.inl rfl)⟩⟩
    ·obtain ⟨h1l, g0, hg0, hc0⟩ := hfst rfl
     subst hg0; subst hc0
     obtain ⟨it0, rfl⟩ : ∃ it, l = [it] := by
      match l, h1l with
      | [x], _ => exact ⟨x, rfl⟩
     conv => whnf
     apply br <;> intro h12 <;> conv => whnf
     ·have hi0 : 0 < i := of_decide_eq_true h12
      refine CallN.box 0 rfl (col_spec b s kk 1 hfk (itemsOf ⟨txt [116], tp, [d1, d2, d3], tcap, tq, tql, tqc⟩ ++ itemsOf ⟨unm, up, [e1, e2, e3], ucap, uq, uql, uqc⟩) (kindsOf ⟨txt [116], tp, [d1, d2, d3], tcap, tq, tql, tqc⟩ ++ kindsOf ⟨unm, up, [e1, e2, e3], ucap, uq, uql, uqc⟩) p5 o5 ac3 q5 u5 cc3 6 _ (hs.mono le_auto) (hat.mono le_auto) rfl) fun v V13 bs hV13 ⟨k13, hf13, hb13, hc13⟩ => ⟨92, picksC s k13, hb13, ?_⟩
      rcases hc13 with ⟨he, _⟩ | ⟨x13, hx13, tb13, hv, hn13⟩
      ·exact absurd he (hk2 1 (.inl rfl))
      subst hv; conv => whnf
      repeat' ((first | refine br_t rfl ?_ | refine br_f rfl ?_ | refine IdxN.lit rfl rfl ?_ | intro _); conv => whnf)
      rename_i b19
      refine CallN.box 0 rfl (num_spec b s k13 3 hf13 (by omega) _ (hs.mono le_auto)) fun v V14 bs hV14 ⟨r14, k14, hv, h014, hr14, hf14, hb14⟩ => ⟨92, picksC s k14, hb14, ?_⟩
      subst hv
      refine Prot.box rfl rfl ?_; conv => whnf
      repeat' ((first | refine br_t rfl ?_ | refine br_f rfl ?_ | refine IdxN.lit rfl rfl ?_ | intro _); conv => whnf)
      rename_i lz lk
      refine AppVD.full 9999 rfl rfl ?_
      refine AppF.to 2 rfl ([it0].flatMap icells) (icells ⟨IntKind.i64.wrap (2 + r14), tb13, x13.nm⟩) (hcl.mono le_auto) rfl (.inr lk.has) rfl rfl (by decide) (by decide) fun base' cap' V15 hV15 hc15 _ => ?_; conv => whnf
      repeat' ((first | refine br_t rfl ?_ | refine br_f rfl ?_ | refine IdxN.lit rfl rfl ?_ | intro _); conv => whnf)
      have hwi : IntKind.i64.wrap (i - 1) = i - 1 := by rw [wrapE]; simp at hl; omega
      refine ⟨j - 1, (i - 1, [it0] ++ [⟨IntKind.i64.wrap (2 + r14), tb13, x13.nm⟩], base', cap', k14, false), by omega, ?_, ?_, ?_⟩
      ·repeat' (first | exact sees_nil | refine sees_cons rfl rfl rfl ?_ | refine sees_cons rfl rfl (by show some (Value.int .i64 (i - 1)) = some (Value.int .i64 (IntKind.i64.wrap (i - 1))); rw [hwi]) ?_)
      ·repeat' (first | exact keeps_nil | refine keeps_cons rfl ?_ | refine keeps_free ?_)
      ·refine ⟨View.le_trans hV le_auto, by show 0 ≤ i - 1; omega, by show (i - 1).toNat = j - 1; omega, by simp at hl ⊢; omega, hf14, by rw [List.flatMap_append]; simpa using hc15, by simp, fun h => by cases h⟩
     ·repeat' ((first | refine br_t rfl ?_ | refine br_f rfl ?_ | refine IdxN.lit rfl rfl ?_ | intro _); conv => whnf)
      refine ⟨[0], by simp, [picks b s kk], rfl, ⟨6, txt [116], noText, (none, 0, 0), (none, 0, 0), (none, 0, 0), ((some ⟨g0, 0, none⟩), (([it0] : List Item)).length, 1), unm, (some ⟨ln, 0, none⟩, 2, 2), w, (none, 0, 0), false, (none, 0, 0)⟩, kk, rfl, ⟨rfl, rfl, ?_⟩, hfk, rfl⟩
      exact .inr ⟨rfl, hon.mono le_auto, ⟨hwh.mono le_auto, ⟨([it0] : List Item), rfl, by simp at hl ⊢ <;> omega, hcl⟩, (.inl rfl)⟩⟩
   ·repeat' ((first | refine br_t rfl ?_ | refine br_f rfl ?_ | refine IdxN.lit rfl rfl ?_ | intro _); conv => whnf)
    apply br <;> intro h20 <;> conv => whnf
    ·refine CallN.box 0 rfl (num_spec b s k10 3 hf10 (by omega) _ (hs.mono le_auto)) fun v V21 bs hV21 ⟨r21, k21, hv, h021, hr21, hf21, hb21⟩ => ⟨92, picksC s k21, hb21, ?_⟩
     subst hv; conv => whnf
     repeat' ((first | refine br_t rfl ?_ | refine br_f rfl ?_ | refine IdxN.lit rfl rfl ?_ | intro _); conv => whnf)
     refine loopz (σ := Int × List Item × Option Addr × Nat × Int)
      (fun x => [(0, .own 0 0), (6, .own 6 0), (7, .own 7 0), (8, .v (.slice (some ⟨p5, o5, none⟩) 6 ac3)), (9, .v (.slice (some ⟨q5, u5, none⟩) 6 cc3)), (21, .v (.int .i64 x.1))])
      (fun x => (0, picks b s x.2.2.2.2) :: (6, .box b6 30 [.int .i64 0, .string noText, .string noText, .slice none 0 0, .slice none 0 0, .slice none 0 0, .slice none 0 0, .string noText, .slice none 0 0, .slice none 0 0, .slice none 0 0, .bool false, .slice none 0 0]) ::
       (7, .box b7 30 [.int .i64 6, .string (txt [116]), .string noText, .slice none 0 0, .slice none 0 0, .slice none 0 0, .slice x.2.2.1 x.2.1.length x.2.2.2.1, .string (unm), .slice ((some ⟨ln, 0, none⟩, 2, 2) : Option Addr × Nat × Nat).1 ((some ⟨ln, 0, none⟩, 2, 2) : Option Addr × Nat × Nat).2.1 ((some ⟨ln, 0, none⟩, 2, 2) : Option Addr × Nat × Nat).2.2, .slice w.1 w.2.1 w.2.2, .slice none 0 0, .bool false, .slice none 0 0]) ::
       (match x.2.1 with | [] => [] | _ :: _ => [(150, .row (.slice x.2.2.1 x.2.1.length x.2.2.2.1) 68 3 x.2.1.length)]))
      (fun j x V' => V21.le V' ∧ -1 ≤ x.1 ∧ (x.1 + 1).toNat = j ∧ (x.2.1.length : Int) + x.1 ≤ 2 ∧ FarOk s x.2.2.2.2 ∧ V'.cells (.slice x.2.2.1 x.2.1.length x.2.2.2.1) (x.2.1.flatMap icells) ∧ (x.2.1 = [] → x.2.2.1 = none ∧ x.2.2.2.1 = 0))
      (r21 + 1).toNat (r21, [], none, 0, k21) ?_ ?_ ?_ ?_
     ·repeat' (first | exact sees_nil | refine sees_cons rfl rfl rfl ?_)
     ·repeat' (first | exact keeps_nil | refine keeps_cons rfl ?_ | refine keeps_free ?_)
     ·exact ⟨View.le_refl _, by show -1 ≤ r21; omega, rfl, by show ((0 : Nat) : Int) + r21 ≤ 2; omega, hf21, rfl, fun _ => ⟨rfl, rfl⟩⟩
     rintro j ⟨i, l, base, cp, kk⟩ V' ⟨hV, hi, hj, hl, hfk, hcl, hnil⟩
     simp only at hi hj hl hfk hcl hnil
     rcases l with _ | ⟨it0, l'⟩
     ·obtain ⟨rfl, rfl⟩ := hnil rfl
      conv => whnf
      apply br <;> intro h22 <;> conv => whnf
      ·have hi0 : 0 ≤ i := of_decide_eq_true h22
       refine CallN.box 0 rfl (num_spec b s kk 2 hfk (by omega) _ (hs.mono le_auto)) fun v V12 bs hV12 ⟨r12, k12, hv, h012, hr12, hf12, hb12⟩ => ⟨92, picksC s k12, hb12, ?_⟩
       subst hv; conv => whnf
       have hkd : IntKind.i64.wrap (1 + r12) = 1 ∨ IntKind.i64.wrap (1 + r12) = 2 := by rw [wrapE]; omega
       generalize IntKind.i64.wrap (1 + r12) = kd2 at *
       refine CallN.box 0 rfl (col_spec b s k12 kd2 hf12 (itemsOf ⟨txt [116], tp, [d1, d2, d3], tcap, tq, tql, tqc⟩ ++ itemsOf ⟨unm, up, [e1, e2, e3], ucap, uq, uql, uqc⟩) (kindsOf ⟨txt [116], tp, [d1, d2, d3], tcap, tq, tql, tqc⟩ ++ kindsOf ⟨unm, up, [e1, e2, e3], ucap, uq, uql, uqc⟩) p5 o5 ac3 q5 u5 cc3 6 _ (hs.mono le_auto) (hat.mono le_auto) rfl) fun v V13 bs hV13 ⟨k13, hf13, hb13, hc13⟩ => ⟨92, picksC s k13, hb13, ?_⟩
       rcases hc13 with ⟨he, _⟩ | ⟨x13, hx13, tb13, hv, hn13⟩
       ·exact absurd he (hk2 kd2 hkd)
       subst hv; conv => whnf
       repeat' ((first | refine br_t rfl ?_ | refine br_f rfl ?_ | refine IdxN.lit rfl rfl ?_ | intro _); conv => whnf)
       rename_i b22 lz Vz hVz lk
       have lk : Vz.has lz 0 (icells ⟨0, tb13, x13.nm⟩) := lk
       refine AppN.to 1 rfl [] (icells ⟨0, tb13, x13.nm⟩) rfl rfl lk rfl rfl (by decide) (by decide) fun base' cap' V15 hV15 hc15 => ?_; conv => whnf
       repeat' ((first | refine br_t rfl ?_ | refine br_f rfl ?_ | refine IdxN.lit rfl rfl ?_ | intro _); conv => whnf)
       have hwi : IntKind.i64.wrap (i - 1) = i - 1 := by rw [wrapE]; simp at hl; omega
       refine ⟨j - 1, (i - 1, ([] : List Item) ++ [⟨0, tb13, x13.nm⟩], base', cap', k13), by omega, ?_, ?_, ?_⟩
       ·repeat' (first | exact sees_nil | refine sees_cons rfl rfl rfl ?_ | refine sees_cons rfl rfl (by show some (Value.int .i64 (i - 1)) = some (Value.int .i64 (IntKind.i64.wrap (i - 1))); rw [hwi]) ?_)
       ·repeat' (first | exact keeps_nil | refine keeps_cons rfl ?_ | refine keeps_free ?_)
       ·refine ⟨View.le_trans hV le_auto, by show -1 ≤ i - 1; omega, by show (i - 1 + 1).toNat = j - 1; omega, by simp at hl ⊢; omega, hf13, by rw [List.flatMap_append]; simpa using hc15, fun h => by simp at h⟩
      ·refine CallN.box 0 rfl (num_spec b s kk 3 hfk (by omega) _ (hs.mono le_auto)) fun v V30 bs hV30 ⟨r30, k30, hv, h030, hr30, hf30, hb30⟩ => ⟨92, picksC s k30, hb30, ?_⟩
       subst hv; conv => whnf
       apply br <;> intro h30 <;> conv => whnf
       ·refine CallN.box 0 rfl (num_spec b s k30 2 hf30 (by omega) _ (hs.mono le_auto)) fun v V31 bs hV31 ⟨r31, k31, hv, h031, hr31, hf31, hb31⟩ => ⟨92, picksC s k31, hb31, ?_⟩
        subst hv; conv => whnf
        have hkd : IntKind.i64.wrap (1 + r31) = 1 ∨ IntKind.i64.wrap (1 + r31) = 2 := by rw [wrapE]; omega
        generalize IntKind.i64.wrap (1 + r31) = kd3 at *
        refine CallN.box 0 rfl (col_spec b s k31 kd3 hf31 (itemsOf ⟨txt [116], tp, [d1, d2, d3], tcap, tq, tql, tqc⟩ ++ itemsOf ⟨unm, up, [e1, e2, e3], ucap, uq, uql, uqc⟩) (kindsOf ⟨txt [116], tp, [d1, d2, d3], tcap, tq, tql, tqc⟩ ++ kindsOf ⟨unm, up, [e1, e2, e3], ucap, uq, uql, uqc⟩) p5 o5 ac3 q5 u5 cc3 6 _ (hs.mono le_auto) (hat.mono le_auto) rfl) fun v V32 bs hV32 ⟨k32, hf32, hb32, hc32⟩ => ⟨92, picksC s k32, hb32, ?_⟩
        rcases hc32 with ⟨he, _⟩ | ⟨x32, hx32, tb32, hv, hn32⟩
        ·exact absurd he (hk2 kd3 hkd)
        subst hv; conv => whnf
        repeat' ((first | refine br_t rfl ?_ | refine br_f rfl ?_ | refine IdxN.lit rfl rfl ?_ | intro _); conv => whnf)
        rename_i b24
        refine CallN.box 0 rfl (num_spec b s k32 2 hf32 (by omega) _ (hs.mono le_auto)) fun v V33 bs hV33 ⟨r33, k33, hv, h033, hr33, hf33, hb33⟩ => ⟨92, picksC s k33, hb33, ?_⟩
        subst hv
        refine Prot.box rfl rfl ?_; conv => whnf
        repeat' ((first | refine br_t rfl ?_ | refine br_f rfl ?_ | refine IdxN.lit rfl rfl ?_ | intro _); conv => whnf)
        rename_i lo lko
        have hlo : View.has _ lo 0 (xcells (colN tb32 x32.nm)) := lko.has
        refine ⟨[0], by simp, [picks b s k33], rfl, ⟨6, txt [116], noText, (none, 0, 0), (none, 0, 0), (none, 0, 0), (none, (([] : List Item)).length, 0), unm, (some ⟨ln, 0, none⟩, 2, 2), w, (some ⟨lo, 0, none⟩, 1, 1), (r33 == 0), (none, 0, 0)⟩, k33, rfl, ⟨rfl, rfl, ?_⟩, hf33, rfl⟩
        exact .inr ⟨rfl, hon.mono le_auto, ⟨hwh.mono le_auto, ⟨([] : List Item), rfl, by simp at hl ⊢ <;> omega, (hcl).mono le_auto⟩, (.inr ⟨lo, tb32, x32.nm, rfl, hlo⟩)⟩⟩
       ·repeat' ((first | refine br_t rfl ?_ | refine br_f rfl ?_ | refine IdxN.lit rfl rfl ?_ | intro _); conv => whnf)
        refine ⟨[0], by simp, [picks b s k30], rfl, ⟨6, txt [116], noText, (none, 0, 0), (none, 0, 0), (none, 0, 0), (none, (([] : List Item)).length, 0), unm, (some ⟨ln, 0, none⟩, 2, 2), w, (none, 0, 0), false, (none, 0, 0)⟩, k30, rfl, ⟨rfl, rfl, ?_⟩, hf30, rfl⟩
        exact .inr ⟨rfl, hon.mono le_auto, ⟨hwh.mono le_auto, ⟨([] : List Item), rfl, by simp at hl ⊢ <;> omega, (hcl).mono le_auto⟩, (.inl rfl)⟩⟩
     ·conv => whnf
      apply br <;> intro h22 <;> conv => whnf
      ·have hi0 : 0 ≤ i := of_decide_eq_true h22
       refine CallN.box 0 rfl (num_spec b s kk 2 hfk (by omega) _ (hs.mono le_auto)) fun v V12 bs hV12 ⟨r12, k12, hv, h012, hr12, hf12, hb12⟩ => ⟨92, picksC s k12, hb12, ?_⟩
       subst hv; conv => whnf
       have hkd : IntKind.i64.wrap (1 + r12) = 1 ∨ IntKind.i64.wrap (1 + r12) = 2 := by rw [wrapE]; omega
       generalize IntKind.i64.wrap (1 + r12) = kd2 at *
       refine CallN.box 0 rfl (col_spec b s k12 kd2 hf12 (itemsOf ⟨txt [116], tp, [d1, d2, d3], tcap, tq, tql, tqc⟩ ++ itemsOf ⟨unm, up, [e1, e2, e3], ucap, uq, uql, uqc⟩) (kindsOf ⟨txt [116], tp, [d1, d2, d3], tcap, tq, tql, tqc⟩ ++ kindsOf ⟨unm, up, [e1, e2, e3], ucap, uq, uql, uqc⟩) p5 o5 ac3 q5 u5 cc3 6 _ (hs.mono le_auto) (hat.mono le_auto) rfl) fun v V13 bs hV13 ⟨k13, hf13, hb13, hc13⟩ => ⟨92, picksC s k13, hb13, ?_⟩
       rcases hc13 with ⟨he, _⟩ | ⟨x13, hx13, tb13, hv, hn13⟩
       ·exact absurd he (hk2 kd2 hkd)
       subst hv; conv => whnf
       repeat' ((first | refine br_t rfl ?_ | refine br_f rfl ?_ | refine IdxN.lit rfl rfl ?_ | intro _); conv => whnf)
       rename_i b22 lz Vz hVz lk
       have lk : Vz.has lz 0 (icells ⟨0, tb13, x13.nm⟩) := lk
       refine ⟨⟨150, _, rfl, ?_⟩⟩
       refine AppN.to ((it0 :: l') ++ [(⟨0, tb13, x13.nm⟩ : Item)]).length (by simp) ((it0 :: l').flatMap icells) (icells ⟨0, tb13, x13.nm⟩) (hcl.mono le_auto) (flat_len (n := 3) (fun _ => rfl) _) lk rfl rfl (by simp at hl ⊢; omega) (by decide) fun base' cap' V15 hV15 hc15 => ?_; conv => whnf
       repeat' ((first | refine br_t rfl ?_ | refine br_f rfl ?_ | refine IdxN.lit rfl rfl ?_ | intro _); conv => whnf)
       have hwi : IntKind.i64.wrap (i - 1) = i - 1 := by rw [wrapE]; simp at hl; omega
       refine ⟨j - 1, (i - 1, (it0 :: l') ++ [⟨0, tb13, x13.nm⟩], base', cap', k13), by omega, ?_, ?_, ?_⟩
       ·repeat' (first | exact sees_nil | refine sees_cons rfl rfl rfl ?_ | refine sees_cons rfl rfl (by show some (Value.int .i64 (i - 1)) = some (Value.int .i64 (IntKind.i64.wrap (i - 1))); rw [hwi]) ?_)
       ·repeat' (first | exact keeps_nil | refine keeps_cons rfl ?_ | refine keeps_free ?_)
       ·refine ⟨View.le_trans hV le_auto, by show -1 ≤ i - 1; omega, by show (i - 1 + 1).toNat = j - 1; omega, by simp at hl ⊢; omega, hf13, by rw [List.flatMap_append]; simpa using hc15, fun h => by simp at h⟩
      ·refine CallN.box 0 rfl (num_spec b s kk 3 hfk (by omega) _ (hs.mono le_auto)) fun v V30 bs hV30 ⟨r30, k30, hv, h030, hr30, hf30, hb30⟩ => ⟨92, picksC s k30, hb30, ?_⟩
       subst hv; conv => whnf
       apply br <;> intro h30 <;> conv => whnf
       ·refine CallN.box 0 rfl (num_spec b s k30 2 hf30 (by omega) _ (hs.mono le_auto)) fun v V31 bs hV31 ⟨r31, k31, hv, h031, hr31, hf31, hb31⟩ => ⟨92, picksC s k31, hb31, ?_⟩
        subst hv; conv => whnf
        have hkd : IntKind.i64.wrap (1 + r31) = 1 ∨ IntKind.i64.wrap (1 + r31) = 2 := by rw [wrapE]; omega
        generalize IntKind.i64.wrap (1 + r31) = kd3 at *
        refine CallN.box 0 rfl (col_spec b s k31 kd3 hf31 (itemsOf ⟨txt [116], tp, [d1, d2, d3], tcap, tq, tql, tqc⟩ ++ itemsOf ⟨unm, up, [e1, e2, e3], ucap, uq, uql, uqc⟩) (kindsOf ⟨txt [116], tp, [d1, d2, d3], tcap, tq, tql, tqc⟩ ++ kindsOf ⟨unm, up, [e1, e2, e3], ucap, uq, uql, uqc⟩) p5 o5 ac3 q5 u5 cc3 6 _ (hs.mono le_auto) (hat.mono le_auto) rfl) fun v V32 bs hV32 ⟨k32, hf32, hb32, hc32⟩ => ⟨92, picksC s k32, hb32, ?_⟩
        rcases hc32 with ⟨he, _⟩ | ⟨x32, hx32, tb32, hv, hn32⟩
        ·exact absurd he (hk2 kd3 hkd)
        subst hv; conv => whnf
        repeat' ((first | refine br_t rfl ?_ | refine br_f rfl ?_ | refine IdxN.lit rfl rfl ?_ | intro _); conv => whnf)
        rename_i b24
        refine CallN.box 0 rfl (num_spec b s k32 2 hf32 (by omega) _ (hs.mono le_auto)) fun v V33 bs hV33 ⟨r33, k33, hv, h033, hr33, hf33, hb33⟩ => ⟨92, picksC s k33, hb33, ?_⟩
        subst hv
        refine Prot.box rfl rfl ?_; conv => whnf
        repeat' ((first | refine br_t rfl ?_ | refine br_f rfl ?_ | refine IdxN.lit rfl rfl ?_ | intro _); conv => whnf)
        rename_i lo lko
        have hlo : View.has _ lo 0 (xcells (colN tb32 x32.nm)) := lko.has
        refine ⟨[0], by simp, [picks b s k33], rfl, ⟨6, txt [116], noText, (none, 0, 0), (none, 0, 0), (none, 0, 0), (base, (((it0 :: l') : List Item)).length, cp), unm, (some ⟨ln, 0, none⟩, 2, 2), w, (some ⟨lo, 0, none⟩, 1, 1), (r33 == 0), (none, 0, 0)⟩, k33, rfl, ⟨rfl, rfl, ?_⟩, hf33, rfl⟩
        exact .inr ⟨rfl, hon.mono le_auto, ⟨hwh.mono le_auto, ⟨((it0 :: l') : List Item), rfl, by simp at hl ⊢ <;> omega, (hcl).mono le_auto⟩, (.inr ⟨lo, tb32, x32.nm, rfl, hlo⟩)⟩⟩
       ·repeat' ((first | refine br_t rfl ?_ | refine br_f rfl ?_ | refine IdxN.lit rfl rfl ?_ | intro _); conv => whnf)
        refine ⟨[0], by simp, [picks b s k30], rfl, ⟨6, txt [116], noText, (none, 0, 0), (none, 0, 0), (none, 0, 0), (base, (((it0 :: l') : List Item)).length, cp), unm, (some ⟨ln, 0, none⟩, 2, 2), w, (none, 0, 0), false, (none, 0, 0)⟩, k30, rfl, ⟨rfl, rfl, ?_⟩, hf30, rfl⟩
        exact .inr ⟨rfl, hon.mono le_auto, ⟨hwh.mono le_auto, ⟨((it0 :: l') : List Item), rfl, by simp at hl ⊢ <;> omega, (hcl).mono le_auto⟩, (.inl rfl)⟩⟩
    ·repeat' ((first | refine br_t rfl ?_ | refine br_f rfl ?_ | refine IdxN.lit rfl rfl ?_ | intro _); conv => whnf)
     have hl : ((([] : List Item)).length : Int) ≤ 0 := by decide
     have hcl : V9.cells (.slice none 0 0) (([] : List Item).flatMap icells) := rfl
     refine CallN.box 0 rfl (num_spec b s k10 3 hf10 (by omega) _ (hs.mono le_auto)) fun v V30 bs hV30 ⟨r30, k30, hv, h030, hr30, hf30, hb30⟩ => ⟨92, picksC s k30, hb30, ?_⟩
     subst hv; conv => whnf
     apply br <;> intro h30 <;> conv => whnf
     ·refine CallN.box 0 rfl (num_spec b s k30 2 hf30 (by omega) _ (hs.mono le_auto)) fun v V31 bs hV31 ⟨r31, k31, hv, h031, hr31, hf31, hb31⟩ => ⟨92, picksC s k31, hb31, ?_⟩
      subst hv; conv => whnf
      have hkd : IntKind.i64.wrap (1 + r31) = 1 ∨ IntKind.i64.wrap (1 + r31) = 2 := by rw [wrapE]; omega
      generalize IntKind.i64.wrap (1 + r31) = kd3 at *
      refine CallN.box 0 rfl (col_spec b s k31 kd3 hf31 (itemsOf ⟨txt [116], tp, [d1, d2, d3], tcap, tq, tql, tqc⟩ ++ itemsOf ⟨unm, up, [e1, e2, e3], ucap, uq, uql, uqc⟩) (kindsOf ⟨txt [116], tp, [d1, d2, d3], tcap, tq, tql, tqc⟩ ++ kindsOf ⟨unm, up, [e1, e2, e3], ucap, uq, uql, uqc⟩) p5 o5 ac3 q5 u5 cc3 6 _ (hs.mono le_auto) (hat.mono le_auto) rfl) fun v V32 bs hV32 ⟨k32, hf32, hb32, hc32⟩ => ⟨92, picksC s k32, hb32, ?_⟩
      rcases hc32 with ⟨he, _⟩ | ⟨x32, hx32, tb32, hv, hn32⟩
      ·exact absurd he (hk2 kd3 hkd)
      subst hv; conv => whnf
      repeat' ((first | refine br_t rfl ?_ | refine br_f rfl ?_ | refine IdxN.lit rfl rfl ?_ | intro _); conv => whnf)
      rename_i b24
      refine CallN.box 0 rfl (num_spec b s k32 2 hf32 (by omega) _ (hs.mono le_auto)) fun v V33 bs hV33 ⟨r33, k33, hv, h033, hr33, hf33, hb33⟩ => ⟨92, picksC s k33, hb33, ?_⟩
      subst hv
      refine Prot.box rfl rfl ?_; conv => whnf
      repeat' ((first | refine br_t rfl ?_ | refine br_f rfl ?_ | refine IdxN.lit rfl rfl ?_ | intro _); conv => whnf)
      rename_i lo lko
      have hlo : View.has _ lo 0 (xcells (colN tb32 x32.nm)) := lko.has
      refine ⟨[0], by simp, [picks b s k33], rfl, ⟨6, txt [116], noText, (none, 0, 0), (none, 0, 0), (none, 0, 0), (none, (([] : List Item)).length, 0), unm, (some ⟨ln, 0, none⟩, 2, 2), w, (some ⟨lo, 0, none⟩, 1, 1), (r33 == 0), (none, 0, 0)⟩, k33, rfl, ⟨rfl, rfl, ?_⟩, hf33, rfl⟩
      exact .inr ⟨rfl, hon.mono le_auto, ⟨hwh.mono le_auto, ⟨([] : List Item), rfl, by simp at hl ⊢ <;> omega, (hcl).mono le_auto⟩, (.inr ⟨lo, tb32, x32.nm, rfl, hlo⟩)⟩⟩
     ·repeat' ((first | refine br_t rfl ?_ | refine br_f rfl ?_ | refine IdxN.lit rfl rfl ?_ | intro _); conv => whnf)
      refine ⟨[0], by simp, [picks b s k30], rfl, ⟨6, txt [116], noText, (none, 0, 0), (none, 0, 0), (none, 0, 0), (none, (([] : List Item)).length, 0), unm, (some ⟨ln, 0, none⟩, 2, 2), w, (none, 0, 0), false, (none, 0, 0)⟩, k30, rfl, ⟨rfl, rfl, ?_⟩, hf30, rfl⟩
      exact .inr ⟨rfl, hon.mono le_auto, ⟨hwh.mono le_auto, ⟨([] : List Item), rfl, by simp at hl ⊢ <;> omega, (hcl).mono le_auto⟩, (.inl rfl)⟩⟩
  ·have hn : tnm = txt [117] := hn
   subst hn; subst hoe
   refine br_f (by simp [txt, ByteArray.toList_eq]) ?_; conv => whnf
   repeat' ((first | refine br_t rfl ?_ | refine br_f rfl ?_ | refine IdxN.lit rfl rfl ?_ | intro _); conv => whnf)
   obtain ⟨e1, e2, e3, rfl⟩ := three ho3
   refine CallN.news (colsP_spec ⟨anm, ap, [e1, e2, e3], acap, aq, aql, aqc⟩ _ (ho.mono le_auto)) fun v V2 bs hV2 ⟨a2, ac2, c2, cc2, hv, hA2, hC2, hb⟩ => ⟨[(302, .row (.slice a2 3 ac2) 68 3 3), (303, .row (.slice c2 3 cc2) 3 1 3)], by rw [hb]; rfl, by simp, fun x hx => by (simp only [List.mem_cons, List.not_mem_nil, or_false] at hx; rcases hx with rfl | rfl <;> rfl), ?_⟩
   subst hv; conv => whnf
   repeat' ((first | refine br_t rfl ?_ | refine br_f rfl ?_ | refine IdxN.lit rfl rfl ?_ | intro _); conv => whnf)
   refine ⟨⟨300, _, rfl, ?_⟩⟩
   refine AppN.to 6 rfl ((itemsOf ⟨txt [117], tp, [d1, d2, d3], tcap, tq, tql, tqc⟩).flatMap icells) ((itemsOf ⟨anm, ap, [e1, e2, e3], acap, aq, aql, aqc⟩).flatMap icells) (hA.mono le_auto) rfl (hA2.mono le_auto) rfl (allOne_items _) (by decide) (by decide) fun a3 ac3 V3 hV3 hA3 => ?_; conv => whnf
   refine ⟨⟨301, _, rfl, ?_⟩⟩
   refine AppN.to 6 rfl ((kindsOf ⟨txt [117], tp, [d1, d2, d3], tcap, tq, tql, tqc⟩).map (.int .i64 ·)) ((kindsOf ⟨anm, ap, [e1, e2, e3], acap, aq, aql, aqc⟩).map (.int .i64 ·)) (hC.mono le_auto) rfl (hC2.mono le_auto) rfl (allOne_ints _) (by decide) (by decide) fun c3 cc3 V4 hV4 hC3 => ?_; conv => whnf
   refine CallN.box 0 rfl (num_spec b s k1 2 hf1 (by omega) _ (hs.mono le_auto)) fun v V2 bs hV2 ⟨r2, k2, hv, h02, hr2, hf2, hb2⟩ => ⟨92, picksC s k2, hb2, ?_⟩
   subst hv; conv => whnf
   have hkd : IntKind.i64.wrap (1 + r2) = 1 ∨ IntKind.i64.wrap (1 + r2) = 2 := by rw [wrapE]; omega
   generalize IntKind.i64.wrap (1 + r2) = kd at *
   obtain ⟨p5, o5, hb5, hh5⟩ := cells_some hA3 (by intro h; cases h)
   obtain ⟨q5, u5, hd5, hj5⟩ := cells_some hC3 (by intro h; cases h)
   subst hb5; subst hd5
   have hat : ColsAt V4 (itemsOf ⟨txt [117], tp, [d1, d2, d3], tcap, tq, tql, tqc⟩ ++ itemsOf ⟨anm, ap, [e1, e2, e3], acap, aq, aql, aqc⟩) (kindsOf ⟨txt [117], tp, [d1, d2, d3], tcap, tq, tql, tqc⟩ ++ kindsOf ⟨anm, ap, [e1, e2, e3], acap, aq, aql, aqc⟩) p5 o5 q5 u5 := ⟨by rw [List.flatMap_append]; exact hh5.mono le_auto, by rw [List.map_append]; exact hj5, rfl, by show 6 ≤ 20; decide⟩
   refine CallN.box 0 rfl (col_spec b s k2 kd hf2 _ _ p5 o5 ac3 q5 u5 cc3 6 _ (hs.mono le_auto) (hat.mono le_auto) rfl) fun v V5 bs hV5 ⟨k5, hf5, hb5, hc5⟩ => ⟨92, picksC s k5, hb5, ?_⟩
   rcases hc5 with ⟨he, _⟩ | ⟨x5, hx5, tb5, hv, hn5⟩
   ·exact absurd he (hk2 kd hkd)
   subst hv; conv => whnf
   repeat' ((first | refine br_t rfl ?_ | refine br_f rfl ?_ | refine IdxN.lit rfl rfl ?_ | intro _); conv => whnf)
   rename_i b14
   refine CallN.box 0 rfl (col_spec b s k5 kd hf5 _ _ p5 o5 ac3 q5 u5 cc3 6 _ (hs.mono le_auto) (hat.mono le_auto) rfl) fun v V6 bs hV6 ⟨k6, hf6, hb6, hc6⟩ => ⟨92, picksC s k6, hb6, ?_⟩
   rcases hc6 with ⟨he, _⟩ | ⟨x6, hx6, tb6, hv, hn6⟩
   ·exact absurd he (hk2 kd hkd)
   subst hv; conv => whnf
   repeat' ((first | refine br_t rfl ?_ | refine br_f rfl ?_ | refine IdxN.lit rfl rfl ?_ | intro _); conv => whnf)
   rename_i b16 ln Vn hVn hln
   have hon : OnAt Vn (itemsOf ⟨txt [117], tp, [d1, d2, d3], tcap, tq, tql, tqc⟩ ++ itemsOf ⟨anm, ap, [e1, e2, e3], acap, aq, aql, aqc⟩) (kindsOf ⟨txt [117], tp, [d1, d2, d3], tcap, tq, tql, tqc⟩ ++ kindsOf ⟨anm, ap, [e1, e2, e3], acap, aq, aql, aqc⟩) (some ⟨ln, 0, none⟩, 2, 2) := ⟨ln, kd, x5, x6, tb5, tb6, rfl, hln, ⟨hx5, hn5⟩, ⟨hx6, hn6⟩, hkd⟩
   refine CallN.box 0 rfl (pwhere_spec b s k6 hf6 (itemsOf ⟨txt [117], tp, [d1, d2, d3], tcap, tq, tql, tqc⟩ ++ itemsOf ⟨anm, ap, [e1, e2, e3], acap, aq, aql, aqc⟩) (kindsOf ⟨txt [117], tp, [d1, d2, d3], tcap, tq, tql, tqc⟩ ++ kindsOf ⟨anm, ap, [e1, e2, e3], acap, aq, aql, aqc⟩) _ _ ac3 _ _ cc3 6 _ (hs.mono le_auto) (hat.mono le_auto) rfl) fun v V9 bs hV9 ⟨w, k9, hv, hwh, hf9, hb9⟩ => ⟨92, picksC s k9, hb9, ?_⟩
   subst hv; conv => whnf
   repeat' ((first | refine br_t rfl ?_ | refine br_f rfl ?_ | refine IdxN.lit rfl rfl ?_ | intro _); conv => whnf)
   refine CallN.box 0 rfl (num_spec b s k9 4 hf9 (by omega) _ (hs.mono le_auto)) fun v V10 bs hV10 ⟨r10, k10, hv, h010, hr10, hf10, hb10⟩ => ⟨92, picksC s k10, hb10, ?_⟩
   subst hv; conv => whnf
   apply br <;> intro h10 <;> conv => whnf
   ·intro lb Vb hVb hlb
    conv => whnf
    have hlb : Vb.has lb 0 ([⟨1, noText, noText⟩].flatMap icells) := hlb
    repeat' ((first | refine br_t rfl ?_ | refine br_f rfl ?_ | refine IdxN.lit rfl rfl ?_ | intro _); conv => whnf)
    refine CallN.box 0 rfl (num_spec b s k10 3 hf10 (by omega) _ (hs.mono le_auto)) fun v V11 bs hV11 ⟨r11, k11, hv, h011, hr11, hf11, hb11⟩ => ⟨92, picksC s k11, hb11, ?_⟩
    subst hv; conv => whnf
    repeat' ((first | refine br_t rfl ?_ | refine br_f rfl ?_ | refine IdxN.lit rfl rfl ?_ | intro _); conv => whnf)
    refine loopz (σ := Int × List Item × Option Addr × Nat × Int × Bool)
     (fun x => [(0, .own 0 0), (6, .own 6 0), (7, .own 7 0), (8, .v (.slice (some ⟨p5, o5, none⟩) 6 ac3)), (9, .v (.slice (some ⟨q5, u5, none⟩) 6 cc3)), (18, .v (.int .i64 x.1))])
     (fun x => (0, picks b s x.2.2.2.2.1) :: (6, .box b6 30 [.int .i64 0, .string noText, .string noText, .slice none 0 0, .slice none 0 0, .slice none 0 0, .slice none 0 0, .string noText, .slice none 0 0, .slice none 0 0, .slice none 0 0, .bool false, .slice none 0 0]) ::
      (7, .box b7 30 [.int .i64 6, .string (txt [117]), .string noText, .slice none 0 0, .slice none 0 0, .slice none 0 0, .slice x.2.2.1 x.2.1.length x.2.2.2.1, .string (anm), .slice ((some ⟨ln, 0, none⟩, 2, 2) : Option Addr × Nat × Nat).1 ((some ⟨ln, 0, none⟩, 2, 2) : Option Addr × Nat × Nat).2.1 ((some ⟨ln, 0, none⟩, 2, 2) : Option Addr × Nat × Nat).2.2, .slice w.1 w.2.1 w.2.2, .slice none 0 0, .bool false, .slice none 0 0]) ::
      (match x.2.2.2.2.2 with | true => [] | false => [(121, .row (.slice x.2.2.1 x.2.1.length x.2.2.2.1) 68 3 x.2.1.length)]))
     (fun j x V' => Vb.le V' ∧ 0 ≤ x.1 ∧ x.1.toNat = j ∧ (x.2.1.length : Int) + x.1 ≤ 3 ∧ FarOk s x.2.2.2.2.1 ∧ V'.cells (.slice x.2.2.1 x.2.1.length x.2.2.2.1) (x.2.1.flatMap icells) ∧ x.2.1 ≠ [] ∧ (x.2.2.2.2.2 = true → x.2.1.length = 1 ∧ ∃ g, x.2.2.1 = some ⟨g, 0, none⟩ ∧ x.2.2.2.1 = 1))
     r11.toNat (r11, [⟨1, noText, noText⟩], some ⟨lb, 0, none⟩, 1, k11, true) ?_ ?_ ?_ ?_
    ·repeat' (first | exact sees_nil | refine sees_cons rfl rfl rfl ?_)
    ·repeat' (first | exact keeps_nil | refine keeps_cons rfl ?_ | refine keeps_free ?_)
    ·exact ⟨le_auto, h011, rfl, by show (1 : Int) + r11 ≤ 3; omega, hf11, hlb.mono le_auto, List.cons_ne_nil _ _, fun _ => ⟨rfl, lb, rfl, rfl⟩⟩
    rintro j ⟨i, l, base, cp, kk, fst⟩ V' ⟨hV, hi, hj, hl, hfk, hcl, hlne, hfst⟩
    simp only at hi hj hl hfk hcl hlne hfst
    rcases fst with _ | _
    ·obtain ⟨it0, l', rfl⟩ := List.exists_cons_of_ne_nil hlne
     conv => whnf
     apply br <;> intro h12 <;> conv => whnf
     ·have hi0 : 0 < i := of_decide_eq_true h12
      refine CallN.box 0 rfl (col_spec b s kk 1 hfk (itemsOf ⟨txt [117], tp, [d1, d2, d3], tcap, tq, tql, tqc⟩ ++ itemsOf ⟨anm, ap, [e1, e2, e3], acap, aq, aql, aqc⟩) (kindsOf ⟨txt [117], tp, [d1, d2, d3], tcap, tq, tql, tqc⟩ ++ kindsOf ⟨anm, ap, [e1, e2, e3], acap, aq, aql, aqc⟩) p5 o5 ac3 q5 u5 cc3 6 _ (hs.mono le_auto) (hat.mono le_auto) rfl) fun v V13 bs hV13 ⟨k13, hf13, hb13, hc13⟩ => ⟨92, picksC s k13, hb13, ?_⟩
      rcases hc13 with ⟨he, _⟩ | ⟨x13, hx13, tb13, hv, hn13⟩
      ·exact absurd he (hk2 1 (.inl rfl))
      subst hv; conv => whnf
      repeat' ((first | refine br_t rfl ?_ | refine br_f rfl ?_ | refine IdxN.lit rfl rfl ?_ | intro _); conv => whnf)
      rename_i b19
      refine CallN.box 0 rfl (num_spec b s k13 3 hf13 (by omega) _ (hs.mono le_auto)) fun v V14 bs hV14 ⟨r14, k14, hv, h014, hr14, hf14, hb14⟩ => ⟨92, picksC s k14, hb14, ?_⟩
      subst hv
      refine Prot.box rfl rfl ?_; conv => whnf
      repeat' ((first | refine br_t rfl ?_ | refine br_f rfl ?_ | refine IdxN.lit rfl rfl ?_ | intro _); conv => whnf)
      rename_i lz lk
      refine ⟨⟨121, _, rfl, rfl, ?_⟩⟩
      refine AppN.to ((it0 :: l') ++ [(⟨IntKind.i64.wrap (2 + r14), tb13, x13.nm⟩ : Item)]).length (by simp) ((it0 :: l').flatMap icells) (icells ⟨IntKind.i64.wrap (2 + r14), tb13, x13.nm⟩) (hcl.mono le_auto) (flat_len (n := 3) (fun _ => rfl) _) lk.has rfl rfl (by simp at hl ⊢; omega) (by decide) fun base' cap' V15 hV15 hc15 => ?_; conv => whnf
      repeat' ((first | refine br_t rfl ?_ | refine br_f rfl ?_ | refine IdxN.lit rfl rfl ?_ | intro _); conv => whnf)
      have hwi : IntKind.i64.wrap (i - 1) = i - 1 := by rw [wrapE]; simp at hl; omega
      refine ⟨j - 1, (i - 1, (it0 :: l') ++ [⟨IntKind.i64.wrap (2 + r14), tb13, x13.nm⟩], base', cap', k14, false), by omega, ?_, ?_, ?_⟩
      ·repeat' (first | exact sees_nil | refine sees_cons rfl rfl rfl ?_ | refine sees_cons rfl rfl (by show some (Value.int .i64 (i - 1)) = some (Value.int .i64 (IntKind.i64.wrap (i - 1))); rw [hwi]) ?_)
      ·repeat' (first | exact keeps_nil | refine keeps_cons rfl ?_ | refine keeps_free ?_)
      ·refine ⟨View.le_trans hV le_auto, by show 0 ≤ i - 1; omega, by show (i - 1).toNat = j - 1; omega, by simp at hl ⊢; omega, hf14, by rw [List.flatMap_append]; simpa using hc15, by simp, fun h => by cases h⟩
     ·repeat' ((first | refine br_t rfl ?_ | refine br_f rfl ?_ | refine IdxN.lit rfl rfl ?_ | intro _); conv => whnf)
      refine ⟨[0], by simp, [picks b s kk], rfl, ⟨6, txt [117], noText, (none, 0, 0), (none, 0, 0), (none, 0, 0), (base, (((it0 :: l') : List Item)).length, cp), anm, (some ⟨ln, 0, none⟩, 2, 2), w, (none, 0, 0), false, (none, 0, 0)⟩, kk, rfl, ⟨rfl, rfl, ?_⟩, hfk, rfl⟩
      exact .inr ⟨rfl, hon.mono le_auto, ⟨hwh.mono le_auto, ⟨((it0 :: l') : List Item), rfl, by simp at hl ⊢ <;> omega, hcl⟩, (.inl rfl)⟩⟩
    ·obtain ⟨h1l, g0, hg0, hc0⟩ := hfst rfl
     subst hg0; subst hc0
     obtain ⟨it0, rfl⟩ : ∃ it, l = [it] := by
      match l, h1l with
      | [x], _ => exact ⟨x, rfl⟩
     conv => whnf
     apply br <;> intro h12 <;> conv => whnf
     ·have hi0 : 0 < i := of_decide_eq_true h12
      refine CallN.box 0 rfl (col_spec b s kk 1 hfk (itemsOf ⟨txt [117], tp, [d1, d2, d3], tcap, tq, tql, tqc⟩ ++ itemsOf ⟨anm, ap, [e1, e2, e3], acap, aq, aql, aqc⟩) (kindsOf ⟨txt [117], tp, [d1, d2, d3], tcap, tq, tql, tqc⟩ ++ kindsOf ⟨anm, ap, [e1, e2, e3], acap, aq, aql, aqc⟩) p5 o5 ac3 q5 u5 cc3 6 _ (hs.mono le_auto) (hat.mono le_auto) rfl) fun v V13 bs hV13 ⟨k13, hf13, hb13, hc13⟩ => ⟨92, picksC s k13, hb13, ?_⟩
      rcases hc13 with ⟨he, _⟩ | ⟨x13, hx13, tb13, hv, hn13⟩
      ·exact absurd he (hk2 1 (.inl rfl))
      subst hv; conv => whnf
      repeat' ((first | refine br_t rfl ?_ | refine br_f rfl ?_ | refine IdxN.lit rfl rfl ?_ | intro _); conv => whnf)
      rename_i b19
      refine CallN.box 0 rfl (num_spec b s k13 3 hf13 (by omega) _ (hs.mono le_auto)) fun v V14 bs hV14 ⟨r14, k14, hv, h014, hr14, hf14, hb14⟩ => ⟨92, picksC s k14, hb14, ?_⟩
      subst hv
      refine Prot.box rfl rfl ?_; conv => whnf
      repeat' ((first | refine br_t rfl ?_ | refine br_f rfl ?_ | refine IdxN.lit rfl rfl ?_ | intro _); conv => whnf)
      rename_i lz lk
      refine AppVD.full 9999 rfl rfl ?_
      refine AppF.to 2 rfl ([it0].flatMap icells) (icells ⟨IntKind.i64.wrap (2 + r14), tb13, x13.nm⟩) (hcl.mono le_auto) rfl (.inr lk.has) rfl rfl (by decide) (by decide) fun base' cap' V15 hV15 hc15 _ => ?_; conv => whnf
      repeat' ((first | refine br_t rfl ?_ | refine br_f rfl ?_ | refine IdxN.lit rfl rfl ?_ | intro _); conv => whnf)
      have hwi : IntKind.i64.wrap (i - 1) = i - 1 := by rw [wrapE]; simp at hl; omega
      refine ⟨j - 1, (i - 1, [it0] ++ [⟨IntKind.i64.wrap (2 + r14), tb13, x13.nm⟩], base', cap', k14, false), by omega, ?_, ?_, ?_⟩
      ·repeat' (first | exact sees_nil | refine sees_cons rfl rfl rfl ?_ | refine sees_cons rfl rfl (by show some (Value.int .i64 (i - 1)) = some (Value.int .i64 (IntKind.i64.wrap (i - 1))); rw [hwi]) ?_)
      ·repeat' (first | exact keeps_nil | refine keeps_cons rfl ?_ | refine keeps_free ?_)
      ·refine ⟨View.le_trans hV le_auto, by show 0 ≤ i - 1; omega, by show (i - 1).toNat = j - 1; omega, by simp at hl ⊢; omega, hf14, by rw [List.flatMap_append]; simpa using hc15, by simp, fun h => by cases h⟩
     ·repeat' ((first | refine br_t rfl ?_ | refine br_f rfl ?_ | refine IdxN.lit rfl rfl ?_ | intro _); conv => whnf)
      refine ⟨[0], by simp, [picks b s kk], rfl, ⟨6, txt [117], noText, (none, 0, 0), (none, 0, 0), (none, 0, 0), ((some ⟨g0, 0, none⟩), (([it0] : List Item)).length, 1), anm, (some ⟨ln, 0, none⟩, 2, 2), w, (none, 0, 0), false, (none, 0, 0)⟩, kk, rfl, ⟨rfl, rfl, ?_⟩, hfk, rfl⟩
      exact .inr ⟨rfl, hon.mono le_auto, ⟨hwh.mono le_auto, ⟨([it0] : List Item), rfl, by simp at hl ⊢ <;> omega, hcl⟩, (.inl rfl)⟩⟩
   ·repeat' ((first | refine br_t rfl ?_ | refine br_f rfl ?_ | refine IdxN.lit rfl rfl ?_ | intro _); conv => whnf)
    apply br <;> intro h20 <;> conv => whnf
    ·refine CallN.box 0 rfl (num_spec b s k10 3 hf10 (by omega) _ (hs.mono le_auto)) fun v V21 bs hV21 ⟨r21, k21, hv, h021, hr21, hf21, hb21⟩ => ⟨92, picksC s k21, hb21, ?_⟩
     subst hv; conv => whnf
     repeat' ((first | refine br_t rfl ?_ | refine br_f rfl ?_ | refine IdxN.lit rfl rfl ?_ | intro _); conv => whnf)
     refine loopz (σ := Int × List Item × Option Addr × Nat × Int)
      (fun x => [(0, .own 0 0), (6, .own 6 0), (7, .own 7 0), (8, .v (.slice (some ⟨p5, o5, none⟩) 6 ac3)), (9, .v (.slice (some ⟨q5, u5, none⟩) 6 cc3)), (21, .v (.int .i64 x.1))])
      (fun x => (0, picks b s x.2.2.2.2) :: (6, .box b6 30 [.int .i64 0, .string noText, .string noText, .slice none 0 0, .slice none 0 0, .slice none 0 0, .slice none 0 0, .string noText, .slice none 0 0, .slice none 0 0, .slice none 0 0, .bool false, .slice none 0 0]) ::
       (7, .box b7 30 [.int .i64 6, .string (txt [117]), .string noText, .slice none 0 0, .slice none 0 0, .slice none 0 0, .slice x.2.2.1 x.2.1.length x.2.2.2.1, .string (anm), .slice ((some ⟨ln, 0, none⟩, 2, 2) : Option Addr × Nat × Nat).1 ((some ⟨ln, 0, none⟩, 2, 2) : Option Addr × Nat × Nat).2.1 ((some ⟨ln, 0, none⟩, 2, 2) : Option Addr × Nat × Nat).2.2, .slice w.1 w.2.1 w.2.2, .slice none 0 0, .bool false, .slice none 0 0]) ::
       (match x.2.1 with | [] => [] | _ :: _ => [(150, .row (.slice x.2.2.1 x.2.1.length x.2.2.2.1) 68 3 x.2.1.length)]))
      (fun j x V' => V21.le V' ∧ -1 ≤ x.1 ∧ (x.1 + 1).toNat = j ∧ (x.2.1.length : Int) + x.1 ≤ 2 ∧ FarOk s x.2.2.2.2 ∧ V'.cells (.slice x.2.2.1 x.2.1.length x.2.2.2.1) (x.2.1.flatMap icells) ∧ (x.2.1 = [] → x.2.2.1 = none ∧ x.2.2.2.1 = 0))
      (r21 + 1).toNat (r21, [], none, 0, k21) ?_ ?_ ?_ ?_
     ·repeat' (first | exact sees_nil | refine sees_cons rfl rfl rfl ?_)
     ·repeat' (first | exact keeps_nil | refine keeps_cons rfl ?_ | refine keeps_free ?_)
     ·exact ⟨View.le_refl _, by show -1 ≤ r21; omega, rfl, by show ((0 : Nat) : Int) + r21 ≤ 2; omega, hf21, rfl, fun _ => ⟨rfl, rfl⟩⟩
     rintro j ⟨i, l, base, cp, kk⟩ V' ⟨hV, hi, hj, hl, hfk, hcl, hnil⟩
     simp only at hi hj hl hfk hcl hnil
     rcases l with _ | ⟨it0, l'⟩
     ·obtain ⟨rfl, rfl⟩ := hnil rfl
      conv => whnf
      apply br <;> intro h22 <;> conv => whnf
      ·have hi0 : 0 ≤ i := of_decide_eq_true h22
       refine CallN.box 0 rfl (num_spec b s kk 2 hfk (by omega) _ (hs.mono le_auto)) fun v V12 bs hV12 ⟨r12, k12, hv, h012, hr12, hf12, hb12⟩ => ⟨92, picksC s k12, hb12, ?_⟩
       subst hv; conv => whnf
       have hkd : IntKind.i64.wrap (1 + r12) = 1 ∨ IntKind.i64.wrap (1 + r12) = 2 := by rw [wrapE]; omega
       generalize IntKind.i64.wrap (1 + r12) = kd2 at *
       refine CallN.box 0 rfl (col_spec b s k12 kd2 hf12 (itemsOf ⟨txt [117], tp, [d1, d2, d3], tcap, tq, tql, tqc⟩ ++ itemsOf ⟨anm, ap, [e1, e2, e3], acap, aq, aql, aqc⟩) (kindsOf ⟨txt [117], tp, [d1, d2, d3], tcap, tq, tql, tqc⟩ ++ kindsOf ⟨anm, ap, [e1, e2, e3], acap, aq, aql, aqc⟩) p5 o5 ac3 q5 u5 cc3 6 _ (hs.mono le_auto) (hat.mono le_auto) rfl) fun v V13 bs hV13 ⟨k13, hf13, hb13, hc13⟩ => ⟨92, picksC s k13, hb13, ?_⟩
       rcases hc13 with ⟨he, _⟩ | ⟨x13, hx13, tb13, hv, hn13⟩
       ·exact absurd he (hk2 kd2 hkd)
       subst hv; conv => whnf
       repeat' ((first | refine br_t rfl ?_ | refine br_f rfl ?_ | refine IdxN.lit rfl rfl ?_ | intro _); conv => whnf)
       rename_i b22 lz Vz hVz lk
       have lk : Vz.has lz 0 (icells ⟨0, tb13, x13.nm⟩) := lk
       refine AppN.to 1 rfl [] (icells ⟨0, tb13, x13.nm⟩) rfl rfl lk rfl rfl (by decide) (by decide) fun base' cap' V15 hV15 hc15 => ?_; conv => whnf
       repeat' ((first | refine br_t rfl ?_ | refine br_f rfl ?_ | refine IdxN.lit rfl rfl ?_ | intro _); conv => whnf)
       have hwi : IntKind.i64.wrap (i - 1) = i - 1 := by rw [wrapE]; simp at hl; omega
       refine ⟨j - 1, (i - 1, ([] : List Item) ++ [⟨0, tb13, x13.nm⟩], base', cap', k13), by omega, ?_, ?_, ?_⟩
       ·repeat' (first | exact sees_nil | refine sees_cons rfl rfl rfl ?_ | refine sees_cons rfl rfl (by show some (Value.int .i64 (i - 1)) = some (Value.int .i64 (IntKind.i64.wrap (i - 1))); rw [hwi]) ?_)
       ·repeat' (first | exact keeps_nil | refine keeps_cons rfl ?_ | refine keeps_free ?_)
       ·refine ⟨View.le_trans hV le_auto, by show -1 ≤ i - 1; omega, by show (i - 1 + 1).toNat = j - 1; omega, by simp at hl ⊢; omega, hf13, by rw [List.flatMap_append]; simpa using hc15, fun h => by simp at h⟩
      ·refine CallN.box 0 rfl (num_spec b s kk 3 hfk (by omega) _ (hs.mono le_auto)) fun v V30 bs hV30 ⟨r30, k30, hv, h030, hr30, hf30, hb30⟩ => ⟨92, picksC s k30, hb30, ?_⟩
       subst hv; conv => whnf
       apply br <;> intro h30 <;> conv => whnf
       ·refine CallN.box 0 rfl (num_spec b s k30 2 hf30 (by omega) _ (hs.mono le_auto)) fun v V31 bs hV31 ⟨r31, k31, hv, h031, hr31, hf31, hb31⟩ => ⟨92, picksC s k31, hb31, ?_⟩
        subst hv; conv => whnf
        have hkd : IntKind.i64.wrap (1 + r31) = 1 ∨ IntKind.i64.wrap (1 + r31) = 2 := by rw [wrapE]; omega
        generalize IntKind.i64.wrap (1 + r31) = kd3 at *
        refine CallN.box 0 rfl (col_spec b s k31 kd3 hf31 (itemsOf ⟨txt [117], tp, [d1, d2, d3], tcap, tq, tql, tqc⟩ ++ itemsOf ⟨anm, ap, [e1, e2, e3], acap, aq, aql, aqc⟩) (kindsOf ⟨txt [117], tp, [d1, d2, d3], tcap, tq, tql, tqc⟩ ++ kindsOf ⟨anm, ap, [e1, e2, e3], acap, aq, aql, aqc⟩) p5 o5 ac3 q5 u5 cc3 6 _ (hs.mono le_auto) (hat.mono le_auto) rfl) fun v V32 bs hV32 ⟨k32, hf32, hb32, hc32⟩ => ⟨92, picksC s k32, hb32, ?_⟩
        rcases hc32 with ⟨he, _⟩ | ⟨x32, hx32, tb32, hv, hn32⟩
        ·exact absurd he (hk2 kd3 hkd)
        subst hv; conv => whnf
        repeat' ((first | refine br_t rfl ?_ | refine br_f rfl ?_ | refine IdxN.lit rfl rfl ?_ | intro _); conv => whnf)
        rename_i b24
        refine CallN.box 0 rfl (num_spec b s k32 2 hf32 (by omega) _ (hs.mono le_auto)) fun v V33 bs hV33 ⟨r33, k33, hv, h033, hr33, hf33, hb33⟩ => ⟨92, picksC s k33, hb33, ?_⟩
        subst hv
        refine Prot.box rfl rfl ?_; conv => whnf
        repeat' ((first | refine br_t rfl ?_ | refine br_f rfl ?_ | refine IdxN.lit rfl rfl ?_ | intro _); conv => whnf)
        rename_i lo lko
        have hlo : View.has _ lo 0 (xcells (colN tb32 x32.nm)) := lko.has
        refine ⟨[0], by simp, [picks b s k33], rfl, ⟨6, txt [117], noText, (none, 0, 0), (none, 0, 0), (none, 0, 0), (none, (([] : List Item)).length, 0), anm, (some ⟨ln, 0, none⟩, 2, 2), w, (some ⟨lo, 0, none⟩, 1, 1), (r33 == 0), (none, 0, 0)⟩, k33, rfl, ⟨rfl, rfl, ?_⟩, hf33, rfl⟩
        exact .inr ⟨rfl, hon.mono le_auto, ⟨hwh.mono le_auto, ⟨([] : List Item), rfl, by simp at hl ⊢ <;> omega, (hcl).mono le_auto⟩, (.inr ⟨lo, tb32, x32.nm, rfl, hlo⟩)⟩⟩
       ·repeat' ((first | refine br_t rfl ?_ | refine br_f rfl ?_ | refine IdxN.lit rfl rfl ?_ | intro _); conv => whnf)
        refine ⟨[0], by simp, [picks b s k30], rfl, ⟨6, txt [117], noText, (none, 0, 0), (none, 0, 0), (none, 0, 0), (none, (([] : List Item)).length, 0), anm, (some ⟨ln, 0, none⟩, 2, 2), w, (none, 0, 0), false, (none, 0, 0)⟩, k30, rfl, ⟨rfl, rfl, ?_⟩, hf30, rfl⟩
        exact .inr ⟨rfl, hon.mono le_auto, ⟨hwh.mono le_auto, ⟨([] : List Item), rfl, by simp at hl ⊢ <;> omega, (hcl).mono le_auto⟩, (.inl rfl)⟩⟩
     ·conv => whnf
      apply br <;> intro h22 <;> conv => whnf
      ·have hi0 : 0 ≤ i := of_decide_eq_true h22
       refine CallN.box 0 rfl (num_spec b s kk 2 hfk (by omega) _ (hs.mono le_auto)) fun v V12 bs hV12 ⟨r12, k12, hv, h012, hr12, hf12, hb12⟩ => ⟨92, picksC s k12, hb12, ?_⟩
       subst hv; conv => whnf
       have hkd : IntKind.i64.wrap (1 + r12) = 1 ∨ IntKind.i64.wrap (1 + r12) = 2 := by rw [wrapE]; omega
       generalize IntKind.i64.wrap (1 + r12) = kd2 at *
       refine CallN.box 0 rfl (col_spec b s k12 kd2 hf12 (itemsOf ⟨txt [117], tp, [d1, d2, d3], tcap, tq, tql, tqc⟩ ++ itemsOf ⟨anm, ap, [e1, e2, e3], acap, aq, aql, aqc⟩) (kindsOf ⟨txt [117], tp, [d1, d2, d3], tcap, tq, tql, tqc⟩ ++ kindsOf ⟨anm, ap, [e1, e2, e3], acap, aq, aql, aqc⟩) p5 o5 ac3 q5 u5 cc3 6 _ (hs.mono le_auto) (hat.mono le_auto) rfl) fun v V13 bs hV13 ⟨k13, hf13, hb13, hc13⟩ => ⟨92, picksC s k13, hb13, ?_⟩
       rcases hc13 with ⟨he, _⟩ | ⟨x13, hx13, tb13, hv, hn13⟩
       ·exact absurd he (hk2 kd2 hkd)
       subst hv; conv => whnf
       repeat' ((first | refine br_t rfl ?_ | refine br_f rfl ?_ | refine IdxN.lit rfl rfl ?_ | intro _); conv => whnf)
       rename_i b22 lz Vz hVz lk
       have lk : Vz.has lz 0 (icells ⟨0, tb13, x13.nm⟩) := lk
       refine ⟨⟨150, _, rfl, ?_⟩⟩
       refine AppN.to ((it0 :: l') ++ [(⟨0, tb13, x13.nm⟩ : Item)]).length (by simp) ((it0 :: l').flatMap icells) (icells ⟨0, tb13, x13.nm⟩) (hcl.mono le_auto) (flat_len (n := 3) (fun _ => rfl) _) lk rfl rfl (by simp at hl ⊢; omega) (by decide) fun base' cap' V15 hV15 hc15 => ?_; conv => whnf
       repeat' ((first | refine br_t rfl ?_ | refine br_f rfl ?_ | refine IdxN.lit rfl rfl ?_ | intro _); conv => whnf)
       have hwi : IntKind.i64.wrap (i - 1) = i - 1 := by rw [wrapE]; simp at hl; omega
       refine ⟨j - 1, (i - 1, (it0 :: l') ++ [⟨0, tb13, x13.nm⟩], base', cap', k13), by omega, ?_, ?_, ?_⟩
       ·repeat' (first | exact sees_nil | refine sees_cons rfl rfl rfl ?_ | refine sees_cons rfl rfl (by show some (Value.int .i64 (i - 1)) = some (Value.int .i64 (IntKind.i64.wrap (i - 1))); rw [hwi]) ?_)
       ·repeat' (first | exact keeps_nil | refine keeps_cons rfl ?_ | refine keeps_free ?_)
       ·refine ⟨View.le_trans hV le_auto, by show -1 ≤ i - 1; omega, by show (i - 1 + 1).toNat = j - 1; omega, by simp at hl ⊢; omega, hf13, by rw [List.flatMap_append]; simpa using hc15, fun h => by simp at h⟩
      ·refine CallN.box 0 rfl (num_spec b s kk 3 hfk (by omega) _ (hs.mono le_auto)) fun v V30 bs hV30 ⟨r30, k30, hv, h030, hr30, hf30, hb30⟩ => ⟨92, picksC s k30, hb30, ?_⟩
       subst hv; conv => whnf
       apply br <;> intro h30 <;> conv => whnf
       ·refine CallN.box 0 rfl (num_spec b s k30 2 hf30 (by omega) _ (hs.mono le_auto)) fun v V31 bs hV31 ⟨r31, k31, hv, h031, hr31, hf31, hb31⟩ => ⟨92, picksC s k31, hb31, ?_⟩
        subst hv; conv => whnf
        have hkd : IntKind.i64.wrap (1 + r31) = 1 ∨ IntKind.i64.wrap (1 + r31) = 2 := by rw [wrapE]; omega
        generalize IntKind.i64.wrap (1 + r31) = kd3 at *
        refine CallN.box 0 rfl (col_spec b s k31 kd3 hf31 (itemsOf ⟨txt [117], tp, [d1, d2, d3], tcap, tq, tql, tqc⟩ ++ itemsOf ⟨anm, ap, [e1, e2, e3], acap, aq, aql, aqc⟩) (kindsOf ⟨txt [117], tp, [d1, d2, d3], tcap, tq, tql, tqc⟩ ++ kindsOf ⟨anm, ap, [e1, e2, e3], acap, aq, aql, aqc⟩) p5 o5 ac3 q5 u5 cc3 6 _ (hs.mono le_auto) (hat.mono le_auto) rfl) fun v V32 bs hV32 ⟨k32, hf32, hb32, hc32⟩ => ⟨92, picksC s k32, hb32, ?_⟩
        rcases hc32 with ⟨he, _⟩ | ⟨x32, hx32, tb32, hv, hn32⟩
        ·exact absurd he (hk2 kd3 hkd)
        subst hv; conv => whnf
        repeat' ((first | refine br_t rfl ?_ | refine br_f rfl ?_ | refine IdxN.lit rfl rfl ?_ | intro _); conv => whnf)
        rename_i b24
        refine CallN.box 0 rfl (num_spec b s k32 2 hf32 (by omega) _ (hs.mono le_auto)) fun v V33 bs hV33 ⟨r33, k33, hv, h033, hr33, hf33, hb33⟩ => ⟨92, picksC s k33, hb33, ?_⟩
        subst hv
        refine Prot.box rfl rfl ?_; conv => whnf
        repeat' ((first | refine br_t rfl ?_ | refine br_f rfl ?_ | refine IdxN.lit rfl rfl ?_ | intro _); conv => whnf)
        rename_i lo lko
        have hlo : View.has _ lo 0 (xcells (colN tb32 x32.nm)) := lko.has
        refine ⟨[0], by simp, [picks b s k33], rfl, ⟨6, txt [117], noText, (none, 0, 0), (none, 0, 0), (none, 0, 0), (base, (((it0 :: l') : List Item)).length, cp), anm, (some ⟨ln, 0, none⟩, 2, 2), w, (some ⟨lo, 0, none⟩, 1, 1), (r33 == 0), (none, 0, 0)⟩, k33, rfl, ⟨rfl, rfl, ?_⟩, hf33, rfl⟩
        exact .inr ⟨rfl, hon.mono le_auto, ⟨hwh.mono le_auto, ⟨((it0 :: l') : List Item), rfl, by simp at hl ⊢ <;> omega, (hcl).mono le_auto⟩, (.inr ⟨lo, tb32, x32.nm, rfl, hlo⟩)⟩⟩
       ·repeat' ((first | refine br_t rfl ?_ | refine br_f rfl ?_ | refine IdxN.lit rfl rfl ?_ | intro _); conv => whnf)
        refine ⟨[0], by simp, [picks b s k30], rfl, ⟨6, txt [117], noText, (none, 0, 0), (none, 0, 0), (none, 0, 0), (base, (((it0 :: l') : List Item)).length, cp), anm, (some ⟨ln, 0, none⟩, 2, 2), w, (none, 0, 0), false, (none, 0, 0)⟩, k30, rfl, ⟨rfl, rfl, ?_⟩, hf30, rfl⟩
        exact .inr ⟨rfl, hon.mono le_auto, ⟨hwh.mono le_auto, ⟨((it0 :: l') : List Item), rfl, by simp at hl ⊢ <;> omega, (hcl).mono le_auto⟩, (.inl rfl)⟩⟩
    ·repeat' ((first | refine br_t rfl ?_ | refine br_f rfl ?_ | refine IdxN.lit rfl rfl ?_ | intro _); conv => whnf)
     have hl : ((([] : List Item)).length : Int) ≤ 0 := by decide
     have hcl : V9.cells (.slice none 0 0) (([] : List Item).flatMap icells) := rfl
     refine CallN.box 0 rfl (num_spec b s k10 3 hf10 (by omega) _ (hs.mono le_auto)) fun v V30 bs hV30 ⟨r30, k30, hv, h030, hr30, hf30, hb30⟩ => ⟨92, picksC s k30, hb30, ?_⟩
     subst hv; conv => whnf
     apply br <;> intro h30 <;> conv => whnf
     ·refine CallN.box 0 rfl (num_spec b s k30 2 hf30 (by omega) _ (hs.mono le_auto)) fun v V31 bs hV31 ⟨r31, k31, hv, h031, hr31, hf31, hb31⟩ => ⟨92, picksC s k31, hb31, ?_⟩
      subst hv; conv => whnf
      have hkd : IntKind.i64.wrap (1 + r31) = 1 ∨ IntKind.i64.wrap (1 + r31) = 2 := by rw [wrapE]; omega
      generalize IntKind.i64.wrap (1 + r31) = kd3 at *
      refine CallN.box 0 rfl (col_spec b s k31 kd3 hf31 (itemsOf ⟨txt [117], tp, [d1, d2, d3], tcap, tq, tql, tqc⟩ ++ itemsOf ⟨anm, ap, [e1, e2, e3], acap, aq, aql, aqc⟩) (kindsOf ⟨txt [117], tp, [d1, d2, d3], tcap, tq, tql, tqc⟩ ++ kindsOf ⟨anm, ap, [e1, e2, e3], acap, aq, aql, aqc⟩) p5 o5 ac3 q5 u5 cc3 6 _ (hs.mono le_auto) (hat.mono le_auto) rfl) fun v V32 bs hV32 ⟨k32, hf32, hb32, hc32⟩ => ⟨92, picksC s k32, hb32, ?_⟩
      rcases hc32 with ⟨he, _⟩ | ⟨x32, hx32, tb32, hv, hn32⟩
      ·exact absurd he (hk2 kd3 hkd)
      subst hv; conv => whnf
      repeat' ((first | refine br_t rfl ?_ | refine br_f rfl ?_ | refine IdxN.lit rfl rfl ?_ | intro _); conv => whnf)
      rename_i b24
      refine CallN.box 0 rfl (num_spec b s k32 2 hf32 (by omega) _ (hs.mono le_auto)) fun v V33 bs hV33 ⟨r33, k33, hv, h033, hr33, hf33, hb33⟩ => ⟨92, picksC s k33, hb33, ?_⟩
      subst hv
      refine Prot.box rfl rfl ?_; conv => whnf
      repeat' ((first | refine br_t rfl ?_ | refine br_f rfl ?_ | refine IdxN.lit rfl rfl ?_ | intro _); conv => whnf)
      rename_i lo lko
      have hlo : View.has _ lo 0 (xcells (colN tb32 x32.nm)) := lko.has
      refine ⟨[0], by simp, [picks b s k33], rfl, ⟨6, txt [117], noText, (none, 0, 0), (none, 0, 0), (none, 0, 0), (none, (([] : List Item)).length, 0), anm, (some ⟨ln, 0, none⟩, 2, 2), w, (some ⟨lo, 0, none⟩, 1, 1), (r33 == 0), (none, 0, 0)⟩, k33, rfl, ⟨rfl, rfl, ?_⟩, hf33, rfl⟩
      exact .inr ⟨rfl, hon.mono le_auto, ⟨hwh.mono le_auto, ⟨([] : List Item), rfl, by simp at hl ⊢ <;> omega, (hcl).mono le_auto⟩, (.inr ⟨lo, tb32, x32.nm, rfl, hlo⟩)⟩⟩
     ·repeat' ((first | refine br_t rfl ?_ | refine br_f rfl ?_ | refine IdxN.lit rfl rfl ?_ | intro _); conv => whnf)
      refine ⟨[0], by simp, [picks b s k30], rfl, ⟨6, txt [117], noText, (none, 0, 0), (none, 0, 0), (none, 0, 0), (none, (([] : List Item)).length, 0), anm, (some ⟨ln, 0, none⟩, 2, 2), w, (none, 0, 0), false, (none, 0, 0)⟩, k30, rfl, ⟨rfl, rfl, ?_⟩, hf30, rfl⟩
      exact .inr ⟨rfl, hon.mono le_auto, ⟨hwh.mono le_auto, ⟨([] : List Item), rfl, by simp at hl ⊢ <;> omega, (hcl).mono le_auto⟩, (.inl rfl)⟩⟩
 ·repeat' ((first | refine br_t rfl ?_ | refine br_f rfl ?_ | refine IdxN.lit rfl rfl ?_ | intro _); conv => whnf)
  obtain ⟨p5, o5, hb5, hh5⟩ := cells_some hA (by intro h; cases h)
  obtain ⟨q5, u5, hd5, hj5⟩ := cells_some hC (by intro h; cases h)
  subst hb5; subst hd5
  have hat : ColsAt Vc (itemsOf ⟨tnm, tp, [d1, d2, d3], tcap, tq, tql, tqc⟩) (kindsOf ⟨tnm, tp, [d1, d2, d3], tcap, tq, tql, tqc⟩) p5 o5 q5 u5 := ⟨hh5, hj5, rfl, by show 3 ≤ 20; decide⟩
  refine CallN.box 0 rfl (pwhere_spec b s k1 hf1 (itemsOf ⟨tnm, tp, [d1, d2, d3], tcap, tq, tql, tqc⟩) (kindsOf ⟨tnm, tp, [d1, d2, d3], tcap, tq, tql, tqc⟩) _ _ ac _ _ cc 3 _ (hs.mono le_auto) (hat.mono le_auto) rfl) fun v V9 bs hV9 ⟨w, k9, hv, hwh, hf9, hb9⟩ => ⟨92, picksC s k9, hb9, ?_⟩
  subst hv; conv => whnf
  repeat' ((first | refine br_t rfl ?_ | refine br_f rfl ?_ | refine IdxN.lit rfl rfl ?_ | intro _); conv => whnf)
  refine CallN.box 0 rfl (num_spec b s k9 4 hf9 (by omega) _ (hs.mono le_auto)) fun v V10 bs hV10 ⟨r10, k10, hv, h010, hr10, hf10, hb10⟩ => ⟨92, picksC s k10, hb10, ?_⟩
  subst hv; conv => whnf
  apply br <;> intro h10 <;> conv => whnf
  ·intro lb Vb hVb hlb
   conv => whnf
   have hlb : Vb.has lb 0 ([⟨1, noText, noText⟩].flatMap icells) := hlb
   repeat' ((first | refine br_t rfl ?_ | refine br_f rfl ?_ | refine IdxN.lit rfl rfl ?_ | intro _); conv => whnf)
   refine CallN.box 0 rfl (num_spec b s k10 3 hf10 (by omega) _ (hs.mono le_auto)) fun v V11 bs hV11 ⟨r11, k11, hv, h011, hr11, hf11, hb11⟩ => ⟨92, picksC s k11, hb11, ?_⟩
   subst hv; conv => whnf
   repeat' ((first | refine br_t rfl ?_ | refine br_f rfl ?_ | refine IdxN.lit rfl rfl ?_ | intro _); conv => whnf)
   refine loopz (σ := Int × List Item × Option Addr × Nat × Int × Bool)
    (fun x => [(0, .own 0 0), (6, .own 6 0), (7, .own 7 0), (8, .v (.slice (some ⟨p5, o5, none⟩) 3 ac)), (9, .v (.slice (some ⟨q5, u5, none⟩) 3 cc)), (18, .v (.int .i64 x.1))])
    (fun x => (0, picks b s x.2.2.2.2.1) :: (6, .box b6 30 [.int .i64 0, .string noText, .string noText, .slice none 0 0, .slice none 0 0, .slice none 0 0, .slice none 0 0, .string noText, .slice none 0 0, .slice none 0 0, .slice none 0 0, .bool false, .slice none 0 0]) ::
     (7, .box b7 30 [.int .i64 6, .string (tnm), .string noText, .slice none 0 0, .slice none 0 0, .slice none 0 0, .slice x.2.2.1 x.2.1.length x.2.2.2.1, .string (noText), .slice ((none, 0, 0) : Option Addr × Nat × Nat).1 ((none, 0, 0) : Option Addr × Nat × Nat).2.1 ((none, 0, 0) : Option Addr × Nat × Nat).2.2, .slice w.1 w.2.1 w.2.2, .slice none 0 0, .bool false, .slice none 0 0]) ::
     (match x.2.2.2.2.2 with | true => [] | false => [(121, .row (.slice x.2.2.1 x.2.1.length x.2.2.2.1) 68 3 x.2.1.length)]))
    (fun j x V' => Vb.le V' ∧ 0 ≤ x.1 ∧ x.1.toNat = j ∧ (x.2.1.length : Int) + x.1 ≤ 3 ∧ FarOk s x.2.2.2.2.1 ∧ V'.cells (.slice x.2.2.1 x.2.1.length x.2.2.2.1) (x.2.1.flatMap icells) ∧ x.2.1 ≠ [] ∧ (x.2.2.2.2.2 = true → x.2.1.length = 1 ∧ ∃ g, x.2.2.1 = some ⟨g, 0, none⟩ ∧ x.2.2.2.1 = 1))
    r11.toNat (r11, [⟨1, noText, noText⟩], some ⟨lb, 0, none⟩, 1, k11, true) ?_ ?_ ?_ ?_
   ·repeat' (first | exact sees_nil | refine sees_cons rfl rfl rfl ?_)
   ·repeat' (first | exact keeps_nil | refine keeps_cons rfl ?_ | refine keeps_free ?_)
   ·exact ⟨le_auto, h011, rfl, by show (1 : Int) + r11 ≤ 3; omega, hf11, hlb.mono le_auto, List.cons_ne_nil _ _, fun _ => ⟨rfl, lb, rfl, rfl⟩⟩
   rintro j ⟨i, l, base, cp, kk, fst⟩ V' ⟨hV, hi, hj, hl, hfk, hcl, hlne, hfst⟩
   simp only at hi hj hl hfk hcl hlne hfst
   rcases fst with _ | _
   ·obtain ⟨it0, l', rfl⟩ := List.exists_cons_of_ne_nil hlne
    conv => whnf
    apply br <;> intro h12 <;> conv => whnf
    ·have hi0 : 0 < i := of_decide_eq_true h12
     refine CallN.box 0 rfl (col_spec b s kk 1 hfk (itemsOf ⟨tnm, tp, [d1, d2, d3], tcap, tq, tql, tqc⟩) (kindsOf ⟨tnm, tp, [d1, d2, d3], tcap, tq, tql, tqc⟩) p5 o5 ac q5 u5 cc 3 _ (hs.mono le_auto) (hat.mono le_auto) rfl) fun v V13 bs hV13 ⟨k13, hf13, hb13, hc13⟩ => ⟨92, picksC s k13, hb13, ?_⟩
     rcases hc13 with ⟨he, _⟩ | ⟨x13, hx13, tb13, hv, hn13⟩
     ·exact absurd he (hk1 1 (.inl rfl))
     subst hv; conv => whnf
     repeat' ((first | refine br_t rfl ?_ | refine br_f rfl ?_ | refine IdxN.lit rfl rfl ?_ | intro _); conv => whnf)
     rename_i b19
     refine CallN.box 0 rfl (num_spec b s k13 3 hf13 (by omega) _ (hs.mono le_auto)) fun v V14 bs hV14 ⟨r14, k14, hv, h014, hr14, hf14, hb14⟩ => ⟨92, picksC s k14, hb14, ?_⟩
     subst hv
     refine Prot.box rfl rfl ?_; conv => whnf
     repeat' ((first | refine br_t rfl ?_ | refine br_f rfl ?_ | refine IdxN.lit rfl rfl ?_ | intro _); conv => whnf)
     rename_i lz lk
     refine ⟨⟨121, _, rfl, rfl, ?_⟩⟩
     refine AppN.to ((it0 :: l') ++ [(⟨IntKind.i64.wrap (2 + r14), tb13, x13.nm⟩ : Item)]).length (by simp) ((it0 :: l').flatMap icells) (icells ⟨IntKind.i64.wrap (2 + r14), tb13, x13.nm⟩) (hcl.mono le_auto) (flat_len (n := 3) (fun _ => rfl) _) lk.has rfl rfl (by simp at hl ⊢; omega) (by decide) fun base' cap' V15 hV15 hc15 => ?_; conv => whnf
     repeat' ((first | refine br_t rfl ?_ | refine br_f rfl ?_ | refine IdxN.lit rfl rfl ?_ | intro _); conv => whnf)
     have hwi : IntKind.i64.wrap (i - 1) = i - 1 := by rw [wrapE]; simp at hl; omega
     refine ⟨j - 1, (i - 1, (it0 :: l') ++ [⟨IntKind.i64.wrap (2 + r14), tb13, x13.nm⟩], base', cap', k14, false), by omega, ?_, ?_, ?_⟩
     ·repeat' (first | exact sees_nil | refine sees_cons rfl rfl rfl ?_ | refine sees_cons rfl rfl (by show some (Value.int .i64 (i - 1)) = some (Value.int .i64 (IntKind.i64.wrap (i - 1))); rw [hwi]) ?_)
     ·repeat' (first | exact keeps_nil | refine keeps_cons rfl ?_ | refine keeps_free ?_)
     ·refine ⟨View.le_trans hV le_auto, by show 0 ≤ i - 1; omega, by show (i - 1).toNat = j - 1; omega, by simp at hl ⊢; omega, hf14, by rw [List.flatMap_append]; simpa using hc15, by simp, fun h => by cases h⟩
    ·repeat' ((first | refine br_t rfl ?_ | refine br_f rfl ?_ | refine IdxN.lit rfl rfl ?_ | intro _); conv => whnf)
     refine ⟨[0], by simp, [picks b s kk], rfl, ⟨6, tnm, noText, (none, 0, 0), (none, 0, 0), (none, 0, 0), (base, (((it0 :: l') : List Item)).length, cp), noText, (none, 0, 0), w, (none, 0, 0), false, (none, 0, 0)⟩, kk, rfl, ⟨rfl, rfl, ?_⟩, hfk, rfl⟩
     exact .inl ⟨rfl, rfl, ⟨hwh.mono le_auto, ⟨((it0 :: l') : List Item), rfl, by simp at hl ⊢ <;> omega, hcl⟩, (.inl rfl)⟩⟩
   ·obtain ⟨h1l, g0, hg0, hc0⟩ := hfst rfl
    subst hg0; subst hc0
    obtain ⟨it0, rfl⟩ : ∃ it, l = [it] := by
     match l, h1l with
     | [x], _ => exact ⟨x, rfl⟩
    conv => whnf
    apply br <;> intro h12 <;> conv => whnf
    ·have hi0 : 0 < i := of_decide_eq_true h12
     refine CallN.box 0 rfl (col_spec b s kk 1 hfk (itemsOf ⟨tnm, tp, [d1, d2, d3], tcap, tq, tql, tqc⟩) (kindsOf ⟨tnm, tp, [d1, d2, d3], tcap, tq, tql, tqc⟩) p5 o5 ac q5 u5 cc 3 _ (hs.mono le_auto) (hat.mono le_auto) rfl) fun v V13 bs hV13 ⟨k13, hf13, hb13, hc13⟩ => ⟨92, picksC s k13, hb13, ?_⟩
     rcases hc13 with ⟨he, _⟩ | ⟨x13, hx13, tb13, hv, hn13⟩
     ·exact absurd he (hk1 1 (.inl rfl))
     subst hv; conv => whnf
     repeat' ((first | refine br_t rfl ?_ | refine br_f rfl ?_ | refine IdxN.lit rfl rfl ?_ | intro _); conv => whnf)
     rename_i b19
     refine CallN.box 0 rfl (num_spec b s k13 3 hf13 (by omega) _ (hs.mono le_auto)) fun v V14 bs hV14 ⟨r14, k14, hv, h014, hr14, hf14, hb14⟩ => ⟨92, picksC s k14, hb14, ?_⟩
     subst hv
     refine Prot.box rfl rfl ?_; conv => whnf
     repeat' ((first | refine br_t rfl ?_ | refine br_f rfl ?_ | refine IdxN.lit rfl rfl ?_ | intro _); conv => whnf)
     rename_i lz lk
     refine AppVD.full 9999 rfl rfl ?_
     refine AppF.to 2 rfl ([it0].flatMap icells) (icells ⟨IntKind.i64.wrap (2 + r14), tb13, x13.nm⟩) (hcl.mono le_auto) rfl (.inr lk.has) rfl rfl (by decide) (by decide) fun base' cap' V15 hV15 hc15 _ => ?_; conv => whnf
     repeat' ((first | refine br_t rfl ?_ | refine br_f rfl ?_ | refine IdxN.lit rfl rfl ?_ | intro _); conv => whnf)
     have hwi : IntKind.i64.wrap (i - 1) = i - 1 := by rw [wrapE]; simp at hl; omega
     refine ⟨j - 1, (i - 1, [it0] ++ [⟨IntKind.i64.wrap (2 + r14), tb13, x13.nm⟩], base', cap', k14, false), by omega, ?_, ?_, ?_⟩
     ·repeat' (first | exact sees_nil | refine sees_cons rfl rfl rfl ?_ | refine sees_cons rfl rfl (by show some (Value.int .i64 (i - 1)) = some (Value.int .i64 (IntKind.i64.wrap (i - 1))); rw [hwi]) ?_)
     ·repeat' (first | exact keeps_nil | refine keeps_cons rfl ?_ | refine keeps_free ?_)
     ·refine ⟨View.le_trans hV le_auto, by show 0 ≤ i - 1; omega, by show (i - 1).toNat = j - 1; omega, by simp at hl ⊢; omega, hf14, by rw [List.flatMap_append]; simpa using hc15, by simp, fun h => by cases h⟩
    ·repeat' ((first | refine br_t rfl ?_ | refine br_f rfl ?_ | refine IdxN.lit rfl rfl ?_ | intro _); conv => whnf)
     refine ⟨[0], by simp, [picks b s kk], rfl, ⟨6, tnm, noText, (none, 0, 0), (none, 0, 0), (none, 0, 0), ((some ⟨g0, 0, none⟩), (([it0] : List Item)).length, 1), noText, (none, 0, 0), w, (none, 0, 0), false, (none, 0, 0)⟩, kk, rfl, ⟨rfl, rfl, ?_⟩, hfk, rfl⟩
     exact .inl ⟨rfl, rfl, ⟨hwh.mono le_auto, ⟨([it0] : List Item), rfl, by simp at hl ⊢ <;> omega, hcl⟩, (.inl rfl)⟩⟩
  ·repeat' ((first | refine br_t rfl ?_ | refine br_f rfl ?_ | refine IdxN.lit rfl rfl ?_ | intro _); conv => whnf)
   apply br <;> intro h20 <;> conv => whnf
   ·refine CallN.box 0 rfl (num_spec b s k10 3 hf10 (by omega) _ (hs.mono le_auto)) fun v V21 bs hV21 ⟨r21, k21, hv, h021, hr21, hf21, hb21⟩ => ⟨92, picksC s k21, hb21, ?_⟩
    subst hv; conv => whnf
    repeat' ((first | refine br_t rfl ?_ | refine br_f rfl ?_ | refine IdxN.lit rfl rfl ?_ | intro _); conv => whnf)
    refine loopz (σ := Int × List Item × Option Addr × Nat × Int)
     (fun x => [(0, .own 0 0), (6, .own 6 0), (7, .own 7 0), (8, .v (.slice (some ⟨p5, o5, none⟩) 3 ac)), (9, .v (.slice (some ⟨q5, u5, none⟩) 3 cc)), (21, .v (.int .i64 x.1))])
     (fun x => (0, picks b s x.2.2.2.2) :: (6, .box b6 30 [.int .i64 0, .string noText, .string noText, .slice none 0 0, .slice none 0 0, .slice none 0 0, .slice none 0 0, .string noText, .slice none 0 0, .slice none 0 0, .slice none 0 0, .bool false, .slice none 0 0]) ::
      (7, .box b7 30 [.int .i64 6, .string (tnm), .string noText, .slice none 0 0, .slice none 0 0, .slice none 0 0, .slice x.2.2.1 x.2.1.length x.2.2.2.1, .string (noText), .slice ((none, 0, 0) : Option Addr × Nat × Nat).1 ((none, 0, 0) : Option Addr × Nat × Nat).2.1 ((none, 0, 0) : Option Addr × Nat × Nat).2.2, .slice w.1 w.2.1 w.2.2, .slice none 0 0, .bool false, .slice none 0 0]) ::
      (match x.2.1 with | [] => [] | _ :: _ => [(150, .row (.slice x.2.2.1 x.2.1.length x.2.2.2.1) 68 3 x.2.1.length)]))
     (fun j x V' => V21.le V' ∧ -1 ≤ x.1 ∧ (x.1 + 1).toNat = j ∧ (x.2.1.length : Int) + x.1 ≤ 2 ∧ FarOk s x.2.2.2.2 ∧ V'.cells (.slice x.2.2.1 x.2.1.length x.2.2.2.1) (x.2.1.flatMap icells) ∧ (x.2.1 = [] → x.2.2.1 = none ∧ x.2.2.2.1 = 0))
     (r21 + 1).toNat (r21, [], none, 0, k21) ?_ ?_ ?_ ?_
    ·repeat' (first | exact sees_nil | refine sees_cons rfl rfl rfl ?_)
    ·repeat' (first | exact keeps_nil | refine keeps_cons rfl ?_ | refine keeps_free ?_)
    ·exact ⟨View.le_refl _, by show -1 ≤ r21; omega, rfl, by show ((0 : Nat) : Int) + r21 ≤ 2; omega, hf21, rfl, fun _ => ⟨rfl, rfl⟩⟩
    rintro j ⟨i, l, base, cp, kk⟩ V' ⟨hV, hi, hj, hl, hfk, hcl, hnil⟩
    simp only at hi hj hl hfk hcl hnil
    rcases l with _ | ⟨it0, l'⟩
    ·obtain ⟨rfl, rfl⟩ := hnil rfl
     conv => whnf
     apply br <;> intro h22 <;> conv => whnf
     ·have hi0 : 0 ≤ i := of_decide_eq_true h22
      refine CallN.box 0 rfl (num_spec b s kk 2 hfk (by omega) _ (hs.mono le_auto)) fun v V12 bs hV12 ⟨r12, k12, hv, h012, hr12, hf12, hb12⟩ => ⟨92, picksC s k12, hb12, ?_⟩
      subst hv; conv => whnf
      have hkd : IntKind.i64.wrap (1 + r12) = 1 ∨ IntKind.i64.wrap (1 + r12) = 2 := by rw [wrapE]; omega
      generalize IntKind.i64.wrap (1 + r12) = kd2 at *
      refine CallN.box 0 rfl (col_spec b s k12 kd2 hf12 (itemsOf ⟨tnm, tp, [d1, d2, d3], tcap, tq, tql, tqc⟩) (kindsOf ⟨tnm, tp, [d1, d2, d3], tcap, tq, tql, tqc⟩) p5 o5 ac q5 u5 cc 3 _ (hs.mono le_auto) (hat.mono le_auto) rfl) fun v V13 bs hV13 ⟨k13, hf13, hb13, hc13⟩ => ⟨92, picksC s k13, hb13, ?_⟩
      rcases hc13 with ⟨he, _⟩ | ⟨x13, hx13, tb13, hv, hn13⟩
      ·exact absurd he (hk1 kd2 hkd)
      subst hv; conv => whnf
      repeat' ((first | refine br_t rfl ?_ | refine br_f rfl ?_ | refine IdxN.lit rfl rfl ?_ | intro _); conv => whnf)
      rename_i b22 lz Vz hVz lk
      have lk : Vz.has lz 0 (icells ⟨0, tb13, x13.nm⟩) := lk
      refine AppN.to 1 rfl [] (icells ⟨0, tb13, x13.nm⟩) rfl rfl lk rfl rfl (by decide) (by decide) fun base' cap' V15 hV15 hc15 => ?_; conv => whnf
      repeat' ((first | refine br_t rfl ?_ | refine br_f rfl ?_ | refine IdxN.lit rfl rfl ?_ | intro _); conv => whnf)
      have hwi : IntKind.i64.wrap (i - 1) = i - 1 := by rw [wrapE]; simp at hl; omega
      refine ⟨j - 1, (i - 1, ([] : List Item) ++ [⟨0, tb13, x13.nm⟩], base', cap', k13), by omega, ?_, ?_, ?_⟩
      ·repeat' (first | exact sees_nil | refine sees_cons rfl rfl rfl ?_ | refine sees_cons rfl rfl (by show some (Value.int .i64 (i - 1)) = some (Value.int .i64 (IntKind.i64.wrap (i - 1))); rw [hwi]) ?_)
      ·repeat' (first | exact keeps_nil | refine keeps_cons rfl ?_ | refine keeps_free ?_)
      ·refine ⟨View.le_trans hV le_auto, by show -1 ≤ i - 1; omega, by show (i - 1 + 1).toNat = j - 1; omega, by simp at hl ⊢; omega, hf13, by rw [List.flatMap_append]; simpa using hc15, fun h => by simp at h⟩
     ·refine CallN.box 0 rfl (num_spec b s kk 3 hfk (by omega) _ (hs.mono le_auto)) fun v V30 bs hV30 ⟨r30, k30, hv, h030, hr30, hf30, hb30⟩ => ⟨92, picksC s k30, hb30, ?_⟩
      subst hv; conv => whnf
      apply br <;> intro h30 <;> conv => whnf
      ·refine CallN.box 0 rfl (num_spec b s k30 2 hf30 (by omega) _ (hs.mono le_auto)) fun v V31 bs hV31 ⟨r31, k31, hv, h031, hr31, hf31, hb31⟩ => ⟨92, picksC s k31, hb31, ?_⟩
       subst hv; conv => whnf
       have hkd : IntKind.i64.wrap (1 + r31) = 1 ∨ IntKind.i64.wrap (1 + r31) = 2 := by rw [wrapE]; omega
       generalize IntKind.i64.wrap (1 + r31) = kd3 at *
       refine CallN.box 0 rfl (col_spec b s k31 kd3 hf31 (itemsOf ⟨tnm, tp, [d1, d2, d3], tcap, tq, tql, tqc⟩) (kindsOf ⟨tnm, tp, [d1, d2, d3], tcap, tq, tql, tqc⟩) p5 o5 ac q5 u5 cc 3 _ (hs.mono le_auto) (hat.mono le_auto) rfl) fun v V32 bs hV32 ⟨k32, hf32, hb32, hc32⟩ => ⟨92, picksC s k32, hb32, ?_⟩
       rcases hc32 with ⟨he, _⟩ | ⟨x32, hx32, tb32, hv, hn32⟩
       ·exact absurd he (hk1 kd3 hkd)
       subst hv; conv => whnf
       repeat' ((first | refine br_t rfl ?_ | refine br_f rfl ?_ | refine IdxN.lit rfl rfl ?_ | intro _); conv => whnf)
       rename_i b24
       refine CallN.box 0 rfl (num_spec b s k32 2 hf32 (by omega) _ (hs.mono le_auto)) fun v V33 bs hV33 ⟨r33, k33, hv, h033, hr33, hf33, hb33⟩ => ⟨92, picksC s k33, hb33, ?_⟩
       subst hv
       refine Prot.box rfl rfl ?_; conv => whnf
       repeat' ((first | refine br_t rfl ?_ | refine br_f rfl ?_ | refine IdxN.lit rfl rfl ?_ | intro _); conv => whnf)
       rename_i lo lko
       have hlo : View.has _ lo 0 (xcells (colN tb32 x32.nm)) := lko.has
       refine ⟨[0], by simp, [picks b s k33], rfl, ⟨6, tnm, noText, (none, 0, 0), (none, 0, 0), (none, 0, 0), (none, (([] : List Item)).length, 0), noText, (none, 0, 0), w, (some ⟨lo, 0, none⟩, 1, 1), (r33 == 0), (none, 0, 0)⟩, k33, rfl, ⟨rfl, rfl, ?_⟩, hf33, rfl⟩
       exact .inl ⟨rfl, rfl, ⟨hwh.mono le_auto, ⟨([] : List Item), rfl, by simp at hl ⊢ <;> omega, (hcl).mono le_auto⟩, (.inr ⟨lo, tb32, x32.nm, rfl, hlo⟩)⟩⟩
      ·repeat' ((first | refine br_t rfl ?_ | refine br_f rfl ?_ | refine IdxN.lit rfl rfl ?_ | intro _); conv => whnf)
       refine ⟨[0], by simp, [picks b s k30], rfl, ⟨6, tnm, noText, (none, 0, 0), (none, 0, 0), (none, 0, 0), (none, (([] : List Item)).length, 0), noText, (none, 0, 0), w, (none, 0, 0), false, (none, 0, 0)⟩, k30, rfl, ⟨rfl, rfl, ?_⟩, hf30, rfl⟩
       exact .inl ⟨rfl, rfl, ⟨hwh.mono le_auto, ⟨([] : List Item), rfl, by simp at hl ⊢ <;> omega, (hcl).mono le_auto⟩, (.inl rfl)⟩⟩
    ·conv => whnf
     apply br <;> intro h22 <;> conv => whnf
     ·have hi0 : 0 ≤ i := of_decide_eq_true h22
      refine CallN.box 0 rfl (num_spec b s kk 2 hfk (by omega) _ (hs.mono le_auto)) fun v V12 bs hV12 ⟨r12, k12, hv, h012, hr12, hf12, hb12⟩ => ⟨92, picksC s k12, hb12, ?_⟩
      subst hv; conv => whnf
      have hkd : IntKind.i64.wrap (1 + r12) = 1 ∨ IntKind.i64.wrap (1 + r12) = 2 := by rw [wrapE]; omega
      generalize IntKind.i64.wrap (1 + r12) = kd2 at *
      refine CallN.box 0 rfl (col_spec b s k12 kd2 hf12 (itemsOf ⟨tnm, tp, [d1, d2, d3], tcap, tq, tql, tqc⟩) (kindsOf ⟨tnm, tp, [d1, d2, d3], tcap, tq, tql, tqc⟩) p5 o5 ac q5 u5 cc 3 _ (hs.mono le_auto) (hat.mono le_auto) rfl) fun v V13 bs hV13 ⟨k13, hf13, hb13, hc13⟩ => ⟨92, picksC s k13, hb13, ?_⟩
      rcases hc13 with ⟨he, _⟩ | ⟨x13, hx13, tb13, hv, hn13⟩
      ·exact absurd he (hk1 kd2 hkd)
      subst hv; conv => whnf
      repeat' ((first | refine br_t rfl ?_ | refine br_f rfl ?_ | refine IdxN.lit rfl rfl ?_ | intro _); conv => whnf)
      rename_i b22 lz Vz hVz lk
      have lk : Vz.has lz 0 (icells ⟨0, tb13, x13.nm⟩) := lk
      refine ⟨⟨150, _, rfl, ?_⟩⟩
      refine AppN.to ((it0 :: l') ++ [(⟨0, tb13, x13.nm⟩ : Item)]).length (by simp) ((it0 :: l').flatMap icells) (icells ⟨0, tb13, x13.nm⟩) (hcl.mono le_auto) (flat_len (n := 3) (fun _ => rfl) _) lk rfl rfl (by simp at hl ⊢; omega) (by decide) fun base' cap' V15 hV15 hc15 => ?_; conv => whnf
      repeat' ((first | refine br_t rfl ?_ | refine br_f rfl ?_ | refine IdxN.lit rfl rfl ?_ | intro _); conv => whnf)
      have hwi : IntKind.i64.wrap (i - 1) = i - 1 := by rw [wrapE]; simp at hl; omega
      refine ⟨j - 1, (i - 1, (it0 :: l') ++ [⟨0, tb13, x13.nm⟩], base', cap', k13), by omega, ?_, ?_, ?_⟩
      ·repeat' (first | exact sees_nil | refine sees_cons rfl rfl rfl ?_ | refine sees_cons rfl rfl (by show some (Value.int .i64 (i - 1)) = some (Value.int .i64 (IntKind.i64.wrap (i - 1))); rw [hwi]) ?_)
      ·repeat' (first | exact keeps_nil | refine keeps_cons rfl ?_ | refine keeps_free ?_)
      ·refine ⟨View.le_trans hV le_auto, by show -1 ≤ i - 1; omega, by show (i - 1 + 1).toNat = j - 1; omega, by simp at hl ⊢; omega, hf13, by rw [List.flatMap_append]; simpa using hc15, fun h => by simp at h⟩
     ·refine CallN.box 0 rfl (num_spec b s kk 3 hfk (by omega) _ (hs.mono le_auto)) fun v V30 bs hV30 ⟨r30, k30, hv, h030, hr30, hf30, hb30⟩ => ⟨92, picksC s k30, hb30, ?_⟩
      subst hv; conv => whnf
      apply br <;> intro h30 <;> conv => whnf
      ·refine CallN.box 0 rfl (num_spec b s k30 2 hf30 (by omega) _ (hs.mono le_auto)) fun v V31 bs hV31 ⟨r31, k31, hv, h031, hr31, hf31, hb31⟩ => ⟨92, picksC s k31, hb31, ?_⟩
       subst hv; conv => whnf
       have hkd : IntKind.i64.wrap (1 + r31) = 1 ∨ IntKind.i64.wrap (1 + r31) = 2 := by rw [wrapE]; omega
       generalize IntKind.i64.wrap (1 + r31) = kd3 at *
       refine CallN.box 0 rfl (col_spec b s k31 kd3 hf31 (itemsOf ⟨tnm, tp, [d1, d2, d3], tcap, tq, tql, tqc⟩) (kindsOf ⟨tnm, tp, [d1, d2, d3], tcap, tq, tql, tqc⟩) p5 o5 ac q5 u5 cc 3 _ (hs.mono le_auto) (hat.mono le_auto) rfl) fun v V32 bs hV32 ⟨k32, hf32, hb32, hc32⟩ => ⟨92, picksC s k32, hb32, ?_⟩
       rcases hc32 with ⟨he, _⟩ | ⟨x32, hx32, tb32, hv, hn32⟩
       ·exact absurd he (hk1 kd3 hkd)
       subst hv; conv => whnf
       repeat' ((first | refine br_t rfl ?_ | refine br_f rfl ?_ | refine IdxN.lit rfl rfl ?_ | intro _); conv => whnf)
       rename_i b24
       refine CallN.box 0 rfl (num_spec b s k32 2 hf32 (by omega) _ (hs.mono le_auto)) fun v V33 bs hV33 ⟨r33, k33, hv, h033, hr33, hf33, hb33⟩ => ⟨92, picksC s k33, hb33, ?_⟩
       subst hv
       refine Prot.box rfl rfl ?_; conv => whnf
       repeat' ((first | refine br_t rfl ?_ | refine br_f rfl ?_ | refine IdxN.lit rfl rfl ?_ | intro _); conv => whnf)
       rename_i lo lko
       have hlo : View.has _ lo 0 (xcells (colN tb32 x32.nm)) := lko.has
       refine ⟨[0], by simp, [picks b s k33], rfl, ⟨6, tnm, noText, (none, 0, 0), (none, 0, 0), (none, 0, 0), (base, (((it0 :: l') : List Item)).length, cp), noText, (none, 0, 0), w, (some ⟨lo, 0, none⟩, 1, 1), (r33 == 0), (none, 0, 0)⟩, k33, rfl, ⟨rfl, rfl, ?_⟩, hf33, rfl⟩
       exact .inl ⟨rfl, rfl, ⟨hwh.mono le_auto, ⟨((it0 :: l') : List Item), rfl, by simp at hl ⊢ <;> omega, (hcl).mono le_auto⟩, (.inr ⟨lo, tb32, x32.nm, rfl, hlo⟩)⟩⟩
      ·repeat' ((first | refine br_t rfl ?_ | refine br_f rfl ?_ | refine IdxN.lit rfl rfl ?_ | intro _); conv => whnf)
       refine ⟨[0], by simp, [picks b s k30], rfl, ⟨6, tnm, noText, (none, 0, 0), (none, 0, 0), (none, 0, 0), (base, (((it0 :: l') : List Item)).length, cp), noText, (none, 0, 0), w, (none, 0, 0), false, (none, 0, 0)⟩, k30, rfl, ⟨rfl, rfl, ?_⟩, hf30, rfl⟩
       exact .inl ⟨rfl, rfl, ⟨hwh.mono le_auto, ⟨((it0 :: l') : List Item), rfl, by simp at hl ⊢ <;> omega, (hcl).mono le_auto⟩, (.inl rfl)⟩⟩
   ·repeat' ((first | refine br_t rfl ?_ | refine br_f rfl ?_ | refine IdxN.lit rfl rfl ?_ | intro _); conv => whnf)
    have hl : ((([] : List Item)).length : Int) ≤ 0 := by decide
    have hcl : V9.cells (.slice none 0 0) (([] : List Item).flatMap icells) := rfl
    refine CallN.box 0 rfl (num_spec b s k10 3 hf10 (by omega) _ (hs.mono le_auto)) fun v V30 bs hV30 ⟨r30, k30, hv, h030, hr30, hf30, hb30⟩ => ⟨92, picksC s k30, hb30, ?_⟩
    subst hv; conv => whnf
    apply br <;> intro h30 <;> conv => whnf
    ·refine CallN.box 0 rfl (num_spec b s k30 2 hf30 (by omega) _ (hs.mono le_auto)) fun v V31 bs hV31 ⟨r31, k31, hv, h031, hr31, hf31, hb31⟩ => ⟨92, picksC s k31, hb31, ?_⟩
     subst hv; conv => whnf
     have hkd : IntKind.i64.wrap (1 + r31) = 1 ∨ IntKind.i64.wrap (1 + r31) = 2 := by rw [wrapE]; omega
     generalize IntKind.i64.wrap (1 + r31) = kd3 at *
     refine CallN.box 0 rfl (col_spec b s k31 kd3 hf31 (itemsOf ⟨tnm, tp, [d1, d2, d3], tcap, tq, tql, tqc⟩) (kindsOf ⟨tnm, tp, [d1, d2, d3], tcap, tq, tql, tqc⟩) p5 o5 ac q5 u5 cc 3 _ (hs.mono le_auto) (hat.mono le_auto) rfl) fun v V32 bs hV32 ⟨k32, hf32, hb32, hc32⟩ => ⟨92, picksC s k32, hb32, ?_⟩
     rcases hc32 with ⟨he, _⟩ | ⟨x32, hx32, tb32, hv, hn32⟩
     ·exact absurd he (hk1 kd3 hkd)
     subst hv; conv => whnf
     repeat' ((first | refine br_t rfl ?_ | refine br_f rfl ?_ | refine IdxN.lit rfl rfl ?_ | intro _); conv => whnf)
     rename_i b24
     refine CallN.box 0 rfl (num_spec b s k32 2 hf32 (by omega) _ (hs.mono le_auto)) fun v V33 bs hV33 ⟨r33, k33, hv, h033, hr33, hf33, hb33⟩ => ⟨92, picksC s k33, hb33, ?_⟩
     subst hv
     refine Prot.box rfl rfl ?_; conv => whnf
     repeat' ((first | refine br_t rfl ?_ | refine br_f rfl ?_ | refine IdxN.lit rfl rfl ?_ | intro _); conv => whnf)
     rename_i lo lko
     have hlo : View.has _ lo 0 (xcells (colN tb32 x32.nm)) := lko.has
     refine ⟨[0], by simp, [picks b s k33], rfl, ⟨6, tnm, noText, (none, 0, 0), (none, 0, 0), (none, 0, 0), (none, (([] : List Item)).length, 0), noText, (none, 0, 0), w, (some ⟨lo, 0, none⟩, 1, 1), (r33 == 0), (none, 0, 0)⟩, k33, rfl, ⟨rfl, rfl, ?_⟩, hf33, rfl⟩
     exact .inl ⟨rfl, rfl, ⟨hwh.mono le_auto, ⟨([] : List Item), rfl, by simp at hl ⊢ <;> omega, (hcl).mono le_auto⟩, (.inr ⟨lo, tb32, x32.nm, rfl, hlo⟩)⟩⟩
    ·repeat' ((first | refine br_t rfl ?_ | refine br_f rfl ?_ | refine IdxN.lit rfl rfl ?_ | intro _); conv => whnf)
     refine ⟨[0], by simp, [picks b s k30], rfl, ⟨6, tnm, noText, (none, 0, 0), (none, 0, 0), (none, 0, 0), (none, (([] : List Item)).length, 0), noText, (none, 0, 0), w, (none, 0, 0), false, (none, 0, 0)⟩, k30, rfl, ⟨rfl, rfl, ?_⟩, hf30, rfl⟩
     exact .inl ⟨rfl, rfl, ⟨hwh.mono le_auto, ⟨([] : List Item), rfl, by simp at hl ⊢ <;> omega, (hcl).mono le_auto⟩, (.inl rfl)⟩⟩
end Go.Proofs.YtenpginanhnkbaaGreat
end
