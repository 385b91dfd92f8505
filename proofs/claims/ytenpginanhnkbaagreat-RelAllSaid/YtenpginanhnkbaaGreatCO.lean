/- One part of a proof: an evaluator of the model, shown right, and contracts that it yields. No condition beyond those that each theorem names. -/
import Derived.Test.YtenpginanhnkbaaGreatCN
import Derived.Test.YtenpginanhnkbaaGreatCC
section
set_option linter.unusedSimpArgs false
set_option linter.unusedVariables false
namespace Go.Proofs.YtenpginanhnkbaaGreat
open Go.X
set_option maxRecDepth 100000
theorem names_U : Names itemsU := names_of (by simp [itemsU, keyC, txt, ByteArray.toList_eq]) (fun x hx => by
 simp only [itemsU, List.mem_cons, List.not_mem_nil, or_false] at hx
 rcases hx with rfl | rfl | rfl <;> simp [txt, ByteArray.toList_eq])
theorem keeps_all {st : St} : ∀ {l : List (Nat × Res)}, (∀ x ∈ l, st.mem x.1 = some x.2) → st.keeps l
 | [], _ => trivial
 | x :: l, h => ⟨.inl (h x List.mem_cons_self), keeps_all fun y hy => h y (List.mem_cons_of_mem _ hy)⟩
theorem joinT_at {mem : Nat → Option Res} {l : List (Nat × Res)} {i : Nat} (h : 1000 ≤ i) : joinT mem l i = memOf l i := by
 unfold joinT
 rw [Nat.ble_eq_true_of_le h]
theorem toVal_own {mem : Nat → Option Res} {id b off : Nat} {t : TypeId} {cs : List Value} (h : mem id = some (.box b t cs)) : toVal mem (.own id off) = some (.pointer (some ⟨b, off, none⟩)) := by simp [toVal, h]
/-- boxes in which all rows lie -/
structure InBoxes (P : List (List Val)) (cells : List Value) (l : List (Nat × Res)) : Prop where
 nd : (l.map (·.1)).Nodup
 far : ∀ x ∈ l, 1000 ≤ x.1
 hold : ∀ (i : Nat) (r : List Val) (c : Value), P[i]? = some r → cells[i]? = some c → ∃ b cp, c = .slice b r.length cp ∧ (r ≠ [] → ∃ g off, b = some ⟨g, off, none⟩ ∧ ∃ x ∈ l, ∃ t cs, x.2 = .box g t cs ∧ off + r.length * 3 ≤ cs.length)
def setL (l : List (Nat × Res)) (i : Nat) (r : Res) : List (Nat × Res) := l.map fun y => if y.1 = i then (y.1, r) else y
theorem setL_fst (l : List (Nat × Res)) (i : Nat) (r : Res) : (setL l i r).map (·.1) = l.map (·.1) := by
 unfold setL
 rw [List.map_map]
 apply List.map_congr_left
 intro y _
 show (if y.1 = i then (y.1, r) else y).1 = y.1
 split <;> rfl
theorem InBoxes.set {P : List (List Val)} {cells : List Value} {l : List (Nat × Res)} (h : InBoxes P cells l) {x : Nat × Res} (hx : x ∈ l) {g : Nat} {t : TypeId} {cs cs' : List Value} (hb : x.2 = .box g t cs) (hl : cs'.length = cs.length) : InBoxes P cells (setL l x.1 (.box g t cs')) := by
 refine ⟨by rw [setL_fst]; exact h.nd, fun y hy => ?_, fun i r c h1 h2 => ?_⟩
 ·obtain ⟨z, hz, rfl⟩ := List.mem_map.1 hy
  have := h.far z hz
  split <;> exact this
 ·obtain ⟨b, cp, e1, e2⟩ := h.hold i r c h1 h2
  refine ⟨b, cp, e1, fun hr => ?_⟩
  obtain ⟨g', off, e3, z, hz, t', ds, e4, e5⟩ := e2 hr
  refine ⟨g', off, e3, if z.1 = x.1 then (z.1, .box g t cs') else z, List.mem_map.2 ⟨z, hz, rfl⟩, ?_⟩
  by_cases he : z.1 = x.1
  ·rw [if_pos he]
   have e6 := memOf_mem h.nd z hz
   rw [he, memOf_mem h.nd x hx, hb, Option.some.injEq] at e6
   rw [e4] at e6
   simp only [Res.box.injEq] at e6
   obtain ⟨rfl, rfl, rfl⟩ := e6
   exact ⟨_, _, rfl, by rw [hl]; exact e5⟩
  ·rw [if_neg he]
   exact ⟨t', ds, e4, e5⟩
theorem setL_mem {l : List (Nat × Res)} (hnd : (l.map (·.1)).Nodup) {mem : Nat → Option Res} (hm : ∀ y ∈ l, mem y.1 = some y.2) {i : Nat} {r : Res} : ∀ y ∈ setL l i r, upd mem i r y.1 = some y.2 := fun y hy => by
 obtain ⟨z, hz, rfl⟩ := List.mem_map.1 hy
 by_cases he : z.1 = i
 ·rw [if_pos he]
  show upd mem i r z.1 = some r
  rw [he, upd_same]
 ·rw [if_neg he, upd_ne _ _ he]
  exact hm z hz
set_option maxHeartbeats 4000000 in
theorem all_all (s1 s2 s3 : Src) (V : View) (h1 : s1.as V) (h2 : s2.as V) (h3 : s3.as V) : PSpec 3 [s1.slice, s2.slice, s3.slice] V (fun v _ => v = .bool true) := by
 refine does_of_zfun [(8, [(0, []), (1, []), (3, []), (4, []), (2, []), (5, []), (6, []), (7, [])])] mixed (args := [.v _, .v _, .v _]) (ms := []) Tryz.func3 (by kernel_rfl) rfl ?_; conv => whnf
 refine CallN.pure (begun12_spec _) fun v V1 _ hV1 hv => ?_
 subst hv; conv => whnf
 repeat' ((first | refine br_t rfl ?_ | refine br_f rfl ?_ | refine IdxN.lit rfl rfl ?_ | intro _); conv => whnf)
 apply br <;> intro g1 <;> conv => whnf
 ·repeat (refine br_t g1 ?_; conv => whnf)
  exact ret_pure rfl
 repeat (refine br_f g1 ?_; conv => whnf)
 apply br <;> intro g2 <;> conv => whnf
 ·repeat (first | (refine br_t g2 ?_; conv => whnf) | (refine br_f g1 ?_; conv => whnf))
  exact ret_pure rfl
 repeat (first | (refine br_f g2 ?_; conv => whnf) | (refine br_f g1 ?_; conv => whnf))
 apply br <;> intro g3 <;> conv => whnf
 ·repeat (first | (refine br_t g3 ?_; conv => whnf) | (refine br_f g1 ?_; conv => whnf) | (refine br_f g2 ?_; conv => whnf))
  exact ret_pure rfl
 have g1 : s1.l.length ≤ 80 := by have := of_decide_eq_false g1; omega
 have g2 : s2.l.length ≤ 60 := by have := of_decide_eq_false g2; omega
 have g3 : s3.l.length ≤ 60 := by have := of_decide_eq_false g3; omega
 have ok1 := h1.ok g1 (by decide)
 have ok2 := h2.ok g2 (by decide)
 have ok3 := h3.ok g3 (by decide)
 refine CallN.pure (chosen_spec s1 _ (ok1.mono le_auto) (by omega)) fun v V2 _ hV2 hch => ?_
 rcases hch with ⟨st, hv⟩ | ⟨st, a, b, hv, t, o, hsel, ht, ho, ha, hjb, hsok, hto⟩
 ·subst hv
  obtain ⟨skind, stb, snm, s3', s4', s5', sit, sjoin, son, swh, sord, sdesc, sinn⟩ := st
  conv => whnf
  repeat' ((first | refine br_t rfl ?_ | refine br_f rfl ?_ | refine IdxN.lit rfl rfl ?_ | intro _); conv => whnf)
  exact ret_pure rfl
 have hfacts : t.cols.length = 3 ∧ o.cols.length = 3 ∧ Names (itemsOf t ++ itemsOf o) ∧ Names (itemsOf t) ∧ o.nm.toList ≠ [] := by
  rcases hto with ⟨p, q, p2, rfl, rfl⟩ | ⟨p, q, p2, rfl, rfl⟩
  ·exact ⟨rfl, rfl, names_J, names_T, by simp [tU, txt, ByteArray.toList_eq]⟩
  ·exact ⟨rfl, rfl, names_UT, names_U, by simp [tT, txt, ByteArray.toList_eq]⟩
 obtain ⟨ht3, ho3, hN, hNt, hon⟩ := hfacts
 clear hto
 have hB : ∀ V1, V2.le V1 → PSpec 6 [s3.slice, b, .int .i64 12] V1 (fun v V' => ∃ ob n oc, v = .slice ob n oc ∧ ((st.join = noText ∧ b = tE) ∨ (st.join = o.nm ∧ b = tabv o ∧ ∃ Y : List (List Val), n = Y.length ∧ RowsAt V' Y ob ∧ (∀ r ∈ Y, RowC o.cols r) ∧ Y.length ≤ 12))) := fun V1 hV1 => by
  rcases hjb with ⟨hj, hb⟩ | ⟨hj, hb⟩
  ·rw [hb]
   exact (rowsE_spec s3 12 V1 (ok3.mono le_auto) (by decide)).mono fun v V' _ _ ⟨ob, n, oc, hv⟩ => ⟨ob, n, oc, hv, .inl ⟨hj, rfl⟩⟩
  ·rw [hb]
   exact (rows_spec s3 o.cols o.nm o.p _ o.cap o.q o.ql o.qc 12 V1 (ok3.mono le_auto) (ho.mono le_auto) rfl (by decide)).mono fun v V' _ _ ⟨Y, ⟨ob, oc, hv, _, hY⟩, hYc, hYl⟩ => ⟨ob, _, oc, hv, .inr ⟨hj, rfl, Y, rfl, hY, hYc, hYl⟩⟩
 obtain ⟨unm, uc, ui, hbg⟩ : ∃ unm uc ui, b = tabg unm uc ui := by
  rcases hjb with ⟨_, hb⟩ | ⟨_, hb⟩
  ·exact ⟨noText, (none, 0, 0), (none, 0, 0), hb⟩
  ·exact ⟨o.nm, (some ⟨o.p, 0, none⟩, o.cols.length, o.cap), (o.q, o.ql, o.qc), hb⟩
 clear hjb
 have hR := fun V1 (hV1 : V2.le V1) => rowsC_specF s2 t.cols t.nm t.p t.cols.length t.cap t.q t.ql t.qc 12 V1 (ok2.mono le_auto) (show ColsLie V1 t.cols t.p from ht.mono hV1) rfl (by decide)
 have hb1 := fun V1 (hV1 : V2.le V1) hok hj X hX xb xc hXr hXl ob n oc => both1 V1 st t o (hsel.mono hV1) hok hj (ht.mono hV1) ht3 hNt hon X hX xb xc hXr hXl ob n oc
 have hb2 := fun V1 (hV1 : V2.le V1) hok hj X Y hX hY xb yb xc yc hXr hYr hXl hYl => both2 V1 st t o (hsel.mono hV1) hok hj (ht.mono hV1) (ho.mono hV1) ht3 ho3 hN hon X Y hX hY xb yb xc yc hXr hYr hXl hYl
 subst hv; subst ha
 have hbv : ∀ V1, V2.le V1 → SelOk V1 (if st.join = noText then itemsOf t else itemsOf t ++ itemsOf o) st := fun V1 h => hsok.mono h
 subst hbg
 obtain ⟨skind, stb, snm, s3', s4', s5', sit, sjoin, son, swh, sord, sdesc, sinn⟩ := st
 obtain ⟨tnm, tp, tcols, tcap, tq, tql, tqc⟩ := t
 simp only at hbv hb1 hb2 hB
 conv => whnf
 repeat' ((first | refine br_t rfl ?_ | refine br_f rfl ?_ | refine IdxN.lit rfl rfl ?_ | intro _); conv => whnf)
 rename_i b7 b8 b9
 refine CallN.pure (hR _ le_auto) fun v V3 _ hV3 ⟨X, xb, xc, hv, hxc, hxp, hX, hXc, hXl, hXF⟩ => ?_
 subst hv
 refine Prot.refl ?_; conv => whnf
 repeat' ((first | refine br_t rfl ?_ | refine br_f rfl ?_ | refine IdxN.lit rfl rfl ?_ | intro _); conv => whnf)
 refine CallN.pure (hB _ le_auto) fun v V4 _ hV4 ⟨ob, yn, oc, hv, hJ⟩ => ?_
 subst hv
 refine Prot.refl ?_; conv => whnf
 repeat' ((first | refine br_t rfl ?_ | refine br_f rfl ?_ | refine IdxN.lit rfl rfl ?_ | intro _); conv => whnf)
 rcases hJ with ⟨hj, hbt⟩ | ⟨hj, hbt, Y, hyn, hY, hYc, hYl⟩
 ·have hok := hbv V4 le_auto
  rw [if_pos hj] at hok
  have hBoth := hb1 V4 le_auto hok hj X hXc xb xc (hX.mono le_auto) hXl none 0 0
  rw [← hbt] at hBoth
  refine br_t (by rw [hj]; simp [noText]) ?_; conv => whnf
  repeat' ((first | refine br_t rfl ?_ | refine br_f rfl ?_ | refine IdxN.lit rfl rfl ?_ | intro _); conv => whnf)
  obtain ⟨S, hSl, hS⟩ := hBoth
  refine CallN.thawRows (S := S) (hS _ le_auto).1 (fun _ => rfl) fun P pb pc cells V6 bx hP hV6 hpc hpl hnd hbx hread hblk => ?_; conv => whnf
  repeat' ((first | refine br_t rfl ?_ | refine br_f rfl ?_ | refine IdxN.lit rfl rfl ?_ | intro _); conv => whnf)
  refine CallN.pure (hS _ le_auto).2 fun v V7 _ hV7 ⟨y, hv, hyok, hybad⟩ => ?_
  have hY7 : RowsV V7 P y := by
   by_cases h0 : S.2 = 0
   ·rw [hP, if_pos h0]; exact hyok h0
   ·rw [hP, if_neg h0, hybad h0]; exact ⟨none, 0, rfl, .inl rfl, ⟨⟨[], CellsAt.nil, fun h => absurd rfl h⟩, by show 0 ≤ _; decide⟩⟩
  have hPl : P.length ≤ 1000 := by
   rw [hP]; split
   ·exact hSl
   ·simp
  obtain ⟨qb, qc, hyv, _, hqr⟩ := hY7
  subst hyv; subst hv
  conv => whnf
  repeat' ((first | refine br_t rfl ?_ | refine br_f rfl ?_ | refine IdxN.lit rfl rfl ?_ | intro _); conv => whnf)
  refine br_t (by simp) ?_; conv => whnf
  have hib : InBoxes P cells bx := ⟨hnd, fun x hx => (hbx x hx).1, hblk⟩
  refine CallN.lendL bx hnd (fun x hx => ?_) fun W mem' hW hall => CallN.pure (samerows_spec P pb qb pc qc W (RowsAt.of_cells (hread W le_auto hall) (View.cells.mono hpc le_auto) (by omega)) (hqr.mono le_auto)) fun v V8 _ hV8 hv => ⟨⟨_, rfl⟩, rfl, ?_⟩
  ·obtain ⟨h1000, g, t, cs, hxe⟩ := hbx x hx
   exact ⟨g, t, cs, hxe, by show joinT _ bx x.1 = _; rw [joinT_at h1000]; exact memOf_mem hnd x hx⟩
  subst hv; conv => whnf
  have hpc7 : V7.cells (.slice pb P.length pc) cells := View.cells.mono hpc le_auto
  have hrl : ∀ (i : Nat) (r : List Val), P[i]? = some r → r.length ≤ 9223372036854775807 := fun i r hr => by
   obtain ⟨_, _, _, _, _, _, _, _, _, hva⟩ := hqr.at hr
   exact hva.len
  clear hread hblk hbx hyok hybad hqr hS hb1 hb2 hbv hB hsel hsok hpc
  refine loopz (σ := Nat × List (Nat × Res))
   (fun x => [(1, .v s2.slice), (8, .own 8 0), (10, .v (.bool true)), (11, .v (.slice xb X.length xc)), (13, .v (.slice pb P.length pc)), (17, .v (.int .i64 x.1))])
   (fun x => (8, .box b8 33 [.string tnm, .slice (some ⟨tp, 0, none⟩) tcols.length tcap, .slice tq tql tqc]) :: x.2)
   (fun j x V' => V7.le V' ∧ x.1 ≤ P.length ∧ P.length - x.1 = j ∧ InBoxes P cells x.2) P.length (0, bx) ?_ ?_ ?_ ?_
  ·repeat' (first | exact sees_nil | refine sees_cons rfl rfl rfl ?_)
  ·exact keeps_cons rfl (keeps_all fun x hx => by show joinT _ bx x.1 = _; rw [joinT_at (hib.far x hx)]; exact memOf_mem hib.nd x hx)
  ·exact ⟨le_auto, Nat.zero_le _, rfl, hib⟩
  rintro j ⟨i, l⟩ V' ⟨hV, hi, hj, hil⟩
  simp only at hi hj hil
  have hwi := wrap_nat (i := i) (by omega)
  conv => whnf
  apply br <;> intro h5 <;> conv => whnf
  ·have hi1 : i < P.length := by have := of_decide_eq_true h5; omega
   obtain ⟨r, hr1⟩ : ∃ r, P[i]? = some r := ⟨_, List.getElem?_eq_getElem hi1⟩
   obtain ⟨c, hc1⟩ : ∃ c, cells[i]? = some c := ⟨_, List.getElem?_eq_getElem (by omega)⟩
   obtain ⟨rb, rcp, hcv, _⟩ := hil.hold i r c hr1 hc1
   obtain ⟨pp, po, hpb, hph⟩ := cells_some hpc7 (fun e => by rw [e] at hc1; simp at hc1)
   have hcell := has_one hph hc1
   subst hcv
   refine loopz (σ := Nat × List (Nat × Res))
    (fun x => [(1, .v s2.slice), (8, .own 8 0), (10, .v (.bool true)), (11, .v (.slice xb X.length xc)), (13, .v (.slice pb P.length pc)), (17, .v (.int .i64 i)), (18, .v (.int .i64 x.1))])
    (fun x => (8, .box b8 33 [.string tnm, .slice (some ⟨tp, 0, none⟩) tcols.length tcap, .slice tq tql tqc]) :: x.2)
    (fun j x V2 => V'.le V2 ∧ x.1 ≤ r.length ∧ r.length - x.1 = j ∧ InBoxes P cells x.2) r.length (0, l) ?_ ?_ ?_ ?_
   ·repeat' (first | exact sees_nil | refine sees_cons rfl rfl rfl ?_)
   ·refine keeps_cons rfl (keeps_all fun x hx => ?_)
    have := hil.far x hx
    show upd (memOf l) 8 _ x.1 = _
    rw [upd_ne _ _ (by omega)]
    exact memOf_mem hil.nd x hx
   ·exact ⟨le_auto, Nat.zero_le _, rfl, hil⟩
   rintro j2 ⟨k, l2⟩ V2 ⟨hV2, hk, hj2, hil2⟩
   simp only at hk hj2 hil2
   subst hpb; conv => whnf
   refine IdxN.of (by omega) (by omega) ?_; conv => whnf
   refine LoadN.of (hcell.mono le_auto) 0 (by show po + i * 1 = po + i + 0; omega) rfl ?_; conv => whnf
   apply br <;> intro h6 <;> conv => whnf
   ·have hk1 : k < r.length := by have := of_decide_eq_true h6; omega
    obtain ⟨rb2, rcp2, e1, e2⟩ := hil2.hold i r _ hr1 hc1
    simp only [Value.slice.injEq, true_and] at e1
    obtain ⟨rfl, rfl⟩ := e1
    obtain ⟨g, off, hrb, x, hx, t, cs, hxe, hbd⟩ := e2 (fun e => by rw [e] at hk1; cases hk1)
    subst hrb
    have hfar := hil2.far x hx
    have hmm : ∀ z ∈ l2, memOf ((8, Res.box b8 33 [.string tnm, .slice (some ⟨tp, 0, none⟩) tcols.length tcap, .slice tq tql tqc]) :: l2) z.1 = some z.2 := fun z hz => by
     have := hil2.far z hz
     show upd (memOf l2) 8 _ z.1 = _
     rw [upd_ne _ _ (by omega)]
     exact memOf_mem hil2.nd z hz
    have hwk := wrap_big hk1 (hrl i r hr1)
    refine IdxN.of (by omega) (by omega) ?_; conv => whnf
    refine LoadN.of (hcell.mono le_auto) 0 (by show po + i * 1 = po + i + 0; omega) rfl ?_; conv => whnf
    refine IdxN.nat k rfl hk1 ?_; conv => whnf
    refine StoN.own x.1 (t := t) (old := cs) (by show memOf (_ :: l2) x.1 = _; rw [← hxe]; exact hmm x hx) (by show off + k * 3 + 3 ≤ cs.length; omega) ?_; conv => whnf
    repeat' ((first | refine br_t rfl ?_ | refine br_f rfl ?_ | refine IdxN.lit rfl rfl ?_ | intro _); conv => whnf)
    refine ⟨j2 - 1, (k + 1, setL l2 x.1 (.box g t (setAt cs (off + k * 3) [.int .i64 9, .int .i64 0, .string noText]))), by omega, ?_, keeps_cons ?_ (keeps_all (setL_mem hil2.nd hmm)), le_auto, hk1, by show r.length - (k + 1) = _; omega, hil2.set hx hxe (length_setAt _ _ _)⟩
    ·refine sees_cons rfl rfl rfl (sees_cons rfl (toVal_own (b := b8) (t := 33) (cs := [.string tnm, .slice (some ⟨tp, 0, none⟩) tcols.length tcap, .slice tq tql tqc]) (by show upd _ x.1 _ 8 = _; rw [upd_ne _ _ (by omega)]; rfl)) rfl ?_)
     repeat' (first | exact sees_nil | refine sees_cons rfl rfl rfl ?_ | refine sees_cons rfl rfl (by rw [← hwk]; rfl) ?_)
    ·show upd _ x.1 _ 8 = _
     rw [upd_ne _ _ (by omega)]; rfl
   ·have hk1 : ¬ k < r.length := by have := of_decide_eq_false h6; omega
    repeat' ((first | refine br_t rfl ?_ | refine br_f rfl ?_ | refine IdxN.lit rfl rfl ?_ | intro _); conv => whnf)
    refine ⟨j - 1, (i + 1, l2), by omega, ?_, ?_, le_auto, hi1, by show P.length - (i + 1) = _; omega, hil2⟩
    ·repeat' (first | exact sees_nil | refine sees_cons rfl rfl rfl ?_ | refine sees_cons rfl rfl (by rw [← hwi]; rfl) ?_)
    ·refine keeps_cons rfl (keeps_all fun x hx => ?_)
     have := hil2.far x hx
     show upd (memOf l2) 8 _ x.1 = _
     rw [upd_ne _ _ (by omega)]
     exact memOf_mem hil2.nd x hx
  ·have hi1 : ¬ i < P.length := by have := of_decide_eq_false h5; omega
   repeat' ((first | refine br_t rfl ?_ | refine br_f rfl ?_ | refine IdxN.lit rfl rfl ?_ | intro _); conv => whnf)
   refine CallN.pure (hR _ le_auto) fun v V9 _ hV9 ⟨X2, xb2, xc2, hv, _, _, hX2, _, _, hXF2⟩ => ?_
   have hXX : X2 = X := hXF2.trans hXF.symm
   subst hXX
   subst hv; conv => whnf
   repeat' ((first | refine br_t rfl ?_ | refine br_f rfl ?_ | refine IdxN.lit rfl rfl ?_ | intro _); conv => whnf)
   refine CallN.pure (samerows_spec X2 xb xb2 xc xc2 _ (hX.mono le_auto) (hX2.mono le_auto)) fun v V10 _ hV10 hv => ?_
   subst hv; conv => whnf
   repeat' ((first | refine br_t rfl ?_ | refine br_f rfl ?_ | refine IdxN.lit rfl rfl ?_ | intro _); conv => whnf)
   exact ret_pure rfl
 ·have hjn : ¬ sjoin = noText := fun e => by
   rw [hj] at e
   exact hon (by rw [e]; exact noText_list)
  have hok := hbv V4 le_auto
  rw [if_neg hjn] at hok
  have hBoth := hb2 V4 le_auto hok hj X Y hXc hYc xb ob xc oc (hX.mono le_auto) hY hXl hYl
  rw [← hbt, ← hyn] at hBoth
  refine br_f (by rw [beq_eq_false_iff_ne]; intro h; exact hon (by rw [← hj, h]; simp [ByteArray.toList_eq])) ?_; conv => whnf
  repeat' ((first | refine br_t rfl ?_ | refine br_f rfl ?_ | refine IdxN.lit rfl rfl ?_ | intro _); conv => whnf)
  obtain ⟨S, hSl, hS⟩ := hBoth
  refine CallN.thawRows (S := S) (hS _ le_auto).1 (fun _ => rfl) fun P pb pc cells V6 bx hP hV6 hpc hpl hnd hbx hread hblk => ?_; conv => whnf
  repeat' ((first | refine br_t rfl ?_ | refine br_f rfl ?_ | refine IdxN.lit rfl rfl ?_ | intro _); conv => whnf)
  refine CallN.pure (hS _ le_auto).2 fun v V7 _ hV7 ⟨y, hv, hyok, hybad⟩ => ?_
  have hY7 : RowsV V7 P y := by
   by_cases h0 : S.2 = 0
   ·rw [hP, if_pos h0]; exact hyok h0
   ·rw [hP, if_neg h0, hybad h0]; exact ⟨none, 0, rfl, .inl rfl, ⟨⟨[], CellsAt.nil, fun h => absurd rfl h⟩, by show 0 ≤ _; decide⟩⟩
  have hPl : P.length ≤ 1000 := by
   rw [hP]; split
   ·exact hSl
   ·simp
  obtain ⟨qb, qc, hyv, _, hqr⟩ := hY7
  subst hyv; subst hv
  conv => whnf
  repeat' ((first | refine br_t rfl ?_ | refine br_f rfl ?_ | refine IdxN.lit rfl rfl ?_ | intro _); conv => whnf)
  refine br_t (by simp) ?_; conv => whnf
  have hib : InBoxes P cells bx := ⟨hnd, fun x hx => (hbx x hx).1, hblk⟩
  refine CallN.lendL bx hnd (fun x hx => ?_) fun W mem' hW hall => CallN.pure (samerows_spec P pb qb pc qc W (RowsAt.of_cells (hread W le_auto hall) (View.cells.mono hpc le_auto) (by omega)) (hqr.mono le_auto)) fun v V8 _ hV8 hv => ⟨⟨_, rfl⟩, rfl, ?_⟩
  ·obtain ⟨h1000, g, t, cs, hxe⟩ := hbx x hx
   exact ⟨g, t, cs, hxe, by show joinT _ bx x.1 = _; rw [joinT_at h1000]; exact memOf_mem hnd x hx⟩
  subst hv; conv => whnf
  have hpc7 : V7.cells (.slice pb P.length pc) cells := View.cells.mono hpc le_auto
  have hrl : ∀ (i : Nat) (r : List Val), P[i]? = some r → r.length ≤ 9223372036854775807 := fun i r hr => by
   obtain ⟨_, _, _, _, _, _, _, _, _, hva⟩ := hqr.at hr
   exact hva.len
  clear hread hblk hbx hyok hybad hqr hS hb1 hb2 hbv hB hsel hsok hpc
  refine loopz (σ := Nat × List (Nat × Res))
   (fun x => [(1, .v s2.slice), (8, .own 8 0), (10, .v (.bool true)), (11, .v (.slice xb X.length xc)), (13, .v (.slice pb P.length pc)), (17, .v (.int .i64 x.1))])
   (fun x => (8, .box b8 33 [.string tnm, .slice (some ⟨tp, 0, none⟩) tcols.length tcap, .slice tq tql tqc]) :: x.2)
   (fun j x V' => V7.le V' ∧ x.1 ≤ P.length ∧ P.length - x.1 = j ∧ InBoxes P cells x.2) P.length (0, bx) ?_ ?_ ?_ ?_
  ·repeat' (first | exact sees_nil | refine sees_cons rfl rfl rfl ?_)
  ·exact keeps_cons rfl (keeps_all fun x hx => by show joinT _ bx x.1 = _; rw [joinT_at (hib.far x hx)]; exact memOf_mem hib.nd x hx)
  ·exact ⟨le_auto, Nat.zero_le _, rfl, hib⟩
  rintro j ⟨i, l⟩ V' ⟨hV, hi, hj, hil⟩
  simp only at hi hj hil
  have hwi := wrap_nat (i := i) (by omega)
  conv => whnf
  apply br <;> intro h5 <;> conv => whnf
  ·have hi1 : i < P.length := by have := of_decide_eq_true h5; omega
   obtain ⟨r, hr1⟩ : ∃ r, P[i]? = some r := ⟨_, List.getElem?_eq_getElem hi1⟩
   obtain ⟨c, hc1⟩ : ∃ c, cells[i]? = some c := ⟨_, List.getElem?_eq_getElem (by omega)⟩
   obtain ⟨rb, rcp, hcv, _⟩ := hil.hold i r c hr1 hc1
   obtain ⟨pp, po, hpb, hph⟩ := cells_some hpc7 (fun e => by rw [e] at hc1; simp at hc1)
   have hcell := has_one hph hc1
   subst hcv
   refine loopz (σ := Nat × List (Nat × Res))
    (fun x => [(1, .v s2.slice), (8, .own 8 0), (10, .v (.bool true)), (11, .v (.slice xb X.length xc)), (13, .v (.slice pb P.length pc)), (17, .v (.int .i64 i)), (18, .v (.int .i64 x.1))])
    (fun x => (8, .box b8 33 [.string tnm, .slice (some ⟨tp, 0, none⟩) tcols.length tcap, .slice tq tql tqc]) :: x.2)
    (fun j x V2 => V'.le V2 ∧ x.1 ≤ r.length ∧ r.length - x.1 = j ∧ InBoxes P cells x.2) r.length (0, l) ?_ ?_ ?_ ?_
   ·repeat' (first | exact sees_nil | refine sees_cons rfl rfl rfl ?_)
   ·refine keeps_cons rfl (keeps_all fun x hx => ?_)
    have := hil.far x hx
    show upd (memOf l) 8 _ x.1 = _
    rw [upd_ne _ _ (by omega)]
    exact memOf_mem hil.nd x hx
   ·exact ⟨le_auto, Nat.zero_le _, rfl, hil⟩
   rintro j2 ⟨k, l2⟩ V2 ⟨hV2, hk, hj2, hil2⟩
   simp only at hk hj2 hil2
   subst hpb; conv => whnf
   refine IdxN.of (by omega) (by omega) ?_; conv => whnf
   refine LoadN.of (hcell.mono le_auto) 0 (by show po + i * 1 = po + i + 0; omega) rfl ?_; conv => whnf
   apply br <;> intro h6 <;> conv => whnf
   ·have hk1 : k < r.length := by have := of_decide_eq_true h6; omega
    obtain ⟨rb2, rcp2, e1, e2⟩ := hil2.hold i r _ hr1 hc1
    simp only [Value.slice.injEq, true_and] at e1
    obtain ⟨rfl, rfl⟩ := e1
    obtain ⟨g, off, hrb, x, hx, t, cs, hxe, hbd⟩ := e2 (fun e => by rw [e] at hk1; cases hk1)
    subst hrb
    have hfar := hil2.far x hx
    have hmm : ∀ z ∈ l2, memOf ((8, Res.box b8 33 [.string tnm, .slice (some ⟨tp, 0, none⟩) tcols.length tcap, .slice tq tql tqc]) :: l2) z.1 = some z.2 := fun z hz => by
     have := hil2.far z hz
     show upd (memOf l2) 8 _ z.1 = _
     rw [upd_ne _ _ (by omega)]
     exact memOf_mem hil2.nd z hz
    have hwk := wrap_big hk1 (hrl i r hr1)
    refine IdxN.of (by omega) (by omega) ?_; conv => whnf
    refine LoadN.of (hcell.mono le_auto) 0 (by show po + i * 1 = po + i + 0; omega) rfl ?_; conv => whnf
    refine IdxN.nat k rfl hk1 ?_; conv => whnf
    refine StoN.own x.1 (t := t) (old := cs) (by show memOf (_ :: l2) x.1 = _; rw [← hxe]; exact hmm x hx) (by show off + k * 3 + 3 ≤ cs.length; omega) ?_; conv => whnf
    repeat' ((first | refine br_t rfl ?_ | refine br_f rfl ?_ | refine IdxN.lit rfl rfl ?_ | intro _); conv => whnf)
    refine ⟨j2 - 1, (k + 1, setL l2 x.1 (.box g t (setAt cs (off + k * 3) [.int .i64 9, .int .i64 0, .string noText]))), by omega, ?_, keeps_cons ?_ (keeps_all (setL_mem hil2.nd hmm)), le_auto, hk1, by show r.length - (k + 1) = _; omega, hil2.set hx hxe (length_setAt _ _ _)⟩
    ·refine sees_cons rfl rfl rfl (sees_cons rfl (toVal_own (b := b8) (t := 33) (cs := [.string tnm, .slice (some ⟨tp, 0, none⟩) tcols.length tcap, .slice tq tql tqc]) (by show upd _ x.1 _ 8 = _; rw [upd_ne _ _ (by omega)]; rfl)) rfl ?_)
     repeat' (first | exact sees_nil | refine sees_cons rfl rfl rfl ?_ | refine sees_cons rfl rfl (by rw [← hwk]; rfl) ?_)
    ·show upd _ x.1 _ 8 = _
     rw [upd_ne _ _ (by omega)]; rfl
   ·have hk1 : ¬ k < r.length := by have := of_decide_eq_false h6; omega
    repeat' ((first | refine br_t rfl ?_ | refine br_f rfl ?_ | refine IdxN.lit rfl rfl ?_ | intro _); conv => whnf)
    refine ⟨j - 1, (i + 1, l2), by omega, ?_, ?_, le_auto, hi1, by show P.length - (i + 1) = _; omega, hil2⟩
    ·repeat' (first | exact sees_nil | refine sees_cons rfl rfl rfl ?_ | refine sees_cons rfl rfl (by rw [← hwi]; rfl) ?_)
    ·refine keeps_cons rfl (keeps_all fun x hx => ?_)
     have := hil2.far x hx
     show upd (memOf l2) 8 _ x.1 = _
     rw [upd_ne _ _ (by omega)]
     exact memOf_mem hil2.nd x hx
  ·have hi1 : ¬ i < P.length := by have := of_decide_eq_false h5; omega
   repeat' ((first | refine br_t rfl ?_ | refine br_f rfl ?_ | refine IdxN.lit rfl rfl ?_ | intro _); conv => whnf)
   refine CallN.pure (hR _ le_auto) fun v V9 _ hV9 ⟨X2, xb2, xc2, hv, _, _, hX2, _, _, hXF2⟩ => ?_
   have hXX : X2 = X := hXF2.trans hXF.symm
   subst hXX
   subst hv; conv => whnf
   repeat' ((first | refine br_t rfl ?_ | refine br_f rfl ?_ | refine IdxN.lit rfl rfl ?_ | intro _); conv => whnf)
   refine CallN.pure (samerows_spec X2 xb xb2 xc xc2 _ (hX.mono le_auto) (hX2.mono le_auto)) fun v V10 _ hV10 hv => ?_
   subst hv; conv => whnf
   repeat' ((first | refine br_t rfl ?_ | refine br_f rfl ?_ | refine IdxN.lit rfl rfl ?_ | intro _); conv => whnf)
   exact ret_pure rfl
end Go.Proofs.YtenpginanhnkbaaGreat
end
