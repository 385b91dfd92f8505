/- One part of a proof: an evaluator of the model, shown right, and contracts that it yields. No condition beyond those that each theorem names. -/
import Derived.Test.YtenpginanhnkbaaDB
section
set_option linter.unusedSimpArgs false
set_option linter.unusedVariables false
namespace Go.Proofs.Ytenpginanhnkbaa
open Go.X
set_option maxRecDepth 100000

def preX (hold : List Val → Bool × Int) (g : List Val → List (List Val)) (X : List (List Val)) (i : Nat) : List (List Val) := (whereX hold ((X.take i).flatMap g)).1
set_option maxHeartbeats 4000000 in
theorem counts_all (s1 s2 s3 : Src) (V : View) (h1 : s1.as V) (h2 : s2.as V) (h3 : s3.as V) : PSpec 9 [s1.slice, s2.slice, s3.slice] V (fun v _ => v = .bool true) := by
  refine does_of_zfun [(8, [(0, []), (1, []), (3, []), (4, []), (2, []), (5, []), (6, []), (7, [])]), (22, [(0, []), (1, []), (2, []), (3, []), (4, []), (5, []), (6, []), (7, []), (8, []), (9, []), (10, []), (11, []), (12, []), (13, []), (14, [])])] mixed (args := [.v _, .v _, .v _]) (ms := []) Try.func9 (by kernel_rfl) rfl ?_
  conv => whnf
  refine CallN.pure (begun12_spec _) fun v V1 _ hV1 hv => ?_
  subst hv
  conv => whnf
  repeat' first
    | (refine br_t rfl ?_; conv => whnf)
    | (refine br_f rfl ?_; conv => whnf)
    | (refine IdxN.lit rfl rfl ?_; conv => whnf)
    | (intro _; conv => whnf)
  apply br <;> intro g1 <;> conv => whnf
  · repeat (refine br_t g1 ?_; conv => whnf)
    exact ret_pure rfl
  repeat (refine br_f g1 ?_; conv => whnf)
  apply br <;> intro g2 <;> conv => whnf
  · repeat (first | (refine br_t g2 ?_; conv => whnf) | (refine br_f g1 ?_; conv => whnf))
    exact ret_pure rfl
  repeat (first | (refine br_f g2 ?_; conv => whnf) | (refine br_f g1 ?_; conv => whnf))
  apply br <;> intro g3 <;> conv => whnf
  · repeat (first | (refine br_t g3 ?_; conv => whnf) | (refine br_f g1 ?_; conv => whnf) | (refine br_f g2 ?_; conv => whnf))
    exact ret_pure rfl
  have g1 : s1.l.length ≤ 60 := by have := of_decide_eq_false g1; omega
  have g2 : s2.l.length ≤ 50 := by have := of_decide_eq_false g2; omega
  have g3 : s3.l.length ≤ 50 := by have := of_decide_eq_false g3; omega
  have ok1 := h1.ok g1 (by decide)
  have ok2 := h2.ok g2 (by decide)
  have ok3 := h3.ok g3 (by decide)
  refine CallN.pure (chosen_spec s1 _ (ok1.mono (by repeat (first | exact View.le_refl _ | assumption | exact View.addU_le _ _ _ | refine View.le_trans ?_ (by assumption) | refine View.le_trans ?_ (View.addU_le _ _ _)))) (by omega)) fun v V2 _ hV2 hch => ?_
  rcases hch with ⟨st, hv⟩ | ⟨st, a, b, hv, t, o, hsel, ht, ho, ha, hjb, hto⟩
  · subst hv
    obtain ⟨skind, stb, snm, s3', s4', s5', sit, sjoin, son, swh, sord, sdesc, sinn⟩ := st
    conv => whnf
    repeat' first
      | (refine br_t rfl ?_; conv => whnf)
      | (refine br_f rfl ?_; conv => whnf)
      | (refine IdxN.lit rfl rfl ?_; conv => whnf)
      | (intro _; conv => whnf)
    exact ret_pure rfl
  have hfacts : t.cols.length = 3 ∧ o.cols.length = 3 ∧ Names (itemsOf t ++ itemsOf o) ∧ o.nm.toList ≠ [] := by
    rcases hto with ⟨p, q, p2, rfl, rfl⟩ | ⟨p, q, p2, rfl, rfl⟩
    · exact ⟨rfl, rfl, names_J, by simp [tU, txt, ByteArray.toList_eq]⟩
    · exact ⟨rfl, rfl, names_UT, by simp [tT, txt, ByteArray.toList_eq]⟩
  obtain ⟨ht3, ho3, hN, hon⟩ := hfacts
  have hB : ∀ V1, V2.le V1 → PSpec 31 [s3.slice, b, .int .i64 10] V1 (fun v V' => ∃ ob n oc, v = .slice ob n oc ∧ ((st.join = noText ∧ b = tE) ∨ (st.join = o.nm ∧ b = tabv o ∧ ∃ Y : List (List Val), n = Y.length ∧ RowsAt V' Y ob ∧ (∀ r ∈ Y, RowC o.cols r) ∧ Y.length ≤ 10))) := fun V1 hV1 => by
    rcases hjb with ⟨hj, hb⟩ | ⟨hj, hb⟩
    · rw [hb]
      exact (rowsE_spec s3 10 V1 (ok3.mono (by repeat (first | exact View.le_refl _ | assumption | exact View.addU_le _ _ _ | refine View.le_trans ?_ (by assumption) | refine View.le_trans ?_ (View.addU_le _ _ _)))) (by decide)).mono fun v V' _ _ ⟨ob, n, oc, hv⟩ => ⟨ob, n, oc, hv, .inl ⟨hj, rfl⟩⟩
    · rw [hb]
      exact (rows_spec s3 o.cols o.nm o.p _ o.cap o.q o.ql o.qc 10 V1 (ok3.mono (by repeat (first | exact View.le_refl _ | assumption | exact View.addU_le _ _ _ | refine View.le_trans ?_ (by assumption) | refine View.le_trans ?_ (View.addU_le _ _ _)))) (ho.mono (by repeat (first | exact View.le_refl _ | assumption | exact View.addU_le _ _ _ | refine View.le_trans ?_ (by assumption) | refine View.le_trans ?_ (View.addU_le _ _ _)))) rfl (by decide)).mono fun v V' _ _ ⟨Y, ⟨ob, oc, hv, _, hY⟩, hYc, hYl⟩ => ⟨ob, _, oc, hv, .inr ⟨hj, rfl, Y, rfl, hY, hYc, hYl⟩⟩
  obtain ⟨unm, uc, ui, hbg⟩ : ∃ unm uc ui, b = tabg unm uc ui := by
    rcases hjb with ⟨_, hb⟩ | ⟨_, hb⟩
    · exact ⟨noText, (none, 0, 0), (none, 0, 0), hb⟩
    · exact ⟨o.nm, (some ⟨o.p, 0, none⟩, o.cols.length, o.cap), (o.q, o.ql, o.qc), hb⟩
  clear hjb hto
  subst hv; subst ha; subst hbg
  have hFn := fun V4 (hV4 : V2.le V4) X hX ob n oc hJ => rowsFn V4 st t o (hsel.mono hV4) (ht.mono hV4) (ho.mono hV4) ht3 ho3 hN hon X hX ob n oc (tabg unm uc ui) hJ
  obtain ⟨skind, stb, snm, s3', s4', s5', sit, sjoin, son, swh, sord, sdesc, sinn⟩ := st
  obtain ⟨tnm, tp, tcols, tcap, tq, tql, tqc⟩ := t
  conv => whnf
  repeat' first
    | (refine br_t rfl ?_; conv => whnf)
    | (refine br_f rfl ?_; conv => whnf)
    | (refine IdxN.lit rfl rfl ?_; conv => whnf)
    | (intro _; conv => whnf)
  rename_i b7 b8 b9
  refine CallN.pure (rowsC_spec s2 tcols tnm tp tcols.length tcap tq tql tqc 10 _ (ok2.mono (by repeat (first | exact View.le_refl _ | assumption | exact View.addU_le _ _ _ | refine View.le_trans ?_ (by assumption) | refine View.le_trans ?_ (View.addU_le _ _ _)))) (show ColsLie _ tcols tp from (ht.mono (by repeat (first | exact View.le_refl _ | assumption | exact View.addU_le _ _ _ | refine View.le_trans ?_ (by assumption) | refine View.le_trans ?_ (View.addU_le _ _ _))))) rfl (by decide)) fun v V3 _ hV3 ⟨X, xb, xc, hv, hxc, hxp, hX, hXc, hXl⟩ => ?_
  subst hv
  refine Prot.refl ?_
  conv => whnf
  repeat' first
    | (refine br_t rfl ?_; conv => whnf)
    | (refine br_f rfl ?_; conv => whnf)
    | (refine IdxN.lit rfl rfl ?_; conv => whnf)
    | (intro _; conv => whnf)
  refine CallN.pure (hB _ (by repeat (first | exact View.le_refl _ | assumption | exact View.addU_le _ _ _ | refine View.le_trans ?_ (by assumption) | refine View.le_trans ?_ (View.addU_le _ _ _)))) fun v V4 _ hV4 ⟨ob, yn, oc, hv, hJ⟩ => ?_
  subst hv
  refine Prot.refl ?_
  conv => whnf
  repeat' first
    | (refine br_t rfl ?_; conv => whnf)
    | (refine br_f rfl ?_; conv => whnf)
    | (refine IdxN.lit rfl rfl ?_; conv => whnf)
    | (intro _; conv => whnf)
  obtain ⟨its, g, hold, F⟩ := hFn V4 (by repeat (first | exact View.le_refl _ | assumption | exact View.addU_le _ _ _ | refine View.le_trans ?_ (by assumption) | refine View.le_trans ?_ (View.addU_le _ _ _))) X hXc ob yn oc hJ
  refine CallN.pure (selE_spec F ⟨skind, stb, snm, s3', s4', s5', (none, 0, 0), sjoin, son, swh, (none, 0, 0), false, sinn⟩ rfl rfl rfl rfl rfl X X.length rfl xb xc (fun r h => h) hXl _ (by repeat (first | exact View.le_refl _ | assumption | exact View.addU_le _ _ _ | refine View.le_trans ?_ (by assumption) | refine View.le_trans ?_ (View.addU_le _ _ _))) (hX.mono (by repeat (first | exact View.le_refl _ | assumption | exact View.addU_le _ _ _ | refine View.le_trans ?_ (by assumption) | refine View.le_trans ?_ (View.addU_le _ _ _))))) fun v V5 _ hV5 ⟨x5, hv, hok5, hbad5⟩ => ?_
  by_cases hE : (whereX hold (X.flatMap g)).2 = 0
  rotate_left
  · have hx5 := hbad5 hE
    subst hx5
    subst hv
    conv => whnf
    repeat' first
      | (refine br_t rfl ?_; conv => whnf)
      | (refine br_f rfl ?_; conv => whnf)
      | (refine IdxN.lit rfl rfl ?_; conv => whnf)
      | (intro _; conv => whnf)
    rename_i b15 ln Vn hVn hln
    refine CallN.pure (selC_spec F ⟨skind, stb, snm, s3', s4', s5', (some ⟨ln, 0, none⟩, 1, 1), sjoin, son, swh, (none, 0, 0), false, sinn⟩ rfl rfl rfl ln 1 rfl X X.length rfl xb xc (fun r h => h) hXl _ (by repeat (first | exact View.le_refl _ | assumption | exact View.addU_le _ _ _ | refine View.le_trans ?_ (by assumption) | refine View.le_trans ?_ (View.addU_le _ _ _))) (hX.mono (by repeat (first | exact View.le_refl _ | assumption | exact View.addU_le _ _ _ | refine View.le_trans ?_ (by assumption) | refine View.le_trans ?_ (View.addU_le _ _ _)))) hln) fun v V6 _ hV6 ⟨x6, hv, _, hbad6⟩ => ?_
    have hx6 := hbad6 hE
    subst hx6
    subst hv
    conv => whnf
    refine br_t (by simpa using hE) ?_
    conv => whnf
    repeat' first
      | (refine br_t rfl ?_; conv => whnf)
      | (refine br_f rfl ?_; conv => whnf)
      | (refine IdxN.lit rfl rfl ?_; conv => whnf)
      | (intro _; conv => whnf)
    exact ret_pure (by simp [packVals])
  obtain ⟨gb, gc, hx5, hgc, hgp, hgr⟩ := hok5 hE
  rw [hE] at hv
  subst hx5
  subst hv
  conv => whnf
  repeat' first
    | (refine br_t rfl ?_; conv => whnf)
    | (refine br_f rfl ?_; conv => whnf)
    | (refine IdxN.lit rfl rfl ?_; conv => whnf)
    | (intro _; conv => whnf)
  rename_i b15 ln Vn hVn hln
  refine CallN.pure (selC_spec F ⟨skind, stb, snm, s3', s4', s5', (some ⟨ln, 0, none⟩, 1, 1), sjoin, son, swh, (none, 0, 0), false, sinn⟩ rfl rfl rfl ln 1 rfl X X.length rfl xb xc (fun r h => h) hXl _ (by repeat (first | exact View.le_refl _ | assumption | exact View.addU_le _ _ _ | refine View.le_trans ?_ (by assumption) | refine View.le_trans ?_ (View.addU_le _ _ _))) (hX.mono (by repeat (first | exact View.le_refl _ | assumption | exact View.addU_le _ _ _ | refine View.le_trans ?_ (by assumption) | refine View.le_trans ?_ (View.addU_le _ _ _)))) hln) fun v V6 _ hV6 ⟨x6, hv, hok6, _⟩ => ?_
  obtain ⟨nb, nc, hx6, hnp, hnr⟩ := hok6 hE
  rw [hE] at hv
  subst hx6
  subst hv
  obtain ⟨p6, o6, c6, hnb, hcell6, hrow6⟩ := hnr.at (i := 0) rfl
  obtain ⟨rb6, rc6, hc6, _, hva6⟩ := hrow6
  obtain ⟨p7, o7, hrb7, hval7⟩ := hva6.at (i := 0) rfl
  subst hnb; subst hc6; subst hrb7
  conv => whnf
  repeat' first
    | (refine br_t rfl ?_; conv => whnf)
    | (refine br_f rfl ?_; conv => whnf)
    | (refine IdxN.lit rfl rfl ?_; conv => whnf)
    | (intro _; conv => whnf)
  refine LoadN.of (hcell6.mono (by repeat (first | exact View.le_refl _ | assumption | exact View.addU_le _ _ _ | refine View.le_trans ?_ (by assumption) | refine View.le_trans ?_ (View.addU_le _ _ _)))) 0 rfl rfl ?_
  conv => whnf
  repeat' first
    | (refine br_t rfl ?_; conv => whnf)
    | (refine br_f rfl ?_; conv => whnf)
    | (refine IdxN.lit rfl rfl ?_; conv => whnf)
    | (intro _; conv => whnf)
  refine LoadN.of (hcell6.mono (by repeat (first | exact View.le_refl _ | assumption | exact View.addU_le _ _ _ | refine View.le_trans ?_ (by assumption) | refine View.le_trans ?_ (View.addU_le _ _ _)))) 0 rfl rfl ?_
  conv => whnf
  repeat' first
    | (refine br_t rfl ?_; conv => whnf)
    | (refine br_f rfl ?_; conv => whnf)
    | (refine IdxN.lit rfl rfl ?_; conv => whnf)
    | (intro _; conv => whnf)
  refine LoadN.of (hval7.mono (by repeat (first | exact View.le_refl _ | assumption | exact View.addU_le _ _ _ | refine View.le_trans ?_ (by assumption) | refine View.le_trans ?_ (View.addU_le _ _ _)))) 1 rfl rfl ?_
  conv => whnf
  repeat' first
    | (refine br_t rfl ?_; conv => whnf)
    | (refine br_f rfl ?_; conv => whnf)
    | (refine IdxN.lit rfl rfl ?_; conv => whnf)
    | (intro _; conv => whnf)
  refine br_f (by simp) ?_
  conv => whnf
  repeat' first
    | (refine br_t rfl ?_; conv => whnf)
    | (refine br_f rfl ?_; conv => whnf)
    | (refine IdxN.lit rfl rfl ?_; conv => whnf)
    | (intro _; conv => whnf)
  have hWl : (whereX hold (X.flatMap g)).1.length ≤ 100 := by
    have h1 := whereX_len hold (X.flatMap g)
    have h2 := flat_small F.small (xs := X) (fun r h => h)
    omega
  refine loopz (σ := Nat)
    (fun i => [(7, .own 7 0), (8, .own 8 0), (9, .own 9 0), (11, .v (.slice xb X.length xc)), (12, .v (.slice ob yn oc)), (13, .v (.slice gb (whereX hold (X.flatMap g)).1.length gc)), (18, .v (.int .i64 (preX hold g X i).length)), (19, .v (.int .i64 i))])
    (fun _ => [(7, .box b7 70 [.int .i64 skind, .string stb, .string snm, .slice s3'.1 s3'.2.1 s3'.2.2, .slice s4'.1 s4'.2.1 s4'.2.2, .slice s5'.1 s5'.2.1 s5'.2.2, .slice none 0 0, .string sjoin, .slice son.1 son.2.1 son.2.2, .slice swh.1 swh.2.1 swh.2.2, .slice none 0 0, .bool false, .slice sinn.1 sinn.2.1 sinn.2.2]),
      (8, .box b8 27 [.string tnm, .slice (some ⟨tp, 0, none⟩) tcols.length tcap, .slice tq tql tqc]), (9, .box b9 27 [.string unm, .slice uc.1 uc.2.1 uc.2.2, .slice ui.1 ui.2.1 ui.2.2])])
    (fun j i V' => V6.le V' ∧ i ≤ X.length ∧ X.length - i = j) X.length 0 ?_ ?_ ?_ ?_
  · repeat' (first | exact sees_nil | refine sees_cons rfl rfl rfl ?_)
  · repeat' (first | exact keeps_nil | refine keeps_cons rfl ?_ | refine keeps_free ?_)
  · exact ⟨View.le_refl _, Nat.zero_le _, rfl⟩
  rintro j i V' ⟨hV, hi, hj⟩
  conv => whnf
  apply br <;> intro g4 <;> conv => whnf
  · have hi1 : i < X.length := by have := of_decide_eq_true g4; omega
    obtain ⟨x, hx⟩ : ∃ x, X[i]? = some x := ⟨_, List.getElem?_eq_getElem hi1⟩
    have hwi := wrap_nat (i := i) (by omega)
    have hXe : X = X.take i ++ ([x] ++ X.drop (i + 1)) := by
      have hlt := (List.getElem?_eq_some_iff.1 hx)
      rw [List.singleton_append, ← hlt.2, ← List.drop_eq_getElem_cons hlt.1, List.take_append_drop]
    have hti : (X.take i).length = i := by rw [List.length_take]; omega
    have hpart : RowsAt V3 [x] (cutLH xb i xc) := by
      have h := hX
      rw [hXe] at h
      have := h.part hxp (by rw [← hXe]; exact hxc)
      rwa [hti] at this
    obtain ⟨c1, c2, rest, c3⟩ := counts hold g X i x hx hE
    have c3 : (whereX hold (X.flatMap g)).1 = preX hold g X i ++ ((whereX hold (g x)).1 ++ rest) := c3
    have c2 : preX hold g X (i + 1) = preX hold g X i ++ (whereX hold (g x)).1 := c2
    have c3l := congrArg List.length c3
    simp only [List.length_append] at c3l
    have hflat : [x].flatMap g = g x := by simp
    refine ⟨⟨_, fun w => (by rw [hwi, slice_lhP _ _ hxp X.length xc i (i + 1) under63 size63 (by omega) (by omega) w, Nat.add_sub_cancel_left]), ?_⟩⟩
    conv => whnf
    refine CallN.pure (selE_spec F ⟨skind, stb, snm, s3', s4', s5', (none, 0, 0), sjoin, son, swh, (none, 0, 0), false, sinn⟩ rfl rfl rfl rfl rfl [x] 1 rfl (cutLH xb i xc) (xc - i) (fun r h => by rw [List.mem_singleton.1 h]; exact List.mem_of_getElem? hx) (by show 1 ≤ 10; decide) _ (by repeat (first | exact View.le_refl _ | assumption | exact View.addU_le _ _ _ | refine View.le_trans ?_ (by assumption) | refine View.le_trans ?_ (View.addU_le _ _ _))) (hpart.mono (by repeat (first | exact View.le_refl _ | assumption | exact View.addU_le _ _ _ | refine View.le_trans ?_ (by assumption) | refine View.le_trans ?_ (View.addU_le _ _ _))))) fun v V7 _ hV7 ⟨x7, hv, hok7, _⟩ => ?_
    rw [hflat] at hv hok7
    obtain ⟨kb, kc, hx7, _, hkp, hkr⟩ := hok7 c1
    rw [c1] at hv
    subst hx7
    subst hv
    refine Prot.refl ?_
    conv => whnf
    repeat' first
      | (refine br_t rfl ?_; conv => whnf)
      | (refine br_f rfl ?_; conv => whnf)
      | (refine IdxN.lit rfl rfl ?_; conv => whnf)
      | (intro _; conv => whnf)
    have hwk : IntKind.i64.wrap (((preX hold g X i).length : Int) + ((whereX hold (g x)).1.length : Int)) = (((preX hold g X i).length + (whereX hold (g x)).1.length : Nat) : Int) := by rw [wrapE]; omega
    have g5 : decide (IntKind.i64.wrap (((preX hold g X i).length : Int) + ((whereX hold (g x)).1.length : Int)) > ((whereX hold (X.flatMap g)).1.length : Int)) = false := decide_eq_false (by rw [hwk]; omega)
    repeat (first | (refine br_t rfl ?_; conv => whnf) | (refine br_f rfl ?_; conv => whnf) | (refine br_f g5 ?_; conv => whnf))
    refine ⟨⟨_, fun w => (by rw [hwk, slice_lhP _ _ hgp (whereX hold (X.flatMap g)).1.length gc (preX hold g X i).length _ under63 size63 (Nat.le_add_right _ _) (by omega) w, Nat.add_sub_cancel_left]), ?_⟩⟩
    conv => whnf
    repeat (first | (refine br_t rfl ?_; conv => whnf) | (refine br_f rfl ?_; conv => whnf) | (refine br_f g5 ?_; conv => whnf))
    have hpart2 : RowsAt V5 (whereX hold (g x)).1 (cutLH gb (preX hold g X i).length gc) := by
      have h := hgr
      rw [c3] at h
      exact h.part hgp (by rw [← c3]; exact hgc)
    refine CallN.pure (samerows_spec (whereX hold (g x)).1 kb (cutLH gb (preX hold g X i).length gc) kc _ _ (hkr.mono (by repeat (first | exact View.le_refl _ | assumption | exact View.addU_le _ _ _ | refine View.le_trans ?_ (by assumption) | refine View.le_trans ?_ (View.addU_le _ _ _)))) (hpart2.mono (by repeat (first | exact View.le_refl _ | assumption | exact View.addU_le _ _ _ | refine View.le_trans ?_ (by assumption) | refine View.le_trans ?_ (View.addU_le _ _ _))))) fun v V8 _ hV8 hv => ?_
    subst hv
    conv => whnf
    repeat (first | (refine br_t rfl ?_; conv => whnf) | (refine br_f rfl ?_; conv => whnf) | (refine br_f g5 ?_; conv => whnf))
    refine ⟨j - 1, i + 1, by omega, ?_, ?_, View.le_trans hV (by repeat (first | exact View.le_refl _ | assumption | exact View.addU_le _ _ _ | refine View.le_trans ?_ (by assumption) | refine View.le_trans ?_ (View.addU_le _ _ _))), hi1, by omega⟩
    · have hk1 : ((preX hold g X (i + 1)).length : Int) = IntKind.i64.wrap (((preX hold g X i).length : Int) + ((whereX hold (g x)).1.length : Int)) := by rw [hwk, c2, List.length_append]
      repeat' (first | exact sees_nil | refine sees_cons rfl rfl rfl ?_ | refine sees_cons rfl rfl (by rw [← hwi]; rfl) ?_ | refine sees_cons rfl rfl (by show some (Value.int .i64 ((preX hold g X (i + 1)).length : Int)) = some (Value.int .i64 (IntKind.i64.wrap (((preX hold g X i).length : Int) + ((whereX hold (g x)).1.length : Int)))); rw [hk1]) ?_)
    · repeat' (first | exact keeps_nil | refine keeps_cons rfl ?_ | refine keeps_free ?_)
  · have hi1 : i = X.length := by have := of_decide_eq_false g4; omega
    subst hi1
    repeat' first
      | (refine br_t rfl ?_; conv => whnf)
      | (refine br_f rfl ?_; conv => whnf)
      | (refine IdxN.lit rfl rfl ?_; conv => whnf)
      | (intro _; conv => whnf)
    refine ret_pure ?_
    have : preX hold g X X.length = (whereX hold (X.flatMap g)).1 := by unfold preX; rw [List.take_length]
    rw [this]
    simp [packVals]
end Go.Proofs.Ytenpginanhnkbaa
end
