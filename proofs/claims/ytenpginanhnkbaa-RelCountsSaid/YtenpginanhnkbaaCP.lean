/- One part of a proof: an evaluator of the model, shown right, and contracts that it yields. No condition beyond those that each theorem names. -/
import Derived.Test.YtenpginanhnkbaaCO
section
set_option linter.unusedSimpArgs false
set_option linter.unusedVariables false
namespace Go.Proofs.Ytenpginanhnkbaa
open Go.X
set_option maxRecDepth 100000

theorem select0_spec (s : StV) (tnm unm : ByteArray) (tc ti uc ui : Option Addr × Nat × Nat) (lv rv : Value) (its : List Item) (rows : List (List Val)) (hold : List Val → Bool × Int) (V : View)
    (hrows : ∀ V1, V.le V1 → PSpec 60 [stv s, tabg tnm tc ti, tabg unm uc ui, lv, rv] V1 (RowsR its rows))
    (hit : s.items.2.1 = 0) (hor : s.order.2.1 = 0) (hs : rows.length ≤ 1000)
    (hh : ∀ cb cc, ∀ V1, V.le V1 → V1.cells (.slice cb its.length cc) (its.flatMap icells) → ∀ r ∈ rows, ∀ v V', V1.le V' → RowAt V' r v → PSpec 22 [.slice cb its.length cc, v, .slice s.wh.1 s.wh.2.1 s.wh.2.2] V' (fun v _ => v = .tuple #[.bool (hold r).1, .int .i64 (hold r).2])) :
    PSpec 32 [stv s, tabg tnm tc ti, tabg unm uc ui, lv, rv] V (fun v V' => ∃ x, v = .tuple #[x, .int .i64 (whereX hold rows).2] ∧ ((whereX hold rows).2 = 0 → RowsV V' (whereX hold rows).1 x) ∧ ((whereX hold rows).2 ≠ 0 → x = .slice none 0 0)) := by
  obtain ⟨skind, stb, snm, s3, s4, s5, sit, sjoin, son, swh, sord, sdesc, sinn⟩ := s
  obtain ⟨itb, itn, itc⟩ := sit
  obtain ⟨orb, orn, orc⟩ := sord
  simp only at hit hor hh
  subst hit; subst hor
  refine does_of_zfun [(12, [(0, []), (1, []), (2, []), (3, []), (4, []), (5, []), (6, []), (8, []), (9, []), (7, []), (10, []), (11, []), (12, [])])] mixed (args := [.v _, .v _, .v _, .v _, .v _]) (ms := []) Try.func32 (by kernel_rfl) rfl ?_
  conv => whnf
  repeat' first
    | (refine br_t rfl ?_; conv => whnf)
    | (refine br_f rfl ?_; conv => whnf)
    | (refine IdxN.lit rfl rfl ?_; conv => whnf)
    | (intro _; conv => whnf)
  refine CallN.pure (hrows _ (by repeat (first | exact View.le_refl _ | assumption | exact View.addU_le _ _ _ | refine View.le_trans ?_ (by assumption) | refine View.le_trans ?_ (View.addU_le _ _ _)))) fun v V1 _ hV1 ⟨cb, cc, rb', rc', hv, hc, hpl, hr'⟩ => ?_
  subst hv
  conv => whnf
  repeat' first
    | (refine br_t rfl ?_; conv => whnf)
    | (refine br_f rfl ?_; conv => whnf)
    | (refine IdxN.lit rfl rfl ?_; conv => whnf)
    | (intro _; conv => whnf)
  refine CallN.pure (where_spec its cb cc rows rb' rc' (.slice swh.1 swh.2.1 swh.2.2) hold _ (hc.mono (by repeat (first | exact View.le_refl _ | assumption | exact View.addU_le _ _ _ | refine View.le_trans ?_ (by assumption) | refine View.le_trans ?_ (View.addU_le _ _ _)))) (hr'.mono (by repeat (first | exact View.le_refl _ | assumption | exact View.addU_le _ _ _ | refine View.le_trans ?_ (by assumption) | refine View.le_trans ?_ (View.addU_le _ _ _)))) hs (fun r hrm v V' hV' hra => hh cb cc V1 (by repeat (first | exact View.le_refl _ | assumption | exact View.addU_le _ _ _ | refine View.le_trans ?_ (by assumption) | refine View.le_trans ?_ (View.addU_le _ _ _))) hc r hrm v V' (by repeat (first | exact View.le_refl _ | assumption | exact View.addU_le _ _ _ | refine View.le_trans ?_ (by assumption) | refine View.le_trans ?_ (View.addU_le _ _ _))) hra)) fun v V2 _ hV2 ⟨tv, hv, ⟨a1, n1, c1, a2, n2, c2, ht2⟩, hok⟩ => ?_
  subst hv
  subst ht2
  conv => whnf
  generalize hW : whereX hold rows = W at *
  apply br <;> intro h3 <;> conv => whnf
  · have h3 : W.2 ≠ 0 := by simpa using h3
    exact ret_pure ⟨_, rfl, fun h => absurd h h3, fun _ => rfl⟩
  · have h3 : W.2 = 0 := by simpa using h3
    obtain ⟨rb2, rc2, he, hp2, hr2⟩ := hok h3
    simp only [Value.agg.injEq, Array.mk.injEq, List.cons.injEq, Value.slice.injEq, and_true] at he
    obtain ⟨_, rfl, rfl, rfl⟩ := he
    repeat' first
      | (refine br_t rfl ?_; conv => whnf)
      | (refine br_f rfl ?_; conv => whnf)
      | (refine IdxN.lit rfl rfl ?_; conv => whnf)
      | (intro _; conv => whnf)
    refine unrollz 1 ?_
    conv => whnf
    repeat' first
      | (refine br_t rfl ?_; conv => whnf)
      | (refine br_f rfl ?_; conv => whnf)
      | (refine IdxN.lit rfl rfl ?_; conv => whnf)
      | (intro _; conv => whnf)
    refine CallN.pure (of0_spec _ _ _ _ _ _ itb itc _) fun v V3 _ hV3 hv => ?_
    subst hv
    conv => whnf
    repeat' first
      | (refine br_t rfl ?_; conv => whnf)
      | (refine br_f rfl ?_; conv => whnf)
      | (refine IdxN.lit rfl rfl ?_; conv => whnf)
      | (intro _; conv => whnf)
    exact ret_pure ⟨_, by rw [h3]; rfl, fun _ => ⟨a2, c2, rfl, hp2, hr2.mono (by repeat (first | exact View.le_refl _ | assumption | exact View.addU_le _ _ _ | refine View.le_trans ?_ (by assumption) | refine View.le_trans ?_ (View.addU_le _ _ _)))⟩, fun h => absurd h3 h⟩
def itemsU : List Item := [⟨0, txt [117], txt [107]⟩, ⟨0, txt [117], txt [114]⟩, ⟨0, txt [117], txt [110]⟩]
def itemsJ : List Item := itemsT ++ itemsU
theorem itemsJ_nodup : (itemsJ.map keyC).Nodup := by
  simp [itemsJ, itemsT, itemsU, keyC, txt, ByteArray.toList_eq]
theorem names_J : Names itemsJ := by
  refine ⟨fun i j x y hx hy h1 h2 => ?_, fun x hx => ?_⟩
  · have e1 : (itemsJ.map keyC)[i]? = some (keyC x) := by rw [List.getElem?_map, hx]; rfl
    have e2 : (itemsJ.map keyC)[j]? = some (keyC y) := by rw [List.getElem?_map, hy]; rfl
    have e3 : keyC x = keyC y := by unfold keyC; rw [h1, h2]
    rw [e3] at e1
    have hlt := (List.getElem?_eq_some_iff.1 e1).1
    exact (List.getElem?_inj hlt itemsJ_nodup).1 (e1.trans e2.symm)
  · simp only [itemsJ, itemsT, itemsU, List.cons_append, List.nil_append, List.mem_cons, List.not_mem_nil, or_false] at hx
    rcases hx with rfl | rfl | rfl | rfl | rfl | rfl <;> simp [txt, ByteArray.toList_eq]
/-- are the columns alike? -/
def onX (a b : Nat) (r1 r2 : List Val) : Bool := match r1[a]?, r2[b]? with
  | some x, some y => sameV x y
  | _, _ => false
theorem hold_on (r1 r2 : List Val) (h1 : RowC colsT r1) (h2 : RowC colsU r2) (a b : Nat) (ca cb : ColT) (ha : colsT[a]? = some ca) (hb : colsU[b]? = some cb) :
    holdsX (evalX (fun tb nm => colAt tb nm itemsJ (r1 ++ r2)) (.bin 8 (.col (txt [116]) ca.nm) (.col (txt [117]) cb.nm))) = (onX a b r1 r2, 0) := by
  have hl1 : r1.length = 3 := h1.len
  have hl2 : r2.length = 3 := h2.len
  have la : a < 3 := (List.getElem?_eq_some_iff.1 ha).1
  have lb : b < 3 := (List.getElem?_eq_some_iff.1 hb).1
  obtain ⟨x, hx⟩ : ∃ x, r1[a]? = some x := ⟨_, List.getElem?_eq_getElem (by omega)⟩
  obtain ⟨y, hy⟩ : ∃ y, r2[b]? = some y := ⟨_, List.getElem?_eq_getElem (by omega)⟩
  have ia : itemsJ[a]? = some ⟨0, txt [116], ca.nm⟩ := by
    have e : itemsT = colsT.map fun c => ⟨0, txt [116], c.nm⟩ := rfl
    rw [itemsJ, List.getElem?_append_left (by show a < 3; exact la), e, List.getElem?_map, ha]; rfl
  have ib : itemsJ[3 + b]? = some ⟨0, txt [117], cb.nm⟩ := by
    have e : itemsU = colsU.map fun c => ⟨0, txt [117], c.nm⟩ := rfl
    rw [itemsJ, List.getElem?_append_right (by show 3 ≤ 3 + b; omega)]
    show itemsU[3 + b - 3]? = _
    rw [Nat.add_sub_cancel_left, e, List.getElem?_map, hb]; rfl
  have c1 : colAt (txt [116]) ca.nm itemsJ (r1 ++ r2) = (x, 0) := colAt_one (oneHit_of names_J ia (.inr rfl)) (by rw [List.getElem?_append_left (by omega)]; exact hx)
  have c2 : colAt (txt [117]) cb.nm itemsJ (r1 ++ r2) = (y, 0) := colAt_one (oneHit_of names_J ib (.inr rfl)) (by rw [List.getElem?_append_right (by omega), hl1, Nat.add_sub_cancel_left]; exact hy)
  rw [evalX, if_neg (by decide), evalX, evalX, c1, c2]
  rw [onX, hx, hy]
  show holdsX (truthV (cmpV x y == 0), (0 : Int)) = (sameV x y, 0)
  rw [same_iff]
  cases h : (cmpV x y == 0)
  · rw [beq_eq_false_iff_ne] at h
    rw [decide_eq_false h]; rfl
  · rw [beq_iff_eq] at h
    rw [decide_eq_true h]; rfl
theorem rowC_in {cols : List ColT} {r : List Val} (h : RowC cols r) : ∀ v ∈ r, InR v.n := fun v hv => by
  obtain ⟨i, hi, he⟩ := List.getElem_of_mem hv
  have hl := h.len
  exact (h.kind i cols[i] v (List.getElem?_eq_getElem (by omega)) (by rw [List.getElem?_eq_getElem hi, he])).n
theorem colsLie_U {V : View} {p : Nat} (h : V.has p 0 (colsU.flatMap ccells)) : ColsLie V colsU p := ⟨h, by decide, by decide⟩
/-- two tables' rows, joined -/
theorem pair_spec (L R : List (List Val)) (lb rb : Option Addr) (lc rc p q p2 ln oc a b : Nat) (ca cb : ColT) (V : View) (ha : colsT[a]? = some ca) (hb : colsU[b]? = some cb) (hon : V.has ln 0 (xcells (colN (txt [116]) ca.nm) ++ xcells (colN (txt [117]) cb.nm)))
    (ht : V.has p 0 (colsT.flatMap ccells)) (hu : V.has p2 0 (colsU.flatMap ccells)) (hL : RowsAt V L lb) (hR : RowsAt V R rb) (hsL : L.length ≤ 30) (hsR : R.length ≤ 30) (hcL : ∀ r ∈ L, RowC colsT r) (hcR : ∀ r ∈ R, RowC colsU r) :
    PSpec 32 [.agg #[.int .i64 6, .string (txt [116]), .string noText, .slice none 0 0, .slice none 0 0, .slice none 0 0, .slice none 0 0, .string (txt [117]), .slice (some ⟨ln, 0, none⟩) 2 oc, .slice none 0 0, .slice none 0 0, .bool false, .slice none 0 0],
      .agg #[.string (txt [116]), .slice (some ⟨p, 0, none⟩) 3 3, .slice (some ⟨q, 0, none⟩) 1 1], .agg #[.string (txt [117]), .slice (some ⟨p2, 0, none⟩) 3 3, .slice none 0 0], .slice lb L.length lc, .slice rb R.length rc] V
      (fun v V' => ∃ x, v = .tuple #[x, .int .i64 0] ∧ RowsV V' (joinX (onX a b) L R) x) := by
  have hlL : ∀ r ∈ L, r.length = 3 := fun r h => (hcL r h).len
  have hlR : ∀ r ∈ R, r.length = 3 := fun r h => (hcR r h).len
  have hj : (joinX (onX a b) L R).length ≤ 900 := Nat.le_trans (joinX_len _ _) (Nat.mul_le_mul hsL hsR)
  refine (select0_spec ⟨6, txt [116], noText, (none, 0, 0), (none, 0, 0), (none, 0, 0), (none, 0, 0), txt [117], (some ⟨ln, 0, none⟩, 2, oc), (none, 0, 0), (none, 0, 0), false, (none, 0, 0)⟩ (txt [116]) (txt [117]) (some ⟨p, 0, none⟩, 3, 3) (some ⟨q, 0, none⟩, 1, 1) (some ⟨p2, 0, none⟩, 3, 3) (none, 0, 0) (.slice lb L.length lc) (.slice rb R.length rc)
    itemsJ (joinX (onX a b) L R) (fun _ => (true, 0)) V (fun V1 hV1 => rows2_spec _ ⟨txt [116], p, colsT, 3, some ⟨q, 0, none⟩, 1, 1⟩ ⟨txt [117], p2, colsU, 3, none, 0, 0⟩ L R lb rb lc rc _ V1 (by simp [txt, ByteArray.toList_eq]) (colsLie_T (ht.mono hV1)) (hL.mono hV1) (by omega) (fun r h => by have := hlL r h; omega)
      (fun V2 hV2 => joined_spec _ ⟨txt [116], p, colsT, 3, some ⟨q, 0, none⟩, 1, 1⟩ ⟨txt [117], p2, colsU, 3, none, 0, 0⟩ L R lb rb lc rc (onX a b) V2 (colsLie_T ((ht.mono hV1).mono hV2)) (colsLie_U ((hu.mono hV1).mono hV2)) ((hL.mono hV1).mono hV2) ((hR.mono hV1).mono hV2) hsL hsR (fun r h => ⟨fun e => by have := hlL r h; rw [e] at this; simp at this, by have := hlL r h; omega⟩) (fun r h => by have := hlR r h; omega)
        (fun cb' cc V3 hV3 hc a1 ha1 b1 hb1 v V4 hV4 hra lz hlz => ?_)))
    rfl rfl (by omega) (fun cb cc V4 hV4 hc r hr v V5 hV5 hra => by
      obtain ⟨qb, qc, hqv⟩ := row_shape hra
      subst hqv
      exact holdsN_spec _ _ _ _ _ _ _)).mono fun v V' _ _ ⟨x, h1, h2, _⟩ => ?_
  · obtain ⟨p9, o9, hcb, hc9⟩ := cells_some hc (by intro h; cases h)
    obtain ⟨qb, qc, hqv, _, hqva⟩ := hra
    have hlen : (a1 ++ b1).length = 6 := by rw [List.length_append, hlL a1 ha1, hlR b1 hb1]
    obtain ⟨d9, dof, hqb, hrow⟩ := hqva.has (by intro h; rw [h] at hlen; simp at hlen)
    subst hcb; subst hqv; subst hqb
    have hg := holds_gen itemsJ (a1 ++ b1) _ _ p9 o9 cc d9 dof qc lz 0 1 V4 rfl rfl (by decide) (by omega) (fun v hv => by
      rcases List.mem_append.1 hv with h | h
      · exact rowC_in (hcL a1 ha1) v h
      · exact rowC_in (hcR b1 hb1) v h) (hc9.mono hV4) hrow (e := .bin 8 (.col (txt [116]) ca.nm) (.col (txt [117]) cb.nm)) ⟨trivial, trivial⟩
      (xe := ⟨8, v0, noText, noText, some ⟨ln, 0, none⟩, 2, oc⟩) ⟨rfl, by decide, rfl, ln, 0, colN (txt [116]) ca.nm, colN (txt [117]) cb.nm, rfl, ((((hon.mono hV1).mono hV2).mono hV3).mono hV4), ⟨rfl, rfl, rfl⟩, ⟨rfl, rfl, rfl⟩⟩ hlz
    rw [hold_on a1 b1 (hcL a1 ha1) (hcR b1 hb1) a b ca cb ha hb] at hg
    exact hg
  · rw [whereX_all (fun _ => rfl)] at h1 h2
    exact ⟨x, h1, h2 rfl⟩
end Go.Proofs.Ytenpginanhnkbaa
end
