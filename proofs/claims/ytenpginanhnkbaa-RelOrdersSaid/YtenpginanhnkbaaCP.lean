/- One part of a proof: an evaluator of the model, shown right, and contracts that it yields. No condition beyond those that each theorem names. -/
import Derived.Test.YtenpginanhnkbaaCO
section
set_option linter.unusedSimpArgs false
set_option linter.unusedVariables false
namespace Go.Proofs.Ytenpginanhnkbaa
open Go.X
set_option maxRecDepth 100000

theorem select0_spec (s : StV) (tnm unm : ByteArray) (tc ti uc ui : Option Addr × Nat × Nat) (lv rv : Value) (its : List Item) (rows : List (List Val)) (hold : List Val → Bool × Int) (V : View)
    (hrows : ∀ V1, V.le V1 → PSpec 60 [stv s, tabg tnm tc ti, tabg unm uc ui, lv, rv] V1 (RowsR its rows))
    (hit : s.items.2.1 = 0) (hor : s.order.2.1 = 0) (hs : rows.length ≤ 1000)
    (hh : ∀ cb cc, ∀ V1, V.le V1 → V1.cells (.slice cb its.length cc) (its.flatMap icells) → ∀ r ∈ rows, ∀ v V', V1.le V' → RowAt V' r v → PSpec 22 [.slice cb its.length cc, v, .slice s.wh.1 s.wh.2.1 s.wh.2.2] V' (fun v _ => v = .tuple #[.bool (hold r).1, .int .i64 (hold r).2])) :
    PSpec 32 [stv s, tabg tnm tc ti, tabg unm uc ui, lv, rv] V (fun v V' => ∃ x, v = .tuple #[x, .int .i64 (whereX hold rows).2] ∧ ((whereX hold rows).2 = 0 → RowsV V' (whereX hold rows).1 x) ∧ ((whereX hold rows).2 ≠ 0 → x = .slice none 0 0)) := by
  obtain ⟨skind, stb, snm, s3, s4, s5, sit, sjoin, son, swh, sord, sdesc, sinn⟩ := s
  obtain ⟨itb, itn, itc⟩ := sit
  obtain ⟨orb, orn, orc⟩ := sord
  simp only at hit hor hh
  subst hit; subst hor
  refine does_of_zfun [(12, [(0, []), (1, []), (2, []), (3, []), (4, []), (5, []), (6, []), (8, []), (9, []), (7, []), (10, []), (11, []), (12, [])])] mixed (args := [.v _, .v _, .v _, .v _, .v _]) (ms := []) Try.func32 (by kernel_rfl) rfl ?_
  conv => whnf
  repeat' first
    | (refine br_t rfl ?_; conv => whnf)
    | (refine br_f rfl ?_; conv => whnf)
    | (refine IdxN.lit rfl rfl ?_; conv => whnf)
    | (intro _; conv => whnf)
  refine CallN.pure (hrows _ (by repeat (first | exact View.le_refl _ | assumption | exact View.addU_le _ _ _ | refine View.le_trans ?_ (by assumption) | refine View.le_trans ?_ (View.addU_le _ _ _)))) fun v V1 _ hV1 ⟨cb, cc, rb', rc', hv, hc, hpl, hr'⟩ => ?_
  subst hv
  conv => whnf
  repeat' first
    | (refine br_t rfl ?_; conv => whnf)
    | (refine br_f rfl ?_; conv => whnf)
    | (refine IdxN.lit rfl rfl ?_; conv => whnf)
    | (intro _; conv => whnf)
  refine CallN.pure (where_spec its cb cc rows rb' rc' (.slice swh.1 swh.2.1 swh.2.2) hold _ (hc.mono (by repeat (first | exact View.le_refl _ | assumption | exact View.addU_le _ _ _ | refine View.le_trans ?_ (by assumption) | refine View.le_trans ?_ (View.addU_le _ _ _)))) (hr'.mono (by repeat (first | exact View.le_refl _ | assumption | exact View.addU_le _ _ _ | refine View.le_trans ?_ (by assumption) | refine View.le_trans ?_ (View.addU_le _ _ _)))) hs (fun r hrm v V' hV' hra => hh cb cc V1 (by repeat (first | exact View.le_refl _ | assumption | exact View.addU_le _ _ _ | refine View.le_trans ?_ (by assumption) | refine View.le_trans ?_ (View.addU_le _ _ _))) hc r hrm v V' (by repeat (first | exact View.le_refl _ | assumption | exact View.addU_le _ _ _ | refine View.le_trans ?_ (by assumption) | refine View.le_trans ?_ (View.addU_le _ _ _))) hra)) fun v V2 _ hV2 ⟨tv, hv, ⟨a1, n1, c1, a2, n2, c2, ht2⟩, hok⟩ => ?_
  subst hv
  subst ht2
  conv => whnf
  generalize hW : whereX hold rows = W at *
  apply br <;> intro h3 <;> conv => whnf
  · have h3 : W.2 ≠ 0 := by simpa using h3
    exact ret_pure ⟨_, rfl, fun h => absurd h h3, fun _ => rfl⟩
  · have h3 : W.2 = 0 := by simpa using h3
    obtain ⟨rb2, rc2, he, hp2, hr2⟩ := hok h3
    simp only [Value.agg.injEq, Array.mk.injEq, List.cons.injEq, Value.slice.injEq, and_true] at he
    obtain ⟨_, rfl, rfl, rfl⟩ := he
    repeat' first
      | (refine br_t rfl ?_; conv => whnf)
      | (refine br_f rfl ?_; conv => whnf)
      | (refine IdxN.lit rfl rfl ?_; conv => whnf)
      | (intro _; conv => whnf)
    refine unrollz 1 ?_
    conv => whnf
    repeat' first
      | (refine br_t rfl ?_; conv => whnf)
      | (refine br_f rfl ?_; conv => whnf)
      | (refine IdxN.lit rfl rfl ?_; conv => whnf)
      | (intro _; conv => whnf)
    refine CallN.pure (of0_spec _ _ _ _ _ _ itb itc _) fun v V3 _ hV3 hv => ?_
    subst hv
    conv => whnf
    repeat' first
      | (refine br_t rfl ?_; conv => whnf)
      | (refine br_f rfl ?_; conv => whnf)
      | (refine IdxN.lit rfl rfl ?_; conv => whnf)
      | (intro _; conv => whnf)
    exact ret_pure ⟨_, by rw [h3]; rfl, fun _ => ⟨a2, c2, rfl, hp2, hr2.mono (by repeat (first | exact View.le_refl _ | assumption | exact View.addU_le _ _ _ | refine View.le_trans ?_ (by assumption) | refine View.le_trans ?_ (View.addU_le _ _ _)))⟩, fun h => absurd h3 h⟩
def itemsU : List Item := [⟨0, txt [117], txt [107]⟩, ⟨0, txt [117], txt [114]⟩, ⟨0, txt [117], txt [110]⟩]
def itemsJ : List Item := itemsT ++ itemsU
theorem itemsJ_nodup : (itemsJ.map keyC).Nodup := by
  simp [itemsJ, itemsT, itemsU, keyC, txt, ByteArray.toList_eq]
theorem names_J : Names itemsJ := by
  refine ⟨fun i j x y hx hy h1 h2 => ?_, fun x hx => ?_⟩
  · have e1 : (itemsJ.map keyC)[i]? = some (keyC x) := by rw [List.getElem?_map, hx]; rfl
    have e2 : (itemsJ.map keyC)[j]? = some (keyC y) := by rw [List.getElem?_map, hy]; rfl
    have e3 : keyC x = keyC y := by unfold keyC; rw [h1, h2]
    rw [e3] at e1
    have hlt := (List.getElem?_eq_some_iff.1 e1).1
    exact (List.getElem?_inj hlt itemsJ_nodup).1 (e1.trans e2.symm)
  · simp only [itemsJ, itemsT, itemsU, List.cons_append, List.nil_append, List.mem_cons, List.not_mem_nil, or_false] at hx
    rcases hx with rfl | rfl | rfl | rfl | rfl | rfl <;> simp [txt, ByteArray.toList_eq]
/-- are the columns alike? -/
def onX (a b : Nat) (r1 r2 : List Val) : Bool := match r1[a]?, r2[b]? with
  | some x, some y => sameV x y
  | _, _ => false
theorem hold_on (r1 r2 : List Val) (h1 : RowC colsT r1) (h2 : RowC colsU r2) (a b : Nat) (ca cb : ColT) (ha : colsT[a]? = some ca) (hb : colsU[b]? = some cb) :
    holdsX (evalX (fun tb nm => colAt tb nm itemsJ (r1 ++ r2)) (.bin 8 (.col (txt [116]) ca.nm) (.col (txt [117]) cb.nm))) = (onX a b r1 r2, 0) := by
  have hl1 : r1.length = 3 := h1.len
  have hl2 : r2.length = 3 := h2.len
  have la : a < 3 := (List.getElem?_eq_some_iff.1 ha).1
  have lb : b < 3 := (List.getElem?_eq_some_iff.1 hb).1
  obtain ⟨x, hx⟩ : ∃ x, r1[a]? = some x := ⟨_, List.getElem?_eq_getElem (by omega)⟩
  obtain ⟨y, hy⟩ : ∃ y, r2[b]? = some y := ⟨_, List.getElem?_eq_getElem (by omega)⟩
  have ia : itemsJ[a]? = some ⟨0, txt [116], ca.nm⟩ := by
    have e : itemsT = colsT.map fun c => ⟨0, txt [116], c.nm⟩ := rfl
    rw [itemsJ, List.getElem?_append_left (by show a < 3; exact la), e, List.getElem?_map, ha]; rfl
  have ib : itemsJ[3 + b]? = some ⟨0, txt [117], cb.nm⟩ := by
    have e : itemsU = colsU.map fun c => ⟨0, txt [117], c.nm⟩ := rfl
    rw [itemsJ, List.getElem?_append_right (by show 3 ≤ 3 + b; omega)]
    show itemsU[3 + b - 3]? = _
    rw [Nat.add_sub_cancel_left, e, List.getElem?_map, hb]; rfl
  have c1 : colAt (txt [116]) ca.nm itemsJ (r1 ++ r2) = (x, 0) := colAt_one (oneHit_of names_J ia (.inr rfl)) (by rw [List.getElem?_append_left (by omega)]; exact hx)
  have c2 : colAt (txt [117]) cb.nm itemsJ (r1 ++ r2) = (y, 0) := colAt_one (oneHit_of names_J ib (.inr rfl)) (by rw [List.getElem?_append_right (by omega), hl1, Nat.add_sub_cancel_left]; exact hy)
  rw [evalX, if_neg (by decide), evalX, evalX, c1, c2]
  rw [onX, hx, hy]
  show holdsX (truthV (cmpV x y == 0), (0 : Int)) = (sameV x y, 0)
  rw [same_iff]
  cases h : (cmpV x y == 0)
  · rw [beq_eq_false_iff_ne] at h
    rw [decide_eq_false h]; rfl
  · rw [beq_iff_eq] at h
    rw [decide_eq_true h]; rfl
theorem rowC_in {cols : List ColT} {r : List Val} (h : RowC cols r) : ∀ v ∈ r, InR v.n := fun v hv => by
  obtain ⟨i, hi, he⟩ := List.getElem_of_mem hv
  have hl := h.len
  exact (h.kind i cols[i] v (List.getElem?_eq_getElem (by omega)) (by rw [List.getElem?_eq_getElem hi, he])).n
theorem colsLie_U {V : View} {p : Nat} (h : V.has p 0 (colsU.flatMap ccells)) : ColsLie V colsU p := ⟨h, by decide, by decide⟩
/-- two tables' rows, joined -/
theorem pair_spec (L R : List (List Val)) (lb rb : Option Addr) (lc rc p q p2 ln oc a b : Nat) (ca cb : ColT) (V : View) (ha : colsT[a]? = some ca) (hb : colsU[b]? = some cb) (hon : V.has ln 0 (xcells (colN (txt [116]) ca.nm) ++ xcells (colN (txt [117]) cb.nm)))
    (ht : V.has p 0 (colsT.flatMap ccells)) (hu : V.has p2 0 (colsU.flatMap ccells)) (hL : RowsAt V L lb) (hR : RowsAt V R rb) (hsL : L.length ≤ 30) (hsR : R.length ≤ 30) (hcL : ∀ r ∈ L, RowC colsT r) (hcR : ∀ r ∈ R, RowC colsU r) :
    PSpec 32 [.agg #[.int .i64 6, .string (txt [116]), .string noText, .slice none 0 0, .slice none 0 0, .slice none 0 0, .slice none 0 0, .string (txt [117]), .slice (some ⟨ln, 0, none⟩) 2 oc, .slice none 0 0, .slice none 0 0, .bool false, .slice none 0 0],
      .agg #[.string (txt [116]), .slice (some ⟨p, 0, none⟩) 3 3, .slice (some ⟨q, 0, none⟩) 1 1], .agg #[.string (txt [117]), .slice (some ⟨p2, 0, none⟩) 3 3, .slice none 0 0], .slice lb L.length lc, .slice rb R.length rc] V
      (fun v V' => ∃ x, v = .tuple #[x, .int .i64 0] ∧ RowsV V' (joinX (onX a b) L R) x) := by
  have hlL : ∀ r ∈ L, r.length = 3 := fun r h => (hcL r h).len
  have hlR : ∀ r ∈ R, r.length = 3 := fun r h => (hcR r h).len
  have hj : (joinX (onX a b) L R).length ≤ 900 := Nat.le_trans (joinX_len _ _) (Nat.mul_le_mul hsL hsR)
  refine (select0_spec ⟨6, txt [116], noText, (none, 0, 0), (none, 0, 0), (none, 0, 0), (none, 0, 0), txt [117], (some ⟨ln, 0, none⟩, 2, oc), (none, 0, 0), (none, 0, 0), false, (none, 0, 0)⟩ (txt [116]) (txt [117]) (some ⟨p, 0, none⟩, 3, 3) (some ⟨q, 0, none⟩, 1, 1) (some ⟨p2, 0, none⟩, 3, 3) (none, 0, 0) (.slice lb L.length lc) (.slice rb R.length rc)
    itemsJ (joinX (onX a b) L R) (fun _ => (true, 0)) V (fun V1 hV1 => rows2_spec _ ⟨txt [116], p, colsT, 3, some ⟨q, 0, none⟩, 1, 1⟩ ⟨txt [117], p2, colsU, 3, none, 0, 0⟩ L R lb rb lc rc _ V1 (by simp [txt, ByteArray.toList_eq]) (colsLie_T (ht.mono hV1)) (hL.mono hV1) (by omega) (fun r h => by have := hlL r h; omega)
      (fun V2 hV2 => joined_spec _ ⟨txt [116], p, colsT, 3, some ⟨q, 0, none⟩, 1, 1⟩ ⟨txt [117], p2, colsU, 3, none, 0, 0⟩ L R lb rb lc rc (onX a b) V2 (colsLie_T ((ht.mono hV1).mono hV2)) (colsLie_U ((hu.mono hV1).mono hV2)) ((hL.mono hV1).mono hV2) ((hR.mono hV1).mono hV2) hsL hsR (fun r h => ⟨fun e => by have := hlL r h; rw [e] at this; simp at this, by have := hlL r h; omega⟩) (fun r h => by have := hlR r h; omega)
        (fun cb' cc V3 hV3 hc a1 ha1 b1 hb1 v V4 hV4 hra lz hlz => ?_)))
    rfl rfl (by omega) (fun cb cc V4 hV4 hc r hr v V5 hV5 hra => by
      obtain ⟨qb, qc, hqv⟩ := row_shape hra
      subst hqv
      exact holdsN_spec _ _ _ _ _ _ _)).mono fun v V' _ _ ⟨x, h1, h2, _⟩ => ?_
  · obtain ⟨p9, o9, hcb, hc9⟩ := cells_some hc (by intro h; cases h)
    obtain ⟨qb, qc, hqv, _, hqva⟩ := hra
    have hlen : (a1 ++ b1).length = 6 := by rw [List.length_append, hlL a1 ha1, hlR b1 hb1]
    obtain ⟨d9, dof, hqb, hrow⟩ := hqva.has (by intro h; rw [h] at hlen; simp at hlen)
    subst hcb; subst hqv; subst hqb
    have hg := holds_gen itemsJ (a1 ++ b1) _ _ p9 o9 cc d9 dof qc lz 0 1 V4 rfl rfl (by decide) (by omega) (fun v hv => by
      rcases List.mem_append.1 hv with h | h
      · exact rowC_in (hcL a1 ha1) v h
      · exact rowC_in (hcR b1 hb1) v h) (hc9.mono hV4) hrow (e := .bin 8 (.col (txt [116]) ca.nm) (.col (txt [117]) cb.nm)) ⟨trivial, trivial⟩
      (xe := ⟨8, v0, noText, noText, some ⟨ln, 0, none⟩, 2, oc⟩) ⟨rfl, by decide, rfl, ln, 0, colN (txt [116]) ca.nm, colN (txt [117]) cb.nm, rfl, ((((hon.mono hV1).mono hV2).mono hV3).mono hV4), ⟨rfl, rfl, rfl⟩, ⟨rfl, rfl, rfl⟩⟩ hlz
    rw [hold_on a1 b1 (hcL a1 ha1) (hcR b1 hb1) a b ca cb ha hb] at hg
    exact hg
  · rw [whereX_all (fun _ => rfl)] at h1 h2
    exact ⟨x, h1, h2 rfl⟩
end Go.Proofs.Ytenpginanhnkbaa
end

section
set_option linter.unusedSimpArgs false
set_option linter.unusedVariables false
namespace Go.Proofs.Ytenpginanhnkbaa
open Go.X
set_option maxRecDepth 100000

set_option maxHeartbeats 8000000 in
theorem pairs_all (s1 s2 : Src) (on : Int) (V : View) (h1 : s1.as V) (h2 : s2.as V) (hn : 0 ≤ on ∧ on ≤ 255) : PSpec 13 [s1.slice, s2.slice, .int .u8 on] V (fun v _ => v = .bool true) := by
  refine does_of_zfun [(6, [(0, []), (1, []), (2, []), (3, []), (4, []), (5, []), (6, []), (7, []), (8, [9]), (9, []), (10, []), (11, [])]), (7, [(0, []), (1, []), (3, []), (4, []), (2, []), (5, []), (6, []), (7, [])]), (8, [(1, []), (2, []), (6, []), (7, []), (0, [5]), (3, []), (4, []), (10, []), (5, []), (8, []), (9, []), (11, [])]), (9, [(0, []), (1, []), (2, []), (3, []), (4, []), (5, []), (6, []), (7, []), (8, []), (9, []), (10, []), (11, []), (12, []), (13, []), (14, [16]), (15, []), (16, []), (17, [])]), (17, [(0, []), (1, []), (2, []), (3, []), (4, []), (5, []), (6, []), (7, []), (8, []), (9, []), (10, []), (11, []), (12, []), (13, []), (14, [])]), (18, [(0, []), (2, []), (3, []), (4, []), (5, []), (7, []), (8, []), (9, []), (10, []), (1, []), (6, []), (11, []), (12, []), (13, []), (14, [])])] mixed (args := [.v _, .v _, .v _]) (ms := []) Try.func13 (by kernel_rfl) rfl ?_
  conv => whnf
  refine CallN.pure (begun12_spec _) fun v V1 _ hV1 hv => ?_
  subst hv
  conv => whnf
  repeat' first
    | (refine br_t rfl ?_; conv => whnf)
    | (refine br_f rfl ?_; conv => whnf)
    | (refine IdxN.lit rfl rfl ?_; conv => whnf)
    | (intro _; conv => whnf)
  apply br <;> intro g1 <;> conv => whnf
  · repeat (refine br_t g1 ?_; conv => whnf)
    exact ret_pure rfl
  repeat (refine br_f g1 ?_; conv => whnf)
  apply br <;> intro g2 <;> conv => whnf
  · repeat (first | (refine br_t g2 ?_; conv => whnf) | (refine br_f g1 ?_; conv => whnf))
    exact ret_pure rfl
  repeat (first | (refine br_f g2 ?_; conv => whnf) | (refine br_f g1 ?_; conv => whnf))
  have g1 : s1.l.length ≤ 50 := by have := of_decide_eq_false g1; omega
  have g2 : s2.l.length ≤ 50 := by have := of_decide_eq_false g2; omega
  have ok1 := h1.ok g1 (by decide)
  have ok2 := h2.ok g2 (by decide)
  refine CallN.pure (schema_spec _) fun v V2 _ hV2 ⟨r, p, q, p2, hv, t1, t2, t3⟩ => ?_
  subst hv
  conv => whnf
  repeat' first
    | (refine br_t rfl ?_; conv => whnf)
    | (refine br_f rfl ?_; conv => whnf)
    | (refine IdxN.lit rfl rfl ?_; conv => whnf)
    | (intro _; conv => whnf)
  refine LoadN.of (t1.mono (by repeat (first | exact View.le_refl _ | assumption | exact View.addU_le _ _ _ | refine View.le_trans ?_ (by assumption) | refine View.le_trans ?_ (View.addU_le _ _ _)))) 0 rfl rfl ?_
  conv => whnf
  repeat' first
    | (refine br_t rfl ?_; conv => whnf)
    | (refine br_f rfl ?_; conv => whnf)
    | (refine IdxN.lit rfl rfl ?_; conv => whnf)
    | (intro _; conv => whnf)
  refine LoadN.of (t1.mono (by repeat (first | exact View.le_refl _ | assumption | exact View.addU_le _ _ _ | refine View.le_trans ?_ (by assumption) | refine View.le_trans ?_ (View.addU_le _ _ _)))) 3 rfl rfl ?_
  conv => whnf
  repeat' first
    | (refine br_t rfl ?_; conv => whnf)
    | (refine br_f rfl ?_; conv => whnf)
    | (refine IdxN.lit rfl rfl ?_; conv => whnf)
    | (intro _; conv => whnf)
  rename_i b7 b8 hb8 b9 hb9
  have hlt : ColsLie V2 colsT p := colsLie_T t2
  have hlu : ColsLie V2 colsU p2 := colsLie_U t3
  refine CallN.pure (rows_spec s1 colsT (txt [116]) p 3 3 (some ⟨q, 0, none⟩) 1 1 10 _ (ok1.mono (by repeat (first | exact View.le_refl _ | assumption | exact View.addU_le _ _ _ | refine View.le_trans ?_ (by assumption) | refine View.le_trans ?_ (View.addU_le _ _ _)))) (hlt.mono (by repeat (first | exact View.le_refl _ | assumption | exact View.addU_le _ _ _ | refine View.le_trans ?_ (by assumption) | refine View.le_trans ?_ (View.addU_le _ _ _)))) rfl (by decide)) fun v V3 _ hV3 ⟨L, ⟨lb, lc, hv, hlp, hL⟩, hcL, hsL⟩ => ?_
  subst hv
  refine Prot.refl ?_
  conv => whnf
  repeat' first
    | (refine br_t rfl ?_; conv => whnf)
    | (refine br_f rfl ?_; conv => whnf)
    | (refine IdxN.lit rfl rfl ?_; conv => whnf)
    | (intro _; conv => whnf)
  refine CallN.pure (rows_spec s2 colsU (txt [117]) p2 3 3 none 0 0 10 _ (ok2.mono (by repeat (first | exact View.le_refl _ | assumption | exact View.addU_le _ _ _ | refine View.le_trans ?_ (by assumption) | refine View.le_trans ?_ (View.addU_le _ _ _)))) (hlu.mono (by repeat (first | exact View.le_refl _ | assumption | exact View.addU_le _ _ _ | refine View.le_trans ?_ (by assumption) | refine View.le_trans ?_ (View.addU_le _ _ _)))) rfl (by decide)) fun v V4 _ hV4 ⟨R, ⟨rb, rc, hv, hrp, hR⟩, hcR, hsR⟩ => ?_
  subst hv
  refine Prot.refl ?_
  conv => whnf
  repeat' first
    | (refine br_t rfl ?_; conv => whnf)
    | (refine br_f rfl ?_; conv => whnf)
    | (refine IdxN.lit rfl rfl ?_; conv => whnf)
    | (intro _; conv => whnf)
  have hM : on.tmod 4 = 0 ∨ on.tmod 4 = 1 ∨ on.tmod 4 = 2 ∨ on.tmod 4 = 3 := by rw [Int.tmod_eq_emod_of_nonneg hn.1]; omega
  rename_i la lka
  generalize on.tmod 4 = M at *
  rcases hM with hM | hM | hM | hM
  · subst hM
    repeat' first
      | (refine br_t rfl ?_; conv => whnf)
      | (refine br_f rfl ?_; conv => whnf)
      | (refine IdxN.lit rfl rfl ?_; conv => whnf)
      | (intro _; conv => whnf)
    refine LoadN.of lka.has 0 rfl rfl ?_
    conv => whnf
    repeat' first
      | (refine br_t rfl ?_; conv => whnf)
      | (refine br_f rfl ?_; conv => whnf)
      | (refine IdxN.lit rfl rfl ?_; conv => whnf)
      | (intro _; conv => whnf)
    rename_i lb2 lkb
    refine LoadN.of lkb.has 0 rfl rfl ?_
    conv => whnf
    repeat' first
      | (refine br_t rfl ?_; conv => whnf)
      | (refine br_f rfl ?_; conv => whnf)
      | (refine IdxN.lit rfl rfl ?_; conv => whnf)
      | (intro _; conv => whnf)
    refine LoadN.of (t2.mono (by repeat (first | exact View.le_refl _ | assumption | exact View.addU_le _ _ _ | refine View.le_trans ?_ (by assumption) | refine View.le_trans ?_ (View.addU_le _ _ _)))) 0 rfl rfl ?_
    conv => whnf
    repeat' first
      | (refine br_t rfl ?_; conv => whnf)
      | (refine br_f rfl ?_; conv => whnf)
      | (refine IdxN.lit rfl rfl ?_; conv => whnf)
      | (intro _; conv => whnf)
    refine LoadN.of (t3.mono (by repeat (first | exact View.le_refl _ | assumption | exact View.addU_le _ _ _ | refine View.le_trans ?_ (by assumption) | refine View.le_trans ?_ (View.addU_le _ _ _)))) 3 rfl rfl ?_
    conv => whnf
    repeat' first
      | (refine br_t rfl ?_; conv => whnf)
      | (refine br_f rfl ?_; conv => whnf)
      | (refine IdxN.lit rfl rfl ?_; conv => whnf)
      | (intro _; conv => whnf)
    rename_i ln lkn b14 hb14
    have hln : View.has _ ln 0 (xcells (colN (txt [116]) (⟨txt [107], 1, noText⟩ : ColT).nm) ++ xcells (colN (txt [117]) (⟨txt [114], 1, txt [116]⟩ : ColT).nm)) := lkn.has
    refine loopz (σ := Nat × Option Addr × Nat × List (List Val) × List Value)
      (fun x => [(8, .own 8 0), (9, .own 9 0), (10, .v (.slice lb L.length lc)), (11, .v (.slice rb R.length rc)), (12, .v (.int .i64 (0 : Nat))), (13, .v (.int .i64 (1 : Nat))), (14, .own 14 0), (15, .row 111), (16, .v (.int .i64 x.1))])
      (fun x => [(8, .box b8 27 [.string (txt [116]), .slice (some ⟨p, 0, none⟩) 3 3, .slice (some ⟨q, 0, none⟩) 1 1]), (9, .box b9 27 [.string (txt [117]), .slice (some ⟨p2, 0, none⟩) 3 3, .slice none 0 0]),
        (14, .box b14 70 [.int .i64 6, .string (txt [116]), .string noText, .slice none 0 0, .slice none 0 0, .slice none 0 0, .slice none 0 0, .string (txt [117]), .slice (some ⟨ln, 0, none⟩) 2 2, .slice none 0 0, .slice none 0 0, .bool false, .slice none 0 0]),
        (111, .row (.slice x.2.1 x.2.2.2.1.length x.2.2.1) 45 1 x.2.2.2.1.length)])
      (fun j x V' => V4.le V' ∧ x.1 ≤ L.length ∧ L.length - x.1 = j ∧ x.2.2.2.1 = joinX (onX 0 1) (L.take x.1) R ∧ CellsAt V' x.2.2.2.1 x.2.2.2.2 ∧ V'.cells (.slice x.2.1 x.2.2.2.1.length x.2.2.1) x.2.2.2.2 ∧ V'.has ln 0 (xcells (colN (txt [116]) (⟨txt [107], 1, noText⟩ : ColT).nm) ++ xcells (colN (txt [117]) (⟨txt [114], 1, txt [116]⟩ : ColT).nm)))
      L.length (0, none, 0, [], []) ?_ ?_ ?_ ?_
    · repeat' (first | exact sees_nil | refine sees_cons rfl rfl rfl ?_)
    · repeat' (first | exact keeps_nil | refine keeps_cons rfl ?_ | refine keeps_free ?_)
    · exact ⟨(by repeat (first | exact View.le_refl _ | assumption | exact View.addU_le _ _ _ | refine View.le_trans ?_ (by assumption) | refine View.le_trans ?_ (View.addU_le _ _ _))), Nat.zero_le _, by simp, rfl, CellsAt.nil, rfl, hln⟩
    clear hln lkn lkb lka hb14 hb8 hb9
    rintro j ⟨i, base, cp, out, cells⟩ V' ⟨hV, hi, hj, hout, hca, hcl, hln⟩
    simp only at hi hj hout hca hcl
    have hol : out.length ≤ i * R.length := by
      rw [hout]
      refine Nat.le_trans (joinX_len _ _) (Nat.mul_le_mul_right _ ?_)
      rw [List.length_take]; omega
    conv => whnf
    apply br <;> intro g3 <;> conv => whnf
    · have hi1 : i < L.length := by have := of_decide_eq_true g3; omega
      obtain ⟨a1, ha⟩ : ∃ a, L[i]? = some a := ⟨_, List.getElem?_eq_getElem hi1⟩
      have ham := List.mem_of_getElem? ha
      have hla : a1.length = 3 := (hcL a1 ham).len
      obtain ⟨x, hx⟩ : ∃ x, a1[0]? = some x := ⟨_, List.getElem?_eq_getElem (by omega)⟩
      have htake : joinX (onX 0 1) (L.take (i + 1)) R = joinX (onX 0 1) (L.take i) R ++ (R.filter (onX 0 1 a1)).map (a1 ++ ·) := by
        unfold joinX
        rw [List.take_add_one, ha, List.flatMap_append]
        simp
      obtain ⟨p3, off, cv, hlb, hcell, hrow⟩ := hL.at ha
      obtain ⟨ab, ac, hav, hap, hava⟩ := hrow
      obtain ⟨d9, dof, hb10, hx9⟩ := hava.at hx
      subst hlb; subst hav; subst hb10
      have hwi := wrap_nat (i := i) (by omega)
      repeat' first
        | (refine br_t rfl ?_; conv => whnf)
        | (refine br_f rfl ?_; conv => whnf)
        | (refine IdxN.lit rfl rfl ?_; conv => whnf)
        | (intro _; conv => whnf)
      refine loopz (σ := Nat × Option Addr × Nat × List (List Val) × List Value)
        (fun x => [(8, .own 8 0), (9, .own 9 0), (10, .v (.slice (some ⟨p3, off, none⟩) L.length lc)), (11, .v (.slice rb R.length rc)), (12, .v (.int .i64 (0 : Nat))), (13, .v (.int .i64 (1 : Nat))), (14, .own 14 0), (15, .row 111), (16, .v (.int .i64 i)), (17, .v (.int .i64 x.1))])
        (fun x => [(8, .box b8 27 [.string (txt [116]), .slice (some ⟨p, 0, none⟩) 3 3, .slice (some ⟨q, 0, none⟩) 1 1]), (9, .box b9 27 [.string (txt [117]), .slice (some ⟨p2, 0, none⟩) 3 3, .slice none 0 0]),
          (14, .box b14 70 [.int .i64 6, .string (txt [116]), .string noText, .slice none 0 0, .slice none 0 0, .slice none 0 0, .slice none 0 0, .string (txt [117]), .slice (some ⟨ln, 0, none⟩) 2 2, .slice none 0 0, .slice none 0 0, .bool false, .slice none 0 0]),
          (111, .row (.slice x.2.1 x.2.2.2.1.length x.2.2.1) 45 1 x.2.2.2.1.length)])
        (fun j x V2 => V'.le V2 ∧ x.1 ≤ R.length ∧ R.length - x.1 = j ∧ x.2.2.2.1 = out ++ ((R.take x.1).filter (onX 0 1 a1)).map (a1 ++ ·) ∧ CellsAt V2 x.2.2.2.1 x.2.2.2.2 ∧ V2.cells (.slice x.2.1 x.2.2.2.1.length x.2.2.1) x.2.2.2.2)
        R.length (0, base, cp, out, cells) ?_ ?_ ?_ ?_
      · repeat' (first | exact sees_nil | refine sees_cons rfl rfl rfl ?_)
      · repeat' (first | exact keeps_nil | refine keeps_cons rfl ?_ | refine keeps_free ?_)
      · exact ⟨View.le_refl _, Nat.zero_le _, by simp, by simp, hca, hcl⟩
      clear hca hcl
      rintro j2 ⟨k, base2, cp2, out2, cells2⟩ V5 ⟨hV5, hk, hj2, hout2, hca, hcl⟩
      simp only at hk hj2 hout2 hca hcl
      have hol2 : out2.length ≤ 930 := by
        rw [hout2, List.length_append]
        have h1 := pairs_len (on := onX 0 1) a1 (R.take k)
        have h2 : (R.take k).length ≤ 30 := by rw [List.length_take]; omega
        have h3 : i * R.length ≤ 30 * 30 := Nat.mul_le_mul (by omega) (by omega)
        omega
      conv => whnf
      apply br <;> intro g4 <;> conv => whnf
      · have hk1 : k < R.length := by have := of_decide_eq_true g4; omega
        obtain ⟨b1, hb⟩ : ∃ b, R[k]? = some b := ⟨_, List.getElem?_eq_getElem hk1⟩
        have hbm := List.mem_of_getElem? hb
        have hlb : b1.length = 3 := (hcR b1 hbm).len
        obtain ⟨y, hy⟩ : ∃ x, b1[1]? = some x := ⟨_, List.getElem?_eq_getElem (by omega)⟩
        have hon : onX 0 1 a1 b1 = sameV x y := by rw [onX, hx, hy]
        have htk : (R.take (k + 1)).filter (onX 0 1 a1) = (R.take k).filter (onX 0 1 a1) ++ (if sameV x y then [b1] else []) := by
          rw [List.take_add_one, hb, List.filter_append, ← hon]
          congr 1
          show List.filter (onX 0 1 a1) [b1] = _
          by_cases h : onX 0 1 a1 b1 = true
          · rw [if_pos h]; simp [h]
          · rw [if_neg h]; simp [h]
        obtain ⟨p4, off2, cv2, hrb, hcell2, hrow2⟩ := hR.at hb
        obtain ⟨bb, bc, hbv, hbp, hbva⟩ := hrow2
        obtain ⟨e9, eof, hb11, hy9⟩ := hbva.at hy
        subst hrb; subst hbv; subst hb11
        have hwk := wrap_nat (i := k) (by omega)
        refine IdxN.of (by omega) (by omega) ?_
        conv => whnf
        refine LoadN.of (hcell.mono (by repeat (first | exact View.le_refl _ | assumption | exact View.addU_le _ _ _ | refine View.le_trans ?_ (by assumption) | refine View.le_trans ?_ (View.addU_le _ _ _)))) 0 (by show off + i * 1 = off + i + 0; omega) rfl ?_
        conv => whnf
        refine IdxN.of (by decide) (by omega) ?_
        conv => whnf
        refine LoadN.of (hx9.mono (by repeat (first | exact View.le_refl _ | assumption | exact View.addU_le _ _ _ | refine View.le_trans ?_ (by assumption) | refine View.le_trans ?_ (View.addU_le _ _ _)))) 0 rfl rfl ?_
        conv => whnf
        refine IdxN.of (by omega) (by omega) ?_
        conv => whnf
        refine LoadN.of (hcell2.mono (by repeat (first | exact View.le_refl _ | assumption | exact View.addU_le _ _ _ | refine View.le_trans ?_ (by assumption) | refine View.le_trans ?_ (View.addU_le _ _ _)))) 0 (by show off2 + k * 1 = off2 + k + 0; omega) rfl ?_
        conv => whnf
        refine IdxN.of (by decide) (by omega) ?_
        conv => whnf
        refine LoadN.of (hy9.mono (by repeat (first | exact View.le_refl _ | assumption | exact View.addU_le _ _ _ | refine View.le_trans ?_ (by assumption) | refine View.le_trans ?_ (View.addU_le _ _ _)))) 0 rfl rfl ?_
        conv => whnf
        refine ⟨⟨_, eqv_run _ _ _ _, ?_⟩⟩
        conv => whnf
        apply br <;> intro g5 <;> conv => whnf
        · rw [if_pos g5] at htk
          refine IdxN.of (by omega) (by omega) ?_
          conv => whnf
          refine LoadN.of (hcell.mono (by repeat (first | exact View.le_refl _ | assumption | exact View.addU_le _ _ _ | refine View.le_trans ?_ (by assumption) | refine View.le_trans ?_ (View.addU_le _ _ _)))) 0 (by show off + i * 1 = off + i + 0; omega) rfl ?_
          conv => whnf
          refine IdxN.of (by omega) (by omega) ?_
          conv => whnf
          refine LoadN.of (hcell2.mono (by repeat (first | exact View.le_refl _ | assumption | exact View.addU_le _ _ _ | refine View.le_trans ?_ (by assumption) | refine View.le_trans ?_ (View.addU_le _ _ _)))) 0 (by show off2 + k * 1 = off2 + k + 0; omega) rfl ?_
          conv => whnf
          repeat' first
            | (refine br_t rfl ?_; conv => whnf)
            | (refine br_f rfl ?_; conv => whnf)
            | (refine IdxN.lit rfl rfl ?_; conv => whnf)
            | (intro _; conv => whnf)
          refine AppN.toR a1.length (Nat.zero_add _) [] (a1.flatMap vcells) (fun i v hv => by simp at hv) rfl (row_news hap (hava.mono (by repeat (first | exact View.le_refl _ | assumption | exact View.addU_le _ _ _ | refine View.le_trans ?_ (by assumption) | refine View.le_trans ?_ (View.addU_le _ _ _))))) (flat_len (f := vcells) (n := 3) (fun _ => rfl) _) (allOne_flat a1) (by omega) (by decide) fun base6 cap6 V6 hV6 hc6 _ => ?_
          conv => whnf
          refine AppN.toR (a1.length + b1.length) rfl (a1.flatMap vcells) (b1.flatMap vcells) hc6 (flat_len (f := vcells) (n := 3) (fun _ => rfl) _) (row_news hbp (hbva.mono (by repeat (first | exact View.le_refl _ | assumption | exact View.addU_le _ _ _ | refine View.le_trans ?_ (by assumption) | refine View.le_trans ?_ (View.addU_le _ _ _))))) (flat_len (f := vcells) (n := 3) (fun _ => rfl) _) (allOne_flat b1) (by omega) (by decide) fun base7 cap7 V7 hV7 hc7 _ => ?_
          conv => whnf
          have hc7 : V7.cells (.slice base7 (a1 ++ b1).length cap7) ((a1 ++ b1).flatMap vcells) := by rw [List.length_append, List.flatMap_append]; exact hc7
          have hrow7 : RowAt V7 (a1 ++ b1) (.slice base7 (a1.length + b1.length) cap7) := ⟨base7, cap7, by rw [List.length_append], .inr (plain_cells hc7), ValsAt.of_cells hc7 (by rw [List.length_append]; omega)⟩
          repeat' first
            | (refine br_t rfl ?_; conv => whnf)
            | (refine br_f rfl ?_; conv => whnf)
            | (refine IdxN.lit rfl rfl ?_; conv => whnf)
            | (intro _; conv => whnf)
          rename_i l1 lk1
          refine AppN.to (out2 ++ [a1 ++ b1]).length (by simp) cells2 [.slice base7 (a1.length + b1.length) cap7] (hcl.mono (by repeat (first | exact View.le_refl _ | assumption | exact View.addU_le _ _ _ | refine View.le_trans ?_ (by assumption) | refine View.le_trans ?_ (View.addU_le _ _ _)))) (by rw [hca.len]; exact (Nat.mul_one _).symm) lk1.has rfl rfl (by simp only [List.length_append, List.length_cons, List.length_nil]; omega) (by decide) fun base' cap' V8 hV8 hc8 => ?_
          conv => whnf
          refine ⟨j2 - 1, (k + 1, base', cap', out2 ++ [a1 ++ b1], cells2 ++ [.slice base7 (a1.length + b1.length) cap7]), by omega, ?_, ?_, ?_⟩
          · repeat' (first | exact sees_nil | refine sees_cons rfl rfl rfl ?_ | refine sees_cons rfl rfl (by rw [← hwk]; rfl) ?_)
          · repeat' (first | exact keeps_nil | refine keeps_cons rfl ?_ | refine keeps_free ?_)
          · refine ⟨View.le_trans hV5 (by repeat (first | exact View.le_refl _ | assumption | exact View.addU_le _ _ _ | refine View.le_trans ?_ (by assumption) | refine View.le_trans ?_ (View.addU_le _ _ _))), hk1, by show _ - (k + 1) = _; omega, ?_, (hca.mono (by repeat (first | exact View.le_refl _ | assumption | exact View.addU_le _ _ _ | refine View.le_trans ?_ (by assumption) | refine View.le_trans ?_ (View.addU_le _ _ _)))).snoc (hrow7.mono (by repeat (first | exact View.le_refl _ | assumption | exact View.addU_le _ _ _ | refine View.le_trans ?_ (by assumption) | refine View.le_trans ?_ (View.addU_le _ _ _)))), hc8⟩
            show out2 ++ [a1 ++ b1] = _
            rw [htk, List.map_append, ← List.append_assoc, ← hout2]; rfl
        · rw [if_neg (by rw [g5]; simp), List.append_nil] at htk
          refine ⟨j2 - 1, (k + 1, base2, cp2, out2, cells2), by omega, ?_, ?_, ?_⟩
          · repeat' (first | exact sees_nil | refine sees_cons rfl rfl rfl ?_ | refine sees_cons rfl rfl (by rw [← hwk]; rfl) ?_)
          · repeat' (first | exact keeps_nil | refine keeps_cons rfl ?_ | refine keeps_free ?_)
          · exact ⟨View.le_trans hV5 (by repeat (first | exact View.le_refl _ | assumption | exact View.addU_le _ _ _ | refine View.le_trans ?_ (by assumption) | refine View.le_trans ?_ (View.addU_le _ _ _))), hk1, by show _ - (k + 1) = _; omega, by show out2 = _; rw [htk]; exact hout2, hca.mono (by repeat (first | exact View.le_refl _ | assumption | exact View.addU_le _ _ _ | refine View.le_trans ?_ (by assumption) | refine View.le_trans ?_ (View.addU_le _ _ _))), hcl.mono (by repeat (first | exact View.le_refl _ | assumption | exact View.addU_le _ _ _ | refine View.le_trans ?_ (by assumption) | refine View.le_trans ?_ (View.addU_le _ _ _)))⟩
      · have hk1 : ¬ k < R.length := by have := of_decide_eq_false g4; omega
        rw [List.take_of_length_le (by omega)] at hout2
        repeat' first
          | (refine br_t rfl ?_; conv => whnf)
          | (refine br_f rfl ?_; conv => whnf)
          | (refine IdxN.lit rfl rfl ?_; conv => whnf)
          | (intro _; conv => whnf)
        refine ⟨j - 1, (i + 1, base2, cp2, out2, cells2), by omega, ?_, ?_, ?_⟩
        · repeat' (first | exact sees_nil | refine sees_cons rfl rfl rfl ?_ | refine sees_cons rfl rfl (by rw [← hwi]; rfl) ?_)
        · repeat' (first | exact keeps_nil | refine keeps_cons rfl ?_ | refine keeps_free ?_)
        · exact ⟨View.le_trans hV hV5, hi1, by show _ - (i + 1) = _; omega, by show out2 = _; rw [hout2, htake, hout], hca, hcl, hln.mono hV5⟩
    · have hi1 : ¬ i < L.length := by have := of_decide_eq_false g3; omega
      rw [List.take_of_length_le (by omega)] at hout
      subst hout
      repeat' first
        | (refine br_t rfl ?_; conv => whnf)
        | (refine br_f rfl ?_; conv => whnf)
        | (refine IdxN.lit rfl rfl ?_; conv => whnf)
        | (intro _; conv => whnf)
      have hlo : (joinX (onX 0 1) L R).length ≤ 9223372036854775807 := by have : i * R.length ≤ 30 * 30 := Nat.mul_le_mul (by omega) (by omega); omega
      refine CallN.pure (pair_spec L R lb rb lc rc p q p2 ln 2 0 1 ⟨txt [107], 1, noText⟩ ⟨txt [114], 1, txt [116]⟩ _ rfl rfl (hln.mono (by repeat (first | exact View.le_refl _ | assumption | exact View.addU_le _ _ _ | refine View.le_trans ?_ (by assumption) | refine View.le_trans ?_ (View.addU_le _ _ _)))) (t2.mono (by repeat (first | exact View.le_refl _ | assumption | exact View.addU_le _ _ _ | refine View.le_trans ?_ (by assumption) | refine View.le_trans ?_ (View.addU_le _ _ _)))) (t3.mono (by repeat (first | exact View.le_refl _ | assumption | exact View.addU_le _ _ _ | refine View.le_trans ?_ (by assumption) | refine View.le_trans ?_ (View.addU_le _ _ _)))) (hL.mono (by repeat (first | exact View.le_refl _ | assumption | exact View.addU_le _ _ _ | refine View.le_trans ?_ (by assumption) | refine View.le_trans ?_ (View.addU_le _ _ _)))) (hR.mono (by repeat (first | exact View.le_refl _ | assumption | exact View.addU_le _ _ _ | refine View.le_trans ?_ (by assumption) | refine View.le_trans ?_ (View.addU_le _ _ _)))) (by omega) (by omega) hcL hcR) fun v V9 _ hV9 ⟨gx, hv, hgx⟩ => ?_
      subst hv
      obtain ⟨gb, gc, hgv, hgp, hgr⟩ := hgx
      subst hgv
      conv => whnf
      repeat' first
        | (refine br_t rfl ?_; conv => whnf)
        | (refine br_f rfl ?_; conv => whnf)
        | (refine IdxN.lit rfl rfl ?_; conv => whnf)
        | (intro _; conv => whnf)
      refine CallN.pure (samerows_spec (joinX (onX 0 1) L R) gb base gc cp _ (hgr.mono (by repeat (first | exact View.le_refl _ | assumption | exact View.addU_le _ _ _ | refine View.le_trans ?_ (by assumption) | refine View.le_trans ?_ (View.addU_le _ _ _)))) (RowsAt.of_cells (hca.mono (by repeat (first | exact View.le_refl _ | assumption | exact View.addU_le _ _ _ | refine View.le_trans ?_ (by assumption) | refine View.le_trans ?_ (View.addU_le _ _ _)))) (hcl.mono (by repeat (first | exact View.le_refl _ | assumption | exact View.addU_le _ _ _ | refine View.le_trans ?_ (by assumption) | refine View.le_trans ?_ (View.addU_le _ _ _)))) hlo)) fun v V10 _ hV10 hv => ?_
      subst hv
      conv => whnf
      repeat' first
        | (refine br_t rfl ?_; conv => whnf)
        | (refine br_f rfl ?_; conv => whnf)
        | (refine IdxN.lit rfl rfl ?_; conv => whnf)
        | (intro _; conv => whnf)
      exact ret_pure rfl
  · subst hM
    repeat' first
      | (refine br_t rfl ?_; conv => whnf)
      | (refine br_f rfl ?_; conv => whnf)
      | (refine IdxN.lit rfl rfl ?_; conv => whnf)
      | (intro _; conv => whnf)
    refine LoadN.of lka.has 1 rfl rfl ?_
    conv => whnf
    repeat' first
      | (refine br_t rfl ?_; conv => whnf)
      | (refine br_f rfl ?_; conv => whnf)
      | (refine IdxN.lit rfl rfl ?_; conv => whnf)
      | (intro _; conv => whnf)
    rename_i lb2 lkb
    refine LoadN.of lkb.has 1 rfl rfl ?_
    conv => whnf
    repeat' first
      | (refine br_t rfl ?_; conv => whnf)
      | (refine br_f rfl ?_; conv => whnf)
      | (refine IdxN.lit rfl rfl ?_; conv => whnf)
      | (intro _; conv => whnf)
    refine LoadN.of (t2.mono (by repeat (first | exact View.le_refl _ | assumption | exact View.addU_le _ _ _ | refine View.le_trans ?_ (by assumption) | refine View.le_trans ?_ (View.addU_le _ _ _)))) 6 rfl rfl ?_
    conv => whnf
    repeat' first
      | (refine br_t rfl ?_; conv => whnf)
      | (refine br_f rfl ?_; conv => whnf)
      | (refine IdxN.lit rfl rfl ?_; conv => whnf)
      | (intro _; conv => whnf)
    refine LoadN.of (t3.mono (by repeat (first | exact View.le_refl _ | assumption | exact View.addU_le _ _ _ | refine View.le_trans ?_ (by assumption) | refine View.le_trans ?_ (View.addU_le _ _ _)))) 6 rfl rfl ?_
    conv => whnf
    repeat' first
      | (refine br_t rfl ?_; conv => whnf)
      | (refine br_f rfl ?_; conv => whnf)
      | (refine IdxN.lit rfl rfl ?_; conv => whnf)
      | (intro _; conv => whnf)
    rename_i ln lkn b14 hb14
    have hln : View.has _ ln 0 (xcells (colN (txt [116]) (⟨txt [110], 1, noText⟩ : ColT).nm) ++ xcells (colN (txt [117]) (⟨txt [110], 1, noText⟩ : ColT).nm)) := lkn.has
    refine loopz (σ := Nat × Option Addr × Nat × List (List Val) × List Value)
      (fun x => [(8, .own 8 0), (9, .own 9 0), (10, .v (.slice lb L.length lc)), (11, .v (.slice rb R.length rc)), (12, .v (.int .i64 (2 : Nat))), (13, .v (.int .i64 (2 : Nat))), (14, .own 14 0), (15, .row 111), (16, .v (.int .i64 x.1))])
      (fun x => [(8, .box b8 27 [.string (txt [116]), .slice (some ⟨p, 0, none⟩) 3 3, .slice (some ⟨q, 0, none⟩) 1 1]), (9, .box b9 27 [.string (txt [117]), .slice (some ⟨p2, 0, none⟩) 3 3, .slice none 0 0]),
        (14, .box b14 70 [.int .i64 6, .string (txt [116]), .string noText, .slice none 0 0, .slice none 0 0, .slice none 0 0, .slice none 0 0, .string (txt [117]), .slice (some ⟨ln, 0, none⟩) 2 2, .slice none 0 0, .slice none 0 0, .bool false, .slice none 0 0]),
        (111, .row (.slice x.2.1 x.2.2.2.1.length x.2.2.1) 45 1 x.2.2.2.1.length)])
      (fun j x V' => V4.le V' ∧ x.1 ≤ L.length ∧ L.length - x.1 = j ∧ x.2.2.2.1 = joinX (onX 2 2) (L.take x.1) R ∧ CellsAt V' x.2.2.2.1 x.2.2.2.2 ∧ V'.cells (.slice x.2.1 x.2.2.2.1.length x.2.2.1) x.2.2.2.2 ∧ V'.has ln 0 (xcells (colN (txt [116]) (⟨txt [110], 1, noText⟩ : ColT).nm) ++ xcells (colN (txt [117]) (⟨txt [110], 1, noText⟩ : ColT).nm)))
      L.length (0, none, 0, [], []) ?_ ?_ ?_ ?_
    · repeat' (first | exact sees_nil | refine sees_cons rfl rfl rfl ?_)
    · repeat' (first | exact keeps_nil | refine keeps_cons rfl ?_ | refine keeps_free ?_)
    · exact ⟨(by repeat (first | exact View.le_refl _ | assumption | exact View.addU_le _ _ _ | refine View.le_trans ?_ (by assumption) | refine View.le_trans ?_ (View.addU_le _ _ _))), Nat.zero_le _, by simp, rfl, CellsAt.nil, rfl, hln⟩
    clear hln lkn lkb lka hb14 hb8 hb9
    rintro j ⟨i, base, cp, out, cells⟩ V' ⟨hV, hi, hj, hout, hca, hcl, hln⟩
    simp only at hi hj hout hca hcl
    have hol : out.length ≤ i * R.length := by
      rw [hout]
      refine Nat.le_trans (joinX_len _ _) (Nat.mul_le_mul_right _ ?_)
      rw [List.length_take]; omega
    conv => whnf
    apply br <;> intro g3 <;> conv => whnf
    · have hi1 : i < L.length := by have := of_decide_eq_true g3; omega
      obtain ⟨a1, ha⟩ : ∃ a, L[i]? = some a := ⟨_, List.getElem?_eq_getElem hi1⟩
      have ham := List.mem_of_getElem? ha
      have hla : a1.length = 3 := (hcL a1 ham).len
      obtain ⟨x, hx⟩ : ∃ x, a1[2]? = some x := ⟨_, List.getElem?_eq_getElem (by omega)⟩
      have htake : joinX (onX 2 2) (L.take (i + 1)) R = joinX (onX 2 2) (L.take i) R ++ (R.filter (onX 2 2 a1)).map (a1 ++ ·) := by
        unfold joinX
        rw [List.take_add_one, ha, List.flatMap_append]
        simp
      obtain ⟨p3, off, cv, hlb, hcell, hrow⟩ := hL.at ha
      obtain ⟨ab, ac, hav, hap, hava⟩ := hrow
      obtain ⟨d9, dof, hb10, hx9⟩ := hava.at hx
      subst hlb; subst hav; subst hb10
      have hwi := wrap_nat (i := i) (by omega)
      repeat' first
        | (refine br_t rfl ?_; conv => whnf)
        | (refine br_f rfl ?_; conv => whnf)
        | (refine IdxN.lit rfl rfl ?_; conv => whnf)
        | (intro _; conv => whnf)
      refine loopz (σ := Nat × Option Addr × Nat × List (List Val) × List Value)
        (fun x => [(8, .own 8 0), (9, .own 9 0), (10, .v (.slice (some ⟨p3, off, none⟩) L.length lc)), (11, .v (.slice rb R.length rc)), (12, .v (.int .i64 (2 : Nat))), (13, .v (.int .i64 (2 : Nat))), (14, .own 14 0), (15, .row 111), (16, .v (.int .i64 i)), (17, .v (.int .i64 x.1))])
        (fun x => [(8, .box b8 27 [.string (txt [116]), .slice (some ⟨p, 0, none⟩) 3 3, .slice (some ⟨q, 0, none⟩) 1 1]), (9, .box b9 27 [.string (txt [117]), .slice (some ⟨p2, 0, none⟩) 3 3, .slice none 0 0]),
          (14, .box b14 70 [.int .i64 6, .string (txt [116]), .string noText, .slice none 0 0, .slice none 0 0, .slice none 0 0, .slice none 0 0, .string (txt [117]), .slice (some ⟨ln, 0, none⟩) 2 2, .slice none 0 0, .slice none 0 0, .bool false, .slice none 0 0]),
          (111, .row (.slice x.2.1 x.2.2.2.1.length x.2.2.1) 45 1 x.2.2.2.1.length)])
        (fun j x V2 => V'.le V2 ∧ x.1 ≤ R.length ∧ R.length - x.1 = j ∧ x.2.2.2.1 = out ++ ((R.take x.1).filter (onX 2 2 a1)).map (a1 ++ ·) ∧ CellsAt V2 x.2.2.2.1 x.2.2.2.2 ∧ V2.cells (.slice x.2.1 x.2.2.2.1.length x.2.2.1) x.2.2.2.2)
        R.length (0, base, cp, out, cells) ?_ ?_ ?_ ?_
      · repeat' (first | exact sees_nil | refine sees_cons rfl rfl rfl ?_)
      · repeat' (first | exact keeps_nil | refine keeps_cons rfl ?_ | refine keeps_free ?_)
      · exact ⟨View.le_refl _, Nat.zero_le _, by simp, by simp, hca, hcl⟩
      clear hca hcl
      rintro j2 ⟨k, base2, cp2, out2, cells2⟩ V5 ⟨hV5, hk, hj2, hout2, hca, hcl⟩
      simp only at hk hj2 hout2 hca hcl
      have hol2 : out2.length ≤ 930 := by
        rw [hout2, List.length_append]
        have h1 := pairs_len (on := onX 2 2) a1 (R.take k)
        have h2 : (R.take k).length ≤ 30 := by rw [List.length_take]; omega
        have h3 : i * R.length ≤ 30 * 30 := Nat.mul_le_mul (by omega) (by omega)
        omega
      conv => whnf
      apply br <;> intro g4 <;> conv => whnf
      · have hk1 : k < R.length := by have := of_decide_eq_true g4; omega
        obtain ⟨b1, hb⟩ : ∃ b, R[k]? = some b := ⟨_, List.getElem?_eq_getElem hk1⟩
        have hbm := List.mem_of_getElem? hb
        have hlb : b1.length = 3 := (hcR b1 hbm).len
        obtain ⟨y, hy⟩ : ∃ x, b1[2]? = some x := ⟨_, List.getElem?_eq_getElem (by omega)⟩
        have hon : onX 2 2 a1 b1 = sameV x y := by rw [onX, hx, hy]
        have htk : (R.take (k + 1)).filter (onX 2 2 a1) = (R.take k).filter (onX 2 2 a1) ++ (if sameV x y then [b1] else []) := by
          rw [List.take_add_one, hb, List.filter_append, ← hon]
          congr 1
          show List.filter (onX 2 2 a1) [b1] = _
          by_cases h : onX 2 2 a1 b1 = true
          · rw [if_pos h]; simp [h]
          · rw [if_neg h]; simp [h]
        obtain ⟨p4, off2, cv2, hrb, hcell2, hrow2⟩ := hR.at hb
        obtain ⟨bb, bc, hbv, hbp, hbva⟩ := hrow2
        obtain ⟨e9, eof, hb11, hy9⟩ := hbva.at hy
        subst hrb; subst hbv; subst hb11
        have hwk := wrap_nat (i := k) (by omega)
        refine IdxN.of (by omega) (by omega) ?_
        conv => whnf
        refine LoadN.of (hcell.mono (by repeat (first | exact View.le_refl _ | assumption | exact View.addU_le _ _ _ | refine View.le_trans ?_ (by assumption) | refine View.le_trans ?_ (View.addU_le _ _ _)))) 0 (by show off + i * 1 = off + i + 0; omega) rfl ?_
        conv => whnf
        refine IdxN.of (by decide) (by omega) ?_
        conv => whnf
        refine LoadN.of (hx9.mono (by repeat (first | exact View.le_refl _ | assumption | exact View.addU_le _ _ _ | refine View.le_trans ?_ (by assumption) | refine View.le_trans ?_ (View.addU_le _ _ _)))) 0 rfl rfl ?_
        conv => whnf
        refine IdxN.of (by omega) (by omega) ?_
        conv => whnf
        refine LoadN.of (hcell2.mono (by repeat (first | exact View.le_refl _ | assumption | exact View.addU_le _ _ _ | refine View.le_trans ?_ (by assumption) | refine View.le_trans ?_ (View.addU_le _ _ _)))) 0 (by show off2 + k * 1 = off2 + k + 0; omega) rfl ?_
        conv => whnf
        refine IdxN.of (by decide) (by omega) ?_
        conv => whnf
        refine LoadN.of (hy9.mono (by repeat (first | exact View.le_refl _ | assumption | exact View.addU_le _ _ _ | refine View.le_trans ?_ (by assumption) | refine View.le_trans ?_ (View.addU_le _ _ _)))) 0 rfl rfl ?_
        conv => whnf
        refine ⟨⟨_, eqv_run _ _ _ _, ?_⟩⟩
        conv => whnf
        apply br <;> intro g5 <;> conv => whnf
        · rw [if_pos g5] at htk
          refine IdxN.of (by omega) (by omega) ?_
          conv => whnf
          refine LoadN.of (hcell.mono (by repeat (first | exact View.le_refl _ | assumption | exact View.addU_le _ _ _ | refine View.le_trans ?_ (by assumption) | refine View.le_trans ?_ (View.addU_le _ _ _)))) 0 (by show off + i * 1 = off + i + 0; omega) rfl ?_
          conv => whnf
          refine IdxN.of (by omega) (by omega) ?_
          conv => whnf
          refine LoadN.of (hcell2.mono (by repeat (first | exact View.le_refl _ | assumption | exact View.addU_le _ _ _ | refine View.le_trans ?_ (by assumption) | refine View.le_trans ?_ (View.addU_le _ _ _)))) 0 (by show off2 + k * 1 = off2 + k + 0; omega) rfl ?_
          conv => whnf
          repeat' first
            | (refine br_t rfl ?_; conv => whnf)
            | (refine br_f rfl ?_; conv => whnf)
            | (refine IdxN.lit rfl rfl ?_; conv => whnf)
            | (intro _; conv => whnf)
          refine AppN.toR a1.length (Nat.zero_add _) [] (a1.flatMap vcells) (fun i v hv => by simp at hv) rfl (row_news hap (hava.mono (by repeat (first | exact View.le_refl _ | assumption | exact View.addU_le _ _ _ | refine View.le_trans ?_ (by assumption) | refine View.le_trans ?_ (View.addU_le _ _ _))))) (flat_len (f := vcells) (n := 3) (fun _ => rfl) _) (allOne_flat a1) (by omega) (by decide) fun base6 cap6 V6 hV6 hc6 _ => ?_
          conv => whnf
          refine AppN.toR (a1.length + b1.length) rfl (a1.flatMap vcells) (b1.flatMap vcells) hc6 (flat_len (f := vcells) (n := 3) (fun _ => rfl) _) (row_news hbp (hbva.mono (by repeat (first | exact View.le_refl _ | assumption | exact View.addU_le _ _ _ | refine View.le_trans ?_ (by assumption) | refine View.le_trans ?_ (View.addU_le _ _ _))))) (flat_len (f := vcells) (n := 3) (fun _ => rfl) _) (allOne_flat b1) (by omega) (by decide) fun base7 cap7 V7 hV7 hc7 _ => ?_
          conv => whnf
          have hc7 : V7.cells (.slice base7 (a1 ++ b1).length cap7) ((a1 ++ b1).flatMap vcells) := by rw [List.length_append, List.flatMap_append]; exact hc7
          have hrow7 : RowAt V7 (a1 ++ b1) (.slice base7 (a1.length + b1.length) cap7) := ⟨base7, cap7, by rw [List.length_append], .inr (plain_cells hc7), ValsAt.of_cells hc7 (by rw [List.length_append]; omega)⟩
          repeat' first
            | (refine br_t rfl ?_; conv => whnf)
            | (refine br_f rfl ?_; conv => whnf)
            | (refine IdxN.lit rfl rfl ?_; conv => whnf)
            | (intro _; conv => whnf)
          rename_i l1 lk1
          refine AppN.to (out2 ++ [a1 ++ b1]).length (by simp) cells2 [.slice base7 (a1.length + b1.length) cap7] (hcl.mono (by repeat (first | exact View.le_refl _ | assumption | exact View.addU_le _ _ _ | refine View.le_trans ?_ (by assumption) | refine View.le_trans ?_ (View.addU_le _ _ _)))) (by rw [hca.len]; exact (Nat.mul_one _).symm) lk1.has rfl rfl (by simp only [List.length_append, List.length_cons, List.length_nil]; omega) (by decide) fun base' cap' V8 hV8 hc8 => ?_
          conv => whnf
          refine ⟨j2 - 1, (k + 1, base', cap', out2 ++ [a1 ++ b1], cells2 ++ [.slice base7 (a1.length + b1.length) cap7]), by omega, ?_, ?_, ?_⟩
          · repeat' (first | exact sees_nil | refine sees_cons rfl rfl rfl ?_ | refine sees_cons rfl rfl (by rw [← hwk]; rfl) ?_)
          · repeat' (first | exact keeps_nil | refine keeps_cons rfl ?_ | refine keeps_free ?_)
          · refine ⟨View.le_trans hV5 (by repeat (first | exact View.le_refl _ | assumption | exact View.addU_le _ _ _ | refine View.le_trans ?_ (by assumption) | refine View.le_trans ?_ (View.addU_le _ _ _))), hk1, by show _ - (k + 1) = _; omega, ?_, (hca.mono (by repeat (first | exact View.le_refl _ | assumption | exact View.addU_le _ _ _ | refine View.le_trans ?_ (by assumption) | refine View.le_trans ?_ (View.addU_le _ _ _)))).snoc (hrow7.mono (by repeat (first | exact View.le_refl _ | assumption | exact View.addU_le _ _ _ | refine View.le_trans ?_ (by assumption) | refine View.le_trans ?_ (View.addU_le _ _ _)))), hc8⟩
            show out2 ++ [a1 ++ b1] = _
            rw [htk, List.map_append, ← List.append_assoc, ← hout2]; rfl
        · rw [if_neg (by rw [g5]; simp), List.append_nil] at htk
          refine ⟨j2 - 1, (k + 1, base2, cp2, out2, cells2), by omega, ?_, ?_, ?_⟩
          · repeat' (first | exact sees_nil | refine sees_cons rfl rfl rfl ?_ | refine sees_cons rfl rfl (by rw [← hwk]; rfl) ?_)
          · repeat' (first | exact keeps_nil | refine keeps_cons rfl ?_ | refine keeps_free ?_)
          · exact ⟨View.le_trans hV5 (by repeat (first | exact View.le_refl _ | assumption | exact View.addU_le _ _ _ | refine View.le_trans ?_ (by assumption) | refine View.le_trans ?_ (View.addU_le _ _ _))), hk1, by show _ - (k + 1) = _; omega, by show out2 = _; rw [htk]; exact hout2, hca.mono (by repeat (first | exact View.le_refl _ | assumption | exact View.addU_le _ _ _ | refine View.le_trans ?_ (by assumption) | refine View.le_trans ?_ (View.addU_le _ _ _))), hcl.mono (by repeat (first | exact View.le_refl _ | assumption | exact View.addU_le _ _ _ | refine View.le_trans ?_ (by assumption) | refine View.le_trans ?_ (View.addU_le _ _ _)))⟩
      · have hk1 : ¬ k < R.length := by have := of_decide_eq_false g4; omega
        rw [List.take_of_length_le (by omega)] at hout2
        repeat' first
          | (refine br_t rfl ?_; conv => whnf)
          | (refine br_f rfl ?_; conv => whnf)
          | (refine IdxN.lit rfl rfl ?_; conv => whnf)
          | (intro _; conv => whnf)
        refine ⟨j - 1, (i + 1, base2, cp2, out2, cells2), by omega, ?_, ?_, ?_⟩
        · repeat' (first | exact sees_nil | refine sees_cons rfl rfl rfl ?_ | refine sees_cons rfl rfl (by rw [← hwi]; rfl) ?_)
        · repeat' (first | exact keeps_nil | refine keeps_cons rfl ?_ | refine keeps_free ?_)
        · exact ⟨View.le_trans hV hV5, hi1, by show _ - (i + 1) = _; omega, by show out2 = _; rw [hout2, htake, hout], hca, hcl, hln.mono hV5⟩
    · have hi1 : ¬ i < L.length := by have := of_decide_eq_false g3; omega
      rw [List.take_of_length_le (by omega)] at hout
      subst hout
      repeat' first
        | (refine br_t rfl ?_; conv => whnf)
        | (refine br_f rfl ?_; conv => whnf)
        | (refine IdxN.lit rfl rfl ?_; conv => whnf)
        | (intro _; conv => whnf)
      have hlo : (joinX (onX 2 2) L R).length ≤ 9223372036854775807 := by have : i * R.length ≤ 30 * 30 := Nat.mul_le_mul (by omega) (by omega); omega
      refine CallN.pure (pair_spec L R lb rb lc rc p q p2 ln 2 2 2 ⟨txt [110], 1, noText⟩ ⟨txt [110], 1, noText⟩ _ rfl rfl (hln.mono (by repeat (first | exact View.le_refl _ | assumption | exact View.addU_le _ _ _ | refine View.le_trans ?_ (by assumption) | refine View.le_trans ?_ (View.addU_le _ _ _)))) (t2.mono (by repeat (first | exact View.le_refl _ | assumption | exact View.addU_le _ _ _ | refine View.le_trans ?_ (by assumption) | refine View.le_trans ?_ (View.addU_le _ _ _)))) (t3.mono (by repeat (first | exact View.le_refl _ | assumption | exact View.addU_le _ _ _ | refine View.le_trans ?_ (by assumption) | refine View.le_trans ?_ (View.addU_le _ _ _)))) (hL.mono (by repeat (first | exact View.le_refl _ | assumption | exact View.addU_le _ _ _ | refine View.le_trans ?_ (by assumption) | refine View.le_trans ?_ (View.addU_le _ _ _)))) (hR.mono (by repeat (first | exact View.le_refl _ | assumption | exact View.addU_le _ _ _ | refine View.le_trans ?_ (by assumption) | refine View.le_trans ?_ (View.addU_le _ _ _)))) (by omega) (by omega) hcL hcR) fun v V9 _ hV9 ⟨gx, hv, hgx⟩ => ?_
      subst hv
      obtain ⟨gb, gc, hgv, hgp, hgr⟩ := hgx
      subst hgv
      conv => whnf
      repeat' first
        | (refine br_t rfl ?_; conv => whnf)
        | (refine br_f rfl ?_; conv => whnf)
        | (refine IdxN.lit rfl rfl ?_; conv => whnf)
        | (intro _; conv => whnf)
      refine CallN.pure (samerows_spec (joinX (onX 2 2) L R) gb base gc cp _ (hgr.mono (by repeat (first | exact View.le_refl _ | assumption | exact View.addU_le _ _ _ | refine View.le_trans ?_ (by assumption) | refine View.le_trans ?_ (View.addU_le _ _ _)))) (RowsAt.of_cells (hca.mono (by repeat (first | exact View.le_refl _ | assumption | exact View.addU_le _ _ _ | refine View.le_trans ?_ (by assumption) | refine View.le_trans ?_ (View.addU_le _ _ _)))) (hcl.mono (by repeat (first | exact View.le_refl _ | assumption | exact View.addU_le _ _ _ | refine View.le_trans ?_ (by assumption) | refine View.le_trans ?_ (View.addU_le _ _ _)))) hlo)) fun v V10 _ hV10 hv => ?_
      subst hv
      conv => whnf
      repeat' first
        | (refine br_t rfl ?_; conv => whnf)
        | (refine br_f rfl ?_; conv => whnf)
        | (refine IdxN.lit rfl rfl ?_; conv => whnf)
        | (intro _; conv => whnf)
      exact ret_pure rfl
  · subst hM
    repeat' first
      | (refine br_t rfl ?_; conv => whnf)
      | (refine br_f rfl ?_; conv => whnf)
      | (refine IdxN.lit rfl rfl ?_; conv => whnf)
      | (intro _; conv => whnf)
    refine LoadN.of lka.has 2 rfl rfl ?_
    conv => whnf
    repeat' first
      | (refine br_t rfl ?_; conv => whnf)
      | (refine br_f rfl ?_; conv => whnf)
      | (refine IdxN.lit rfl rfl ?_; conv => whnf)
      | (intro _; conv => whnf)
    rename_i lb2 lkb
    refine LoadN.of lkb.has 2 rfl rfl ?_
    conv => whnf
    repeat' first
      | (refine br_t rfl ?_; conv => whnf)
      | (refine br_f rfl ?_; conv => whnf)
      | (refine IdxN.lit rfl rfl ?_; conv => whnf)
      | (intro _; conv => whnf)
    refine LoadN.of (t2.mono (by repeat (first | exact View.le_refl _ | assumption | exact View.addU_le _ _ _ | refine View.le_trans ?_ (by assumption) | refine View.le_trans ?_ (View.addU_le _ _ _)))) 3 rfl rfl ?_
    conv => whnf
    repeat' first
      | (refine br_t rfl ?_; conv => whnf)
      | (refine br_f rfl ?_; conv => whnf)
      | (refine IdxN.lit rfl rfl ?_; conv => whnf)
      | (intro _; conv => whnf)
    refine LoadN.of (t3.mono (by repeat (first | exact View.le_refl _ | assumption | exact View.addU_le _ _ _ | refine View.le_trans ?_ (by assumption) | refine View.le_trans ?_ (View.addU_le _ _ _)))) 0 rfl rfl ?_
    conv => whnf
    repeat' first
      | (refine br_t rfl ?_; conv => whnf)
      | (refine br_f rfl ?_; conv => whnf)
      | (refine IdxN.lit rfl rfl ?_; conv => whnf)
      | (intro _; conv => whnf)
    rename_i ln lkn b14 hb14
    have hln : View.has _ ln 0 (xcells (colN (txt [116]) (⟨txt [118], 2, noText⟩ : ColT).nm) ++ xcells (colN (txt [117]) (⟨txt [107], 2, noText⟩ : ColT).nm)) := lkn.has
    refine loopz (σ := Nat × Option Addr × Nat × List (List Val) × List Value)
      (fun x => [(8, .own 8 0), (9, .own 9 0), (10, .v (.slice lb L.length lc)), (11, .v (.slice rb R.length rc)), (12, .v (.int .i64 (1 : Nat))), (13, .v (.int .i64 (0 : Nat))), (14, .own 14 0), (15, .row 111), (16, .v (.int .i64 x.1))])
      (fun x => [(8, .box b8 27 [.string (txt [116]), .slice (some ⟨p, 0, none⟩) 3 3, .slice (some ⟨q, 0, none⟩) 1 1]), (9, .box b9 27 [.string (txt [117]), .slice (some ⟨p2, 0, none⟩) 3 3, .slice none 0 0]),
        (14, .box b14 70 [.int .i64 6, .string (txt [116]), .string noText, .slice none 0 0, .slice none 0 0, .slice none 0 0, .slice none 0 0, .string (txt [117]), .slice (some ⟨ln, 0, none⟩) 2 2, .slice none 0 0, .slice none 0 0, .bool false, .slice none 0 0]),
        (111, .row (.slice x.2.1 x.2.2.2.1.length x.2.2.1) 45 1 x.2.2.2.1.length)])
      (fun j x V' => V4.le V' ∧ x.1 ≤ L.length ∧ L.length - x.1 = j ∧ x.2.2.2.1 = joinX (onX 1 0) (L.take x.1) R ∧ CellsAt V' x.2.2.2.1 x.2.2.2.2 ∧ V'.cells (.slice x.2.1 x.2.2.2.1.length x.2.2.1) x.2.2.2.2 ∧ V'.has ln 0 (xcells (colN (txt [116]) (⟨txt [118], 2, noText⟩ : ColT).nm) ++ xcells (colN (txt [117]) (⟨txt [107], 2, noText⟩ : ColT).nm)))
      L.length (0, none, 0, [], []) ?_ ?_ ?_ ?_
    · repeat' (first | exact sees_nil | refine sees_cons rfl rfl rfl ?_)
    · repeat' (first | exact keeps_nil | refine keeps_cons rfl ?_ | refine keeps_free ?_)
    · exact ⟨(by repeat (first | exact View.le_refl _ | assumption | exact View.addU_le _ _ _ | refine View.le_trans ?_ (by assumption) | refine View.le_trans ?_ (View.addU_le _ _ _))), Nat.zero_le _, by simp, rfl, CellsAt.nil, rfl, hln⟩
    clear hln lkn lkb lka hb14 hb8 hb9
    rintro j ⟨i, base, cp, out, cells⟩ V' ⟨hV, hi, hj, hout, hca, hcl, hln⟩
    simp only at hi hj hout hca hcl
    have hol : out.length ≤ i * R.length := by
      rw [hout]
      refine Nat.le_trans (joinX_len _ _) (Nat.mul_le_mul_right _ ?_)
      rw [List.length_take]; omega
    conv => whnf
    apply br <;> intro g3 <;> conv => whnf
    · have hi1 : i < L.length := by have := of_decide_eq_true g3; omega
      obtain ⟨a1, ha⟩ : ∃ a, L[i]? = some a := ⟨_, List.getElem?_eq_getElem hi1⟩
      have ham := List.mem_of_getElem? ha
      have hla : a1.length = 3 := (hcL a1 ham).len
      obtain ⟨x, hx⟩ : ∃ x, a1[1]? = some x := ⟨_, List.getElem?_eq_getElem (by omega)⟩
      have htake : joinX (onX 1 0) (L.take (i + 1)) R = joinX (onX 1 0) (L.take i) R ++ (R.filter (onX 1 0 a1)).map (a1 ++ ·) := by
        unfold joinX
        rw [List.take_add_one, ha, List.flatMap_append]
        simp
      obtain ⟨p3, off, cv, hlb, hcell, hrow⟩ := hL.at ha
      obtain ⟨ab, ac, hav, hap, hava⟩ := hrow
      obtain ⟨d9, dof, hb10, hx9⟩ := hava.at hx
      subst hlb; subst hav; subst hb10
      have hwi := wrap_nat (i := i) (by omega)
      repeat' first
        | (refine br_t rfl ?_; conv => whnf)
        | (refine br_f rfl ?_; conv => whnf)
        | (refine IdxN.lit rfl rfl ?_; conv => whnf)
        | (intro _; conv => whnf)
      refine loopz (σ := Nat × Option Addr × Nat × List (List Val) × List Value)
        (fun x => [(8, .own 8 0), (9, .own 9 0), (10, .v (.slice (some ⟨p3, off, none⟩) L.length lc)), (11, .v (.slice rb R.length rc)), (12, .v (.int .i64 (1 : Nat))), (13, .v (.int .i64 (0 : Nat))), (14, .own 14 0), (15, .row 111), (16, .v (.int .i64 i)), (17, .v (.int .i64 x.1))])
        (fun x => [(8, .box b8 27 [.string (txt [116]), .slice (some ⟨p, 0, none⟩) 3 3, .slice (some ⟨q, 0, none⟩) 1 1]), (9, .box b9 27 [.string (txt [117]), .slice (some ⟨p2, 0, none⟩) 3 3, .slice none 0 0]),
          (14, .box b14 70 [.int .i64 6, .string (txt [116]), .string noText, .slice none 0 0, .slice none 0 0, .slice none 0 0, .slice none 0 0, .string (txt [117]), .slice (some ⟨ln, 0, none⟩) 2 2, .slice none 0 0, .slice none 0 0, .bool false, .slice none 0 0]),
          (111, .row (.slice x.2.1 x.2.2.2.1.length x.2.2.1) 45 1 x.2.2.2.1.length)])
        (fun j x V2 => V'.le V2 ∧ x.1 ≤ R.length ∧ R.length - x.1 = j ∧ x.2.2.2.1 = out ++ ((R.take x.1).filter (onX 1 0 a1)).map (a1 ++ ·) ∧ CellsAt V2 x.2.2.2.1 x.2.2.2.2 ∧ V2.cells (.slice x.2.1 x.2.2.2.1.length x.2.2.1) x.2.2.2.2)
        R.length (0, base, cp, out, cells) ?_ ?_ ?_ ?_
      · repeat' (first | exact sees_nil | refine sees_cons rfl rfl rfl ?_)
      · repeat' (first | exact keeps_nil | refine keeps_cons rfl ?_ | refine keeps_free ?_)
      · exact ⟨View.le_refl _, Nat.zero_le _, by simp, by simp, hca, hcl⟩
      clear hca hcl
      rintro j2 ⟨k, base2, cp2, out2, cells2⟩ V5 ⟨hV5, hk, hj2, hout2, hca, hcl⟩
      simp only at hk hj2 hout2 hca hcl
      have hol2 : out2.length ≤ 930 := by
        rw [hout2, List.length_append]
        have h1 := pairs_len (on := onX 1 0) a1 (R.take k)
        have h2 : (R.take k).length ≤ 30 := by rw [List.length_take]; omega
        have h3 : i * R.length ≤ 30 * 30 := Nat.mul_le_mul (by omega) (by omega)
        omega
      conv => whnf
      apply br <;> intro g4 <;> conv => whnf
      · have hk1 : k < R.length := by have := of_decide_eq_true g4; omega
        obtain ⟨b1, hb⟩ : ∃ b, R[k]? = some b := ⟨_, List.getElem?_eq_getElem hk1⟩
        have hbm := List.mem_of_getElem? hb
        have hlb : b1.length = 3 := (hcR b1 hbm).len
        obtain ⟨y, hy⟩ : ∃ x, b1[0]? = some x := ⟨_, List.getElem?_eq_getElem (by omega)⟩
        have hon : onX 1 0 a1 b1 = sameV x y := by rw [onX, hx, hy]
        have htk : (R.take (k + 1)).filter (onX 1 0 a1) = (R.take k).filter (onX 1 0 a1) ++ (if sameV x y then [b1] else []) := by
          rw [List.take_add_one, hb, List.filter_append, ← hon]
          congr 1
          show List.filter (onX 1 0 a1) [b1] = _
          by_cases h : onX 1 0 a1 b1 = true
          · rw [if_pos h]; simp [h]
          · rw [if_neg h]; simp [h]
        obtain ⟨p4, off2, cv2, hrb, hcell2, hrow2⟩ := hR.at hb
        obtain ⟨bb, bc, hbv, hbp, hbva⟩ := hrow2
        obtain ⟨e9, eof, hb11, hy9⟩ := hbva.at hy
        subst hrb; subst hbv; subst hb11
        have hwk := wrap_nat (i := k) (by omega)
        refine IdxN.of (by omega) (by omega) ?_
        conv => whnf
        refine LoadN.of (hcell.mono (by repeat (first | exact View.le_refl _ | assumption | exact View.addU_le _ _ _ | refine View.le_trans ?_ (by assumption) | refine View.le_trans ?_ (View.addU_le _ _ _)))) 0 (by show off + i * 1 = off + i + 0; omega) rfl ?_
        conv => whnf
        refine IdxN.of (by decide) (by omega) ?_
        conv => whnf
        refine LoadN.of (hx9.mono (by repeat (first | exact View.le_refl _ | assumption | exact View.addU_le _ _ _ | refine View.le_trans ?_ (by assumption) | refine View.le_trans ?_ (View.addU_le _ _ _)))) 0 rfl rfl ?_
        conv => whnf
        refine IdxN.of (by omega) (by omega) ?_
        conv => whnf
        refine LoadN.of (hcell2.mono (by repeat (first | exact View.le_refl _ | assumption | exact View.addU_le _ _ _ | refine View.le_trans ?_ (by assumption) | refine View.le_trans ?_ (View.addU_le _ _ _)))) 0 (by show off2 + k * 1 = off2 + k + 0; omega) rfl ?_
        conv => whnf
        refine IdxN.of (by decide) (by omega) ?_
        conv => whnf
        refine LoadN.of (hy9.mono (by repeat (first | exact View.le_refl _ | assumption | exact View.addU_le _ _ _ | refine View.le_trans ?_ (by assumption) | refine View.le_trans ?_ (View.addU_le _ _ _)))) 0 rfl rfl ?_
        conv => whnf
        refine ⟨⟨_, eqv_run _ _ _ _, ?_⟩⟩
        conv => whnf
        apply br <;> intro g5 <;> conv => whnf
        · rw [if_pos g5] at htk
          refine IdxN.of (by omega) (by omega) ?_
          conv => whnf
          refine LoadN.of (hcell.mono (by repeat (first | exact View.le_refl _ | assumption | exact View.addU_le _ _ _ | refine View.le_trans ?_ (by assumption) | refine View.le_trans ?_ (View.addU_le _ _ _)))) 0 (by show off + i * 1 = off + i + 0; omega) rfl ?_
          conv => whnf
          refine IdxN.of (by omega) (by omega) ?_
          conv => whnf
          refine LoadN.of (hcell2.mono (by repeat (first | exact View.le_refl _ | assumption | exact View.addU_le _ _ _ | refine View.le_trans ?_ (by assumption) | refine View.le_trans ?_ (View.addU_le _ _ _)))) 0 (by show off2 + k * 1 = off2 + k + 0; omega) rfl ?_
          conv => whnf
          repeat' first
            | (refine br_t rfl ?_; conv => whnf)
            | (refine br_f rfl ?_; conv => whnf)
            | (refine IdxN.lit rfl rfl ?_; conv => whnf)
            | (intro _; conv => whnf)
          refine AppN.toR a1.length (Nat.zero_add _) [] (a1.flatMap vcells) (fun i v hv => by simp at hv) rfl (row_news hap (hava.mono (by repeat (first | exact View.le_refl _ | assumption | exact View.addU_le _ _ _ | refine View.le_trans ?_ (by assumption) | refine View.le_trans ?_ (View.addU_le _ _ _))))) (flat_len (f := vcells) (n := 3) (fun _ => rfl) _) (allOne_flat a1) (by omega) (by decide) fun base6 cap6 V6 hV6 hc6 _ => ?_
          conv => whnf
          refine AppN.toR (a1.length + b1.length) rfl (a1.flatMap vcells) (b1.flatMap vcells) hc6 (flat_len (f := vcells) (n := 3) (fun _ => rfl) _) (row_news hbp (hbva.mono (by repeat (first | exact View.le_refl _ | assumption | exact View.addU_le _ _ _ | refine View.le_trans ?_ (by assumption) | refine View.le_trans ?_ (View.addU_le _ _ _))))) (flat_len (f := vcells) (n := 3) (fun _ => rfl) _) (allOne_flat b1) (by omega) (by decide) fun base7 cap7 V7 hV7 hc7 _ => ?_
          conv => whnf
          have hc7 : V7.cells (.slice base7 (a1 ++ b1).length cap7) ((a1 ++ b1).flatMap vcells) := by rw [List.length_append, List.flatMap_append]; exact hc7
          have hrow7 : RowAt V7 (a1 ++ b1) (.slice base7 (a1.length + b1.length) cap7) := ⟨base7, cap7, by rw [List.length_append], .inr (plain_cells hc7), ValsAt.of_cells hc7 (by rw [List.length_append]; omega)⟩
          repeat' first
            | (refine br_t rfl ?_; conv => whnf)
            | (refine br_f rfl ?_; conv => whnf)
            | (refine IdxN.lit rfl rfl ?_; conv => whnf)
            | (intro _; conv => whnf)
          rename_i l1 lk1
          refine AppN.to (out2 ++ [a1 ++ b1]).length (by simp) cells2 [.slice base7 (a1.length + b1.length) cap7] (hcl.mono (by repeat (first | exact View.le_refl _ | assumption | exact View.addU_le _ _ _ | refine View.le_trans ?_ (by assumption) | refine View.le_trans ?_ (View.addU_le _ _ _)))) (by rw [hca.len]; exact (Nat.mul_one _).symm) lk1.has rfl rfl (by simp only [List.length_append, List.length_cons, List.length_nil]; omega) (by decide) fun base' cap' V8 hV8 hc8 => ?_
          conv => whnf
          refine ⟨j2 - 1, (k + 1, base', cap', out2 ++ [a1 ++ b1], cells2 ++ [.slice base7 (a1.length + b1.length) cap7]), by omega, ?_, ?_, ?_⟩
          · repeat' (first | exact sees_nil | refine sees_cons rfl rfl rfl ?_ | refine sees_cons rfl rfl (by rw [← hwk]; rfl) ?_)
          · repeat' (first | exact keeps_nil | refine keeps_cons rfl ?_ | refine keeps_free ?_)
          · refine ⟨View.le_trans hV5 (by repeat (first | exact View.le_refl _ | assumption | exact View.addU_le _ _ _ | refine View.le_trans ?_ (by assumption) | refine View.le_trans ?_ (View.addU_le _ _ _))), hk1, by show _ - (k + 1) = _; omega, ?_, (hca.mono (by repeat (first | exact View.le_refl _ | assumption | exact View.addU_le _ _ _ | refine View.le_trans ?_ (by assumption) | refine View.le_trans ?_ (View.addU_le _ _ _)))).snoc (hrow7.mono (by repeat (first | exact View.le_refl _ | assumption | exact View.addU_le _ _ _ | refine View.le_trans ?_ (by assumption) | refine View.le_trans ?_ (View.addU_le _ _ _)))), hc8⟩
            show out2 ++ [a1 ++ b1] = _
            rw [htk, List.map_append, ← List.append_assoc, ← hout2]; rfl
        · rw [if_neg (by rw [g5]; simp), List.append_nil] at htk
          refine ⟨j2 - 1, (k + 1, base2, cp2, out2, cells2), by omega, ?_, ?_, ?_⟩
          · repeat' (first | exact sees_nil | refine sees_cons rfl rfl rfl ?_ | refine sees_cons rfl rfl (by rw [← hwk]; rfl) ?_)
          · repeat' (first | exact keeps_nil | refine keeps_cons rfl ?_ | refine keeps_free ?_)
          · exact ⟨View.le_trans hV5 (by repeat (first | exact View.le_refl _ | assumption | exact View.addU_le _ _ _ | refine View.le_trans ?_ (by assumption) | refine View.le_trans ?_ (View.addU_le _ _ _))), hk1, by show _ - (k + 1) = _; omega, by show out2 = _; rw [htk]; exact hout2, hca.mono (by repeat (first | exact View.le_refl _ | assumption | exact View.addU_le _ _ _ | refine View.le_trans ?_ (by assumption) | refine View.le_trans ?_ (View.addU_le _ _ _))), hcl.mono (by repeat (first | exact View.le_refl _ | assumption | exact View.addU_le _ _ _ | refine View.le_trans ?_ (by assumption) | refine View.le_trans ?_ (View.addU_le _ _ _)))⟩
      · have hk1 : ¬ k < R.length := by have := of_decide_eq_false g4; omega
        rw [List.take_of_length_le (by omega)] at hout2
        repeat' first
          | (refine br_t rfl ?_; conv => whnf)
          | (refine br_f rfl ?_; conv => whnf)
          | (refine IdxN.lit rfl rfl ?_; conv => whnf)
          | (intro _; conv => whnf)
        refine ⟨j - 1, (i + 1, base2, cp2, out2, cells2), by omega, ?_, ?_, ?_⟩
        · repeat' (first | exact sees_nil | refine sees_cons rfl rfl rfl ?_ | refine sees_cons rfl rfl (by rw [← hwi]; rfl) ?_)
        · repeat' (first | exact keeps_nil | refine keeps_cons rfl ?_ | refine keeps_free ?_)
        · exact ⟨View.le_trans hV hV5, hi1, by show _ - (i + 1) = _; omega, by show out2 = _; rw [hout2, htake, hout], hca, hcl, hln.mono hV5⟩
    · have hi1 : ¬ i < L.length := by have := of_decide_eq_false g3; omega
      rw [List.take_of_length_le (by omega)] at hout
      subst hout
      repeat' first
        | (refine br_t rfl ?_; conv => whnf)
        | (refine br_f rfl ?_; conv => whnf)
        | (refine IdxN.lit rfl rfl ?_; conv => whnf)
        | (intro _; conv => whnf)
      have hlo : (joinX (onX 1 0) L R).length ≤ 9223372036854775807 := by have : i * R.length ≤ 30 * 30 := Nat.mul_le_mul (by omega) (by omega); omega
      refine CallN.pure (pair_spec L R lb rb lc rc p q p2 ln 2 1 0 ⟨txt [118], 2, noText⟩ ⟨txt [107], 2, noText⟩ _ rfl rfl (hln.mono (by repeat (first | exact View.le_refl _ | assumption | exact View.addU_le _ _ _ | refine View.le_trans ?_ (by assumption) | refine View.le_trans ?_ (View.addU_le _ _ _)))) (t2.mono (by repeat (first | exact View.le_refl _ | assumption | exact View.addU_le _ _ _ | refine View.le_trans ?_ (by assumption) | refine View.le_trans ?_ (View.addU_le _ _ _)))) (t3.mono (by repeat (first | exact View.le_refl _ | assumption | exact View.addU_le _ _ _ | refine View.le_trans ?_ (by assumption) | refine View.le_trans ?_ (View.addU_le _ _ _)))) (hL.mono (by repeat (first | exact View.le_refl _ | assumption | exact View.addU_le _ _ _ | refine View.le_trans ?_ (by assumption) | refine View.le_trans ?_ (View.addU_le _ _ _)))) (hR.mono (by repeat (first | exact View.le_refl _ | assumption | exact View.addU_le _ _ _ | refine View.le_trans ?_ (by assumption) | refine View.le_trans ?_ (View.addU_le _ _ _)))) (by omega) (by omega) hcL hcR) fun v V9 _ hV9 ⟨gx, hv, hgx⟩ => ?_
      subst hv
      obtain ⟨gb, gc, hgv, hgp, hgr⟩ := hgx
      subst hgv
      conv => whnf
      repeat' first
        | (refine br_t rfl ?_; conv => whnf)
        | (refine br_f rfl ?_; conv => whnf)
        | (refine IdxN.lit rfl rfl ?_; conv => whnf)
        | (intro _; conv => whnf)
      refine CallN.pure (samerows_spec (joinX (onX 1 0) L R) gb base gc cp _ (hgr.mono (by repeat (first | exact View.le_refl _ | assumption | exact View.addU_le _ _ _ | refine View.le_trans ?_ (by assumption) | refine View.le_trans ?_ (View.addU_le _ _ _)))) (RowsAt.of_cells (hca.mono (by repeat (first | exact View.le_refl _ | assumption | exact View.addU_le _ _ _ | refine View.le_trans ?_ (by assumption) | refine View.le_trans ?_ (View.addU_le _ _ _)))) (hcl.mono (by repeat (first | exact View.le_refl _ | assumption | exact View.addU_le _ _ _ | refine View.le_trans ?_ (by assumption) | refine View.le_trans ?_ (View.addU_le _ _ _)))) hlo)) fun v V10 _ hV10 hv => ?_
      subst hv
      conv => whnf
      repeat' first
        | (refine br_t rfl ?_; conv => whnf)
        | (refine br_f rfl ?_; conv => whnf)
        | (refine IdxN.lit rfl rfl ?_; conv => whnf)
        | (intro _; conv => whnf)
      exact ret_pure rfl
  · subst hM
    repeat' first
      | (refine br_t rfl ?_; conv => whnf)
      | (refine br_f rfl ?_; conv => whnf)
      | (refine IdxN.lit rfl rfl ?_; conv => whnf)
      | (intro _; conv => whnf)
    refine LoadN.of lka.has 3 rfl rfl ?_
    conv => whnf
    repeat' first
      | (refine br_t rfl ?_; conv => whnf)
      | (refine br_f rfl ?_; conv => whnf)
      | (refine IdxN.lit rfl rfl ?_; conv => whnf)
      | (intro _; conv => whnf)
    rename_i lb2 lkb
    refine LoadN.of lkb.has 3 rfl rfl ?_
    conv => whnf
    repeat' first
      | (refine br_t rfl ?_; conv => whnf)
      | (refine br_f rfl ?_; conv => whnf)
      | (refine IdxN.lit rfl rfl ?_; conv => whnf)
      | (intro _; conv => whnf)
    refine LoadN.of (t2.mono (by repeat (first | exact View.le_refl _ | assumption | exact View.addU_le _ _ _ | refine View.le_trans ?_ (by assumption) | refine View.le_trans ?_ (View.addU_le _ _ _)))) 0 rfl rfl ?_
    conv => whnf
    repeat' first
      | (refine br_t rfl ?_; conv => whnf)
      | (refine br_f rfl ?_; conv => whnf)
      | (refine IdxN.lit rfl rfl ?_; conv => whnf)
      | (intro _; conv => whnf)
    refine LoadN.of (t3.mono (by repeat (first | exact View.le_refl _ | assumption | exact View.addU_le _ _ _ | refine View.le_trans ?_ (by assumption) | refine View.le_trans ?_ (View.addU_le _ _ _)))) 6 rfl rfl ?_
    conv => whnf
    repeat' first
      | (refine br_t rfl ?_; conv => whnf)
      | (refine br_f rfl ?_; conv => whnf)
      | (refine IdxN.lit rfl rfl ?_; conv => whnf)
      | (intro _; conv => whnf)
    rename_i ln lkn b14 hb14
    have hln : View.has _ ln 0 (xcells (colN (txt [116]) (⟨txt [107], 1, noText⟩ : ColT).nm) ++ xcells (colN (txt [117]) (⟨txt [110], 1, noText⟩ : ColT).nm)) := lkn.has
    refine loopz (σ := Nat × Option Addr × Nat × List (List Val) × List Value)
      (fun x => [(8, .own 8 0), (9, .own 9 0), (10, .v (.slice lb L.length lc)), (11, .v (.slice rb R.length rc)), (12, .v (.int .i64 (0 : Nat))), (13, .v (.int .i64 (2 : Nat))), (14, .own 14 0), (15, .row 111), (16, .v (.int .i64 x.1))])
      (fun x => [(8, .box b8 27 [.string (txt [116]), .slice (some ⟨p, 0, none⟩) 3 3, .slice (some ⟨q, 0, none⟩) 1 1]), (9, .box b9 27 [.string (txt [117]), .slice (some ⟨p2, 0, none⟩) 3 3, .slice none 0 0]),
        (14, .box b14 70 [.int .i64 6, .string (txt [116]), .string noText, .slice none 0 0, .slice none 0 0, .slice none 0 0, .slice none 0 0, .string (txt [117]), .slice (some ⟨ln, 0, none⟩) 2 2, .slice none 0 0, .slice none 0 0, .bool false, .slice none 0 0]),
        (111, .row (.slice x.2.1 x.2.2.2.1.length x.2.2.1) 45 1 x.2.2.2.1.length)])
      (fun j x V' => V4.le V' ∧ x.1 ≤ L.length ∧ L.length - x.1 = j ∧ x.2.2.2.1 = joinX (onX 0 2) (L.take x.1) R ∧ CellsAt V' x.2.2.2.1 x.2.2.2.2 ∧ V'.cells (.slice x.2.1 x.2.2.2.1.length x.2.2.1) x.2.2.2.2 ∧ V'.has ln 0 (xcells (colN (txt [116]) (⟨txt [107], 1, noText⟩ : ColT).nm) ++ xcells (colN (txt [117]) (⟨txt [110], 1, noText⟩ : ColT).nm)))
      L.length (0, none, 0, [], []) ?_ ?_ ?_ ?_
    · repeat' (first | exact sees_nil | refine sees_cons rfl rfl rfl ?_)
    · repeat' (first | exact keeps_nil | refine keeps_cons rfl ?_ | refine keeps_free ?_)
    · exact ⟨(by repeat (first | exact View.le_refl _ | assumption | exact View.addU_le _ _ _ | refine View.le_trans ?_ (by assumption) | refine View.le_trans ?_ (View.addU_le _ _ _))), Nat.zero_le _, by simp, rfl, CellsAt.nil, rfl, hln⟩
    clear hln lkn lkb lka hb14 hb8 hb9
    rintro j ⟨i, base, cp, out, cells⟩ V' ⟨hV, hi, hj, hout, hca, hcl, hln⟩
    simp only at hi hj hout hca hcl
    have hol : out.length ≤ i * R.length := by
      rw [hout]
      refine Nat.le_trans (joinX_len _ _) (Nat.mul_le_mul_right _ ?_)
      rw [List.length_take]; omega
    conv => whnf
    apply br <;> intro g3 <;> conv => whnf
    · have hi1 : i < L.length := by have := of_decide_eq_true g3; omega
      obtain ⟨a1, ha⟩ : ∃ a, L[i]? = some a := ⟨_, List.getElem?_eq_getElem hi1⟩
      have ham := List.mem_of_getElem? ha
      have hla : a1.length = 3 := (hcL a1 ham).len
      obtain ⟨x, hx⟩ : ∃ x, a1[0]? = some x := ⟨_, List.getElem?_eq_getElem (by omega)⟩
      have htake : joinX (onX 0 2) (L.take (i + 1)) R = joinX (onX 0 2) (L.take i) R ++ (R.filter (onX 0 2 a1)).map (a1 ++ ·) := by
        unfold joinX
        rw [List.take_add_one, ha, List.flatMap_append]
        simp
      obtain ⟨p3, off, cv, hlb, hcell, hrow⟩ := hL.at ha
      obtain ⟨ab, ac, hav, hap, hava⟩ := hrow
      obtain ⟨d9, dof, hb10, hx9⟩ := hava.at hx
      subst hlb; subst hav; subst hb10
      have hwi := wrap_nat (i := i) (by omega)
      repeat' first
        | (refine br_t rfl ?_; conv => whnf)
        | (refine br_f rfl ?_; conv => whnf)
        | (refine IdxN.lit rfl rfl ?_; conv => whnf)
        | (intro _; conv => whnf)
      refine loopz (σ := Nat × Option Addr × Nat × List (List Val) × List Value)
        (fun x => [(8, .own 8 0), (9, .own 9 0), (10, .v (.slice (some ⟨p3, off, none⟩) L.length lc)), (11, .v (.slice rb R.length rc)), (12, .v (.int .i64 (0 : Nat))), (13, .v (.int .i64 (2 : Nat))), (14, .own 14 0), (15, .row 111), (16, .v (.int .i64 i)), (17, .v (.int .i64 x.1))])
        (fun x => [(8, .box b8 27 [.string (txt [116]), .slice (some ⟨p, 0, none⟩) 3 3, .slice (some ⟨q, 0, none⟩) 1 1]), (9, .box b9 27 [.string (txt [117]), .slice (some ⟨p2, 0, none⟩) 3 3, .slice none 0 0]),
          (14, .box b14 70 [.int .i64 6, .string (txt [116]), .string noText, .slice none 0 0, .slice none 0 0, .slice none 0 0, .slice none 0 0, .string (txt [117]), .slice (some ⟨ln, 0, none⟩) 2 2, .slice none 0 0, .slice none 0 0, .bool false, .slice none 0 0]),
          (111, .row (.slice x.2.1 x.2.2.2.1.length x.2.2.1) 45 1 x.2.2.2.1.length)])
        (fun j x V2 => V'.le V2 ∧ x.1 ≤ R.length ∧ R.length - x.1 = j ∧ x.2.2.2.1 = out ++ ((R.take x.1).filter (onX 0 2 a1)).map (a1 ++ ·) ∧ CellsAt V2 x.2.2.2.1 x.2.2.2.2 ∧ V2.cells (.slice x.2.1 x.2.2.2.1.length x.2.2.1) x.2.2.2.2)
        R.length (0, base, cp, out, cells) ?_ ?_ ?_ ?_
      · repeat' (first | exact sees_nil | refine sees_cons rfl rfl rfl ?_)
      · repeat' (first | exact keeps_nil | refine keeps_cons rfl ?_ | refine keeps_free ?_)
      · exact ⟨View.le_refl _, Nat.zero_le _, by simp, by simp, hca, hcl⟩
      clear hca hcl
      rintro j2 ⟨k, base2, cp2, out2, cells2⟩ V5 ⟨hV5, hk, hj2, hout2, hca, hcl⟩
      simp only at hk hj2 hout2 hca hcl
      have hol2 : out2.length ≤ 930 := by
        rw [hout2, List.length_append]
        have h1 := pairs_len (on := onX 0 2) a1 (R.take k)
        have h2 : (R.take k).length ≤ 30 := by rw [List.length_take]; omega
        have h3 : i * R.length ≤ 30 * 30 := Nat.mul_le_mul (by omega) (by omega)
        omega
      conv => whnf
      apply br <;> intro g4 <;> conv => whnf
      · have hk1 : k < R.length := by have := of_decide_eq_true g4; omega
        obtain ⟨b1, hb⟩ : ∃ b, R[k]? = some b := ⟨_, List.getElem?_eq_getElem hk1⟩
        have hbm := List.mem_of_getElem? hb
        have hlb : b1.length = 3 := (hcR b1 hbm).len
        obtain ⟨y, hy⟩ : ∃ x, b1[2]? = some x := ⟨_, List.getElem?_eq_getElem (by omega)⟩
        have hon : onX 0 2 a1 b1 = sameV x y := by rw [onX, hx, hy]
        have htk : (R.take (k + 1)).filter (onX 0 2 a1) = (R.take k).filter (onX 0 2 a1) ++ (if sameV x y then [b1] else []) := by
          rw [List.take_add_one, hb, List.filter_append, ← hon]
          congr 1
          show List.filter (onX 0 2 a1) [b1] = _
          by_cases h : onX 0 2 a1 b1 = true
          · rw [if_pos h]; simp [h]
          · rw [if_neg h]; simp [h]
        obtain ⟨p4, off2, cv2, hrb, hcell2, hrow2⟩ := hR.at hb
        obtain ⟨bb, bc, hbv, hbp, hbva⟩ := hrow2
        obtain ⟨e9, eof, hb11, hy9⟩ := hbva.at hy
        subst hrb; subst hbv; subst hb11
        have hwk := wrap_nat (i := k) (by omega)
        refine IdxN.of (by omega) (by omega) ?_
        conv => whnf
        refine LoadN.of (hcell.mono (by repeat (first | exact View.le_refl _ | assumption | exact View.addU_le _ _ _ | refine View.le_trans ?_ (by assumption) | refine View.le_trans ?_ (View.addU_le _ _ _)))) 0 (by show off + i * 1 = off + i + 0; omega) rfl ?_
        conv => whnf
        refine IdxN.of (by decide) (by omega) ?_
        conv => whnf
        refine LoadN.of (hx9.mono (by repeat (first | exact View.le_refl _ | assumption | exact View.addU_le _ _ _ | refine View.le_trans ?_ (by assumption) | refine View.le_trans ?_ (View.addU_le _ _ _)))) 0 rfl rfl ?_
        conv => whnf
        refine IdxN.of (by omega) (by omega) ?_
        conv => whnf
        refine LoadN.of (hcell2.mono (by repeat (first | exact View.le_refl _ | assumption | exact View.addU_le _ _ _ | refine View.le_trans ?_ (by assumption) | refine View.le_trans ?_ (View.addU_le _ _ _)))) 0 (by show off2 + k * 1 = off2 + k + 0; omega) rfl ?_
        conv => whnf
        refine IdxN.of (by decide) (by omega) ?_
        conv => whnf
        refine LoadN.of (hy9.mono (by repeat (first | exact View.le_refl _ | assumption | exact View.addU_le _ _ _ | refine View.le_trans ?_ (by assumption) | refine View.le_trans ?_ (View.addU_le _ _ _)))) 0 rfl rfl ?_
        conv => whnf
        refine ⟨⟨_, eqv_run _ _ _ _, ?_⟩⟩
        conv => whnf
        apply br <;> intro g5 <;> conv => whnf
        · rw [if_pos g5] at htk
          refine IdxN.of (by omega) (by omega) ?_
          conv => whnf
          refine LoadN.of (hcell.mono (by repeat (first | exact View.le_refl _ | assumption | exact View.addU_le _ _ _ | refine View.le_trans ?_ (by assumption) | refine View.le_trans ?_ (View.addU_le _ _ _)))) 0 (by show off + i * 1 = off + i + 0; omega) rfl ?_
          conv => whnf
          refine IdxN.of (by omega) (by omega) ?_
          conv => whnf
          refine LoadN.of (hcell2.mono (by repeat (first | exact View.le_refl _ | assumption | exact View.addU_le _ _ _ | refine View.le_trans ?_ (by assumption) | refine View.le_trans ?_ (View.addU_le _ _ _)))) 0 (by show off2 + k * 1 = off2 + k + 0; omega) rfl ?_
          conv => whnf
          repeat' first
            | (refine br_t rfl ?_; conv => whnf)
            | (refine br_f rfl ?_; conv => whnf)
            | (refine IdxN.lit rfl rfl ?_; conv => whnf)
            | (intro _; conv => whnf)
          refine AppN.toR a1.length (Nat.zero_add _) [] (a1.flatMap vcells) (fun i v hv => by simp at hv) rfl (row_news hap (hava.mono (by repeat (first | exact View.le_refl _ | assumption | exact View.addU_le _ _ _ | refine View.le_trans ?_ (by assumption) | refine View.le_trans ?_ (View.addU_le _ _ _))))) (flat_len (f := vcells) (n := 3) (fun _ => rfl) _) (allOne_flat a1) (by omega) (by decide) fun base6 cap6 V6 hV6 hc6 _ => ?_
          conv => whnf
          refine AppN.toR (a1.length + b1.length) rfl (a1.flatMap vcells) (b1.flatMap vcells) hc6 (flat_len (f := vcells) (n := 3) (fun _ => rfl) _) (row_news hbp (hbva.mono (by repeat (first | exact View.le_refl _ | assumption | exact View.addU_le _ _ _ | refine View.le_trans ?_ (by assumption) | refine View.le_trans ?_ (View.addU_le _ _ _))))) (flat_len (f := vcells) (n := 3) (fun _ => rfl) _) (allOne_flat b1) (by omega) (by decide) fun base7 cap7 V7 hV7 hc7 _ => ?_
          conv => whnf
          have hc7 : V7.cells (.slice base7 (a1 ++ b1).length cap7) ((a1 ++ b1).flatMap vcells) := by rw [List.length_append, List.flatMap_append]; exact hc7
          have hrow7 : RowAt V7 (a1 ++ b1) (.slice base7 (a1.length + b1.length) cap7) := ⟨base7, cap7, by rw [List.length_append], .inr (plain_cells hc7), ValsAt.of_cells hc7 (by rw [List.length_append]; omega)⟩
          repeat' first
            | (refine br_t rfl ?_; conv => whnf)
            | (refine br_f rfl ?_; conv => whnf)
            | (refine IdxN.lit rfl rfl ?_; conv => whnf)
            | (intro _; conv => whnf)
          rename_i l1 lk1
          refine AppN.to (out2 ++ [a1 ++ b1]).length (by simp) cells2 [.slice base7 (a1.length + b1.length) cap7] (hcl.mono (by repeat (first | exact View.le_refl _ | assumption | exact View.addU_le _ _ _ | refine View.le_trans ?_ (by assumption) | refine View.le_trans ?_ (View.addU_le _ _ _)))) (by rw [hca.len]; exact (Nat.mul_one _).symm) lk1.has rfl rfl (by simp only [List.length_append, List.length_cons, List.length_nil]; omega) (by decide) fun base' cap' V8 hV8 hc8 => ?_
          conv => whnf
          refine ⟨j2 - 1, (k + 1, base', cap', out2 ++ [a1 ++ b1], cells2 ++ [.slice base7 (a1.length + b1.length) cap7]), by omega, ?_, ?_, ?_⟩
          · repeat' (first | exact sees_nil | refine sees_cons rfl rfl rfl ?_ | refine sees_cons rfl rfl (by rw [← hwk]; rfl) ?_)
          · repeat' (first | exact keeps_nil | refine keeps_cons rfl ?_ | refine keeps_free ?_)
          · refine ⟨View.le_trans hV5 (by repeat (first | exact View.le_refl _ | assumption | exact View.addU_le _ _ _ | refine View.le_trans ?_ (by assumption) | refine View.le_trans ?_ (View.addU_le _ _ _))), hk1, by show _ - (k + 1) = _; omega, ?_, (hca.mono (by repeat (first | exact View.le_refl _ | assumption | exact View.addU_le _ _ _ | refine View.le_trans ?_ (by assumption) | refine View.le_trans ?_ (View.addU_le _ _ _)))).snoc (hrow7.mono (by repeat (first | exact View.le_refl _ | assumption | exact View.addU_le _ _ _ | refine View.le_trans ?_ (by assumption) | refine View.le_trans ?_ (View.addU_le _ _ _)))), hc8⟩
            show out2 ++ [a1 ++ b1] = _
            rw [htk, List.map_append, ← List.append_assoc, ← hout2]; rfl
        · rw [if_neg (by rw [g5]; simp), List.append_nil] at htk
          refine ⟨j2 - 1, (k + 1, base2, cp2, out2, cells2), by omega, ?_, ?_, ?_⟩
          · repeat' (first | exact sees_nil | refine sees_cons rfl rfl rfl ?_ | refine sees_cons rfl rfl (by rw [← hwk]; rfl) ?_)
          · repeat' (first | exact keeps_nil | refine keeps_cons rfl ?_ | refine keeps_free ?_)
          · exact ⟨View.le_trans hV5 (by repeat (first | exact View.le_refl _ | assumption | exact View.addU_le _ _ _ | refine View.le_trans ?_ (by assumption) | refine View.le_trans ?_ (View.addU_le _ _ _))), hk1, by show _ - (k + 1) = _; omega, by show out2 = _; rw [htk]; exact hout2, hca.mono (by repeat (first | exact View.le_refl _ | assumption | exact View.addU_le _ _ _ | refine View.le_trans ?_ (by assumption) | refine View.le_trans ?_ (View.addU_le _ _ _))), hcl.mono (by repeat (first | exact View.le_refl _ | assumption | exact View.addU_le _ _ _ | refine View.le_trans ?_ (by assumption) | refine View.le_trans ?_ (View.addU_le _ _ _)))⟩
      · have hk1 : ¬ k < R.length := by have := of_decide_eq_false g4; omega
        rw [List.take_of_length_le (by omega)] at hout2
        repeat' first
          | (refine br_t rfl ?_; conv => whnf)
          | (refine br_f rfl ?_; conv => whnf)
          | (refine IdxN.lit rfl rfl ?_; conv => whnf)
          | (intro _; conv => whnf)
        refine ⟨j - 1, (i + 1, base2, cp2, out2, cells2), by omega, ?_, ?_, ?_⟩
        · repeat' (first | exact sees_nil | refine sees_cons rfl rfl rfl ?_ | refine sees_cons rfl rfl (by rw [← hwi]; rfl) ?_)
        · repeat' (first | exact keeps_nil | refine keeps_cons rfl ?_ | refine keeps_free ?_)
        · exact ⟨View.le_trans hV hV5, hi1, by show _ - (i + 1) = _; omega, by show out2 = _; rw [hout2, htake, hout], hca, hcl, hln.mono hV5⟩
    · have hi1 : ¬ i < L.length := by have := of_decide_eq_false g3; omega
      rw [List.take_of_length_le (by omega)] at hout
      subst hout
      repeat' first
        | (refine br_t rfl ?_; conv => whnf)
        | (refine br_f rfl ?_; conv => whnf)
        | (refine IdxN.lit rfl rfl ?_; conv => whnf)
        | (intro _; conv => whnf)
      have hlo : (joinX (onX 0 2) L R).length ≤ 9223372036854775807 := by have : i * R.length ≤ 30 * 30 := Nat.mul_le_mul (by omega) (by omega); omega
      refine CallN.pure (pair_spec L R lb rb lc rc p q p2 ln 2 0 2 ⟨txt [107], 1, noText⟩ ⟨txt [110], 1, noText⟩ _ rfl rfl (hln.mono (by repeat (first | exact View.le_refl _ | assumption | exact View.addU_le _ _ _ | refine View.le_trans ?_ (by assumption) | refine View.le_trans ?_ (View.addU_le _ _ _)))) (t2.mono (by repeat (first | exact View.le_refl _ | assumption | exact View.addU_le _ _ _ | refine View.le_trans ?_ (by assumption) | refine View.le_trans ?_ (View.addU_le _ _ _)))) (t3.mono (by repeat (first | exact View.le_refl _ | assumption | exact View.addU_le _ _ _ | refine View.le_trans ?_ (by assumption) | refine View.le_trans ?_ (View.addU_le _ _ _)))) (hL.mono (by repeat (first | exact View.le_refl _ | assumption | exact View.addU_le _ _ _ | refine View.le_trans ?_ (by assumption) | refine View.le_trans ?_ (View.addU_le _ _ _)))) (hR.mono (by repeat (first | exact View.le_refl _ | assumption | exact View.addU_le _ _ _ | refine View.le_trans ?_ (by assumption) | refine View.le_trans ?_ (View.addU_le _ _ _)))) (by omega) (by omega) hcL hcR) fun v V9 _ hV9 ⟨gx, hv, hgx⟩ => ?_
      subst hv
      obtain ⟨gb, gc, hgv, hgp, hgr⟩ := hgx
      subst hgv
      conv => whnf
      repeat' first
        | (refine br_t rfl ?_; conv => whnf)
        | (refine br_f rfl ?_; conv => whnf)
        | (refine IdxN.lit rfl rfl ?_; conv => whnf)
        | (intro _; conv => whnf)
      refine CallN.pure (samerows_spec (joinX (onX 0 2) L R) gb base gc cp _ (hgr.mono (by repeat (first | exact View.le_refl _ | assumption | exact View.addU_le _ _ _ | refine View.le_trans ?_ (by assumption) | refine View.le_trans ?_ (View.addU_le _ _ _)))) (RowsAt.of_cells (hca.mono (by repeat (first | exact View.le_refl _ | assumption | exact View.addU_le _ _ _ | refine View.le_trans ?_ (by assumption) | refine View.le_trans ?_ (View.addU_le _ _ _)))) (hcl.mono (by repeat (first | exact View.le_refl _ | assumption | exact View.addU_le _ _ _ | refine View.le_trans ?_ (by assumption) | refine View.le_trans ?_ (View.addU_le _ _ _)))) hlo)) fun v V10 _ hV10 hv => ?_
      subst hv
      conv => whnf
      repeat' first
        | (refine br_t rfl ?_; conv => whnf)
        | (refine br_f rfl ?_; conv => whnf)
        | (refine IdxN.lit rfl rfl ?_; conv => whnf)
        | (intro _; conv => whnf)
      exact ret_pure rfl
end Go.Proofs.Ytenpginanhnkbaa
end
