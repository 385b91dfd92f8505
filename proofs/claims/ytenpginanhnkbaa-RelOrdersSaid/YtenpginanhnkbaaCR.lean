/- One part of a proof: an evaluator of the model, shown right, and contracts that it yields. No condition beyond those that each theorem names. -/
import Derived.Test.YtenpginanhnkbaaCQ
section
set_option linter.unusedSimpArgs false
set_option linter.unusedVariables false
namespace Go.Proofs.Ytenpginanhnkbaa
open Go.X Go.Sort
set_option maxRecDepth 100000

/-- a row that is handed over as an own box, to be written -/
theorem Does.toBox {P : Program} {f : FuncId} {args : List Value} {V : View} {R : Value → View → List Res → Prop} {Q : Value → List Res → Prop} (h : Does P f args V [] R)
    (hR : ∀ v V' bs, V.le V' → R v V' bs → ∃ base cap n ty z known, v = .slice base n cap ∧ bs = [.row v ty z n] ∧ 0 < n ∧ known.length = n * z ∧ V'.cells v known ∧ ∀ g ex, base = some ⟨g, 0, none⟩ → Q v [.box g ty (known ++ ex)]) :
    Does P f args V [] (fun v V' bs => V' = V ∧ Q v bs) := by
  intro w hw
  refine (h w hw).mono fun e w' ⟨v, V', bs, he, hr, hp, hk, hg, hn⟩ => ?_
  obtain ⟨base, cap, n, ty, z, known, hv, hbs, h0, hl, hkn, hQ⟩ := hR v V' bs hg.1 hr
  subst hv; subst hbs
  have hok : Res.ok w' V' (.row (.slice base n cap) ty z n) := hp.ok 0 _ rfl
  rcases hok with ⟨base', _, h2⟩ | ⟨g, cap', cur, hv', hc0, hheap, hn1, hn2, hsz, hfree⟩
  · omega
  simp only [Value.slice.injEq, true_and] at hv'
  obtain ⟨rfl, rfl⟩ := hv'
  have hkn : V'.has g 0 known := hkn
  have hbl : (Res.row (.slice (some ⟨g, 0, none⟩) n cap) ty z n).blk = some g := by simp [Res.blk, rowBlk, hc0]
  have hgn : w.heap.size ≤ g := by
    rcases hn g ⟨_, List.mem_cons_self, hbl⟩ with ⟨r, hr, _⟩ | h1
    · cases hr
    · exact h1
  have hnone : ∀ o, V g o = none := fun o => by
    cases hv : V g o with
    | none => rfl
    | some v => exact absurd (sub_lt hw.sub hv) (by omega)
  have hcur : cur.toList = known ++ cur.toList.drop (n * z) := by
    have e : cur.toList.take (n * z) = known := by
      apply List.ext_getElem?
      intro i
      rw [List.getElem?_take]
      split
      · rename_i hi
        obtain ⟨x, hx⟩ : ∃ x, known[i]? = some x := ⟨_, List.getElem?_eq_getElem (by omega)⟩
        have := hp.sub g (0 + i) x (hkn i x hx)
        rw [World.cell?, hheap] at this
        simp only [Option.isSome_none, Bool.false_eq_true, if_false, Nat.zero_add] at this
        rw [hx, ← this]
        simp
      · rw [List.getElem?_eq_none (by omega)]
    rw [← e, List.take_append_drop]
  refine ⟨_, V, [.box g ty (known ++ cur.toList.drop (n * z))], he, ⟨rfl, hQ _ _ rfl⟩, ⟨fun b o v hv => hp.sub b o v (hg.1 b o v hv), ?_, ?_⟩, hk, ⟨View.le_refl _, fun _ _ _ h => .inl h⟩, ?_⟩
  · intro i r hr
    cases i with
    | zero =>
      simp only [List.getElem?_cons_zero, Option.some.injEq] at hr
      subst hr
      exact ⟨by rw [← hcur]; exact hheap, hnone⟩
    | succ i => simp at hr
  · intro i j r r' c hij hi hj _ _
    have e1 : i = 0 := by have := (List.getElem?_eq_some_iff.1 hi).1; simp only [List.length_cons, List.length_nil] at this; omega
    have e2 : j = 0 := by have := (List.getElem?_eq_some_iff.1 hj).1; simp only [List.length_cons, List.length_nil] at this; omega
    exact absurd (e1.trans e2.symm) hij
  · rintro c ⟨r, hr, hc⟩
    right
    rw [List.mem_singleton.1 hr] at hc
    simp only [Res.blk, Option.some.injEq] at hc
    omega
/-- an own box that is written no more -/
theorem Does.freeze {P : Program} {f : FuncId} {args : List Value} {V : View} {bs0 : List Res} {R : Value → View → List Res → Prop} {Q : Value → View → Prop} (h : Does P f args V bs0 R)
    (hR : ∀ v V' bs, V.le V' → R v V' bs → ∃ g ty cells, bs = [.box g ty cells] ∧ (V'.le (V'.add g cells) → Q v (V'.add g cells))) : Does P f args V bs0 (fun v V' bs => bs = [] ∧ Q v V') := by
  intro w hw
  refine (h w hw).mono fun e w' ⟨v, V', bs, he, hr, hp, hk, hg, hn⟩ => ?_
  obtain ⟨g, ty, cells, hbs, hQ⟩ := hR v V' bs hg.1 hr
  subst hbs
  obtain ⟨hheap, hnone⟩ : w'.heap[g]? = some (.cells cells.toArray ty (0, 0)) ∧ ∀ o, V' g o = none := hp.ok 0 _ rfl
  have hle := View.add_le (cells := cells) hnone
  refine ⟨v, V'.add g cells, [], he, ⟨rfl, hQ hle⟩, ⟨fun b o u hu => ?_, fun i r hr => by simp at hr, fun i j r r' c _ hr => by simp at hr⟩, hk, ⟨View.le_trans hg.1 hle, fun b o u hu => ?_⟩, fun b ⟨r, hr, _⟩ => by cases hr⟩
  · unfold View.add at hu
    split at hu
    · rename_i hb; subst hb; rw [cell_box hheap]; exact hu
    · exact hp.sub b o u hu
  · unfold View.add at hu
    split at hu
    · rename_i hb
      subst hb
      exact .inr ((hn b ⟨_, List.mem_cons_self, rfl⟩).symm)
    · exact hg.2 b o u hu
/-- an own box, if there is one, that is written no more -/
theorem Does.freeze2 {P : Program} {f : FuncId} {args : List Value} {V : View} {bs0 : List Res} {R : Value → View → List Res → Prop} {Q : Value → View → Prop} (h : Does P f args V bs0 R)
    (hR : ∀ v V' bs, V.le V' → R v V' bs → (bs = [] ∧ Q v V') ∨ ∃ g ty cells, bs = [.box g ty cells] ∧ (V'.le (V'.add g cells) → Q v (V'.add g cells))) : Does P f args V bs0 (fun v V' bs => bs = [] ∧ Q v V') := by
  intro w hw
  refine (h w hw).mono fun e w' ⟨v, V', bs, he, hr, hp, hk, hg, hn⟩ => ?_
  rcases hR v V' bs hg.1 hr with ⟨hbs, hQ⟩ | ⟨g, ty, cells, hbs, hQ⟩
  · subst hbs
    exact ⟨v, V', [], he, ⟨rfl, hQ⟩, hp, hk, hg, hn⟩
  subst hbs
  obtain ⟨hheap, hnone⟩ : w'.heap[g]? = some (.cells cells.toArray ty (0, 0)) ∧ ∀ o, V' g o = none := hp.ok 0 _ rfl
  have hle := View.add_le (cells := cells) hnone
  refine ⟨v, V'.add g cells, [], he, ⟨rfl, hQ hle⟩, ⟨fun b o u hu => ?_, fun i r hr => by simp at hr, fun i j r r' c _ hr => by simp at hr⟩, hk, ⟨View.le_trans hg.1 hle, fun b o u hu => ?_⟩, fun b ⟨r, hr, _⟩ => by cases hr⟩
  · unfold View.add at hu
    split at hu
    · rename_i hb; subst hb; rw [cell_box hheap]; exact hu
    · exact hp.sub b o u hu
  · unfold View.add at hu
    split at hu
    · rename_i hb
      subst hb
      exact .inr ((hn b ⟨_, List.mem_cons_self, rfl⟩).symm)
    · exact hg.2 b o u hu
/-- a copy of a slice of slices, to be written -/
theorem clone74_spec (cells : List Value) (p off c : Nat) (V : View) (h : V.has p off cells) (h0 : cells ≠ []) (h1 : allOne cells = true) (hl : cells.length ≤ 1000) :
    Does Try.prog 74 [.slice (some ⟨p, off, none⟩) cells.length c] V [] (fun v V' bs => V' = V ∧ ∃ g cap ex, v = .slice (some ⟨g, 0, none⟩) cells.length cap ∧ bs = [.box g 45 (cells ++ ex)]) := by
  have hpos : 0 < cells.length := List.length_pos_iff.2 h0
  have main : Does Try.prog 74 [.slice (some ⟨p, off, none⟩) cells.length c] V [] (fun v V' bs => ∃ base cap, v = .slice base cells.length cap ∧ bs = [.row v 45 1 cells.length] ∧ V'.cells v cells) := by
    refine does_of_zfun [] mixed (args := [.v _]) (ms := []) Try.func74 (by kernel_rfl) rfl ?_
    conv => whnf
    repeat' first
      | (refine br_t rfl ?_; conv => whnf)
      | (refine br_f rfl ?_; conv => whnf)
      | (refine IdxN.lit rfl rfl ?_; conv => whnf)
      | (intro _; conv => whnf)
    rename_i b1 V1 hV1 hb1
    refine AppN.to cells.length (Nat.zero_add _) [] cells hb1 rfl (show V1.has p off cells from (h.mono (by repeat (first | exact View.le_refl _ | assumption | exact View.addU_le _ _ _ | refine View.le_trans ?_ (by assumption) | refine View.le_trans ?_ (View.addU_le _ _ _))))) (Nat.mul_one _).symm h1 (by omega) (by decide) fun base' cap' V3 hV3 hc3 => ?_
    conv => whnf
    exact ⟨[7], by simp, [_], rfl, base', cap', rfl, rfl, hc3⟩
  refine (Does.toBox (Q := fun v bs => ∃ g cap ex, v = .slice (some ⟨g, 0, none⟩) cells.length cap ∧ bs = [.box g 45 (cells ++ ex)]) main fun v V' bs _ ⟨base, cap, hv, hb, hh⟩ => ?_)
  exact ⟨base, cap, cells.length, _, 1, cells, hv, hb, hpos, (Nat.mul_one _).symm, hh, fun g ex hb => ⟨g, cap, ex, by rw [hv, hb], rfl⟩⟩
end Go.Proofs.Ytenpginanhnkbaa
end

section
set_option linter.unusedSimpArgs false
set_option linter.unusedVariables false
namespace Go.Proofs.Ytenpginanhnkbaa
open Go.X Go.Sort
set_option maxRecDepth 100000

theorem stable_spec {m : Nat} (vals : Fin (m + 1) → Value) (h1 : ∀ i, (vals i).oneCell' = true) (cf : Fin (m + 1) → Fin (m + 1) → Int) (g : Nat) (cb : List Value) (hg : callOk Try.prog g = true) (blk cap : Nat) (ty : TypeId) (d : Array (Fin (m + 1))) (rest : List Value) (V : View)
    (hcmp : ∀ i j V', V.le V' → PSpec g ([vals i, vals j] ++ cb) V' (fun v _ => v = .int .i64 (cf i j))) (hd : d.size ≤ 20) :
    Does Try.prog 99 [.slice (some ⟨blk, 0, none⟩) d.size cap, .int .i64 d.size, .func (.func g) #[] cb.toArray] V [.box blk ty (d.toList.map vals ++ rest)]
      (fun v V' bs => v = .tuple #[] ∧ bs = [.box blk ty ((Sort.insertionSort (ltOf cf) d 0 d.size).toList.map vals ++ rest)]) := by
  refine does_of_zfun [] mixed (args := [.v _, .v _, .v _]) (ms := [(70, .box blk ty (d.toList.map vals ++ rest))]) Try.func99 (by kernel_rfl) rfl ?_
  have hsz := insSort_size (ltOf cf) 0 d.size d
  conv => whnf
  repeat' first
    | (refine br_t rfl ?_; conv => whnf)
    | (refine br_f rfl ?_; conv => whnf)
    | (refine IdxN.lit rfl rfl ?_; conv => whnf)
    | (intro _; conv => whnf)
  refine unrollz 2 ?_
  conv => whnf
  apply br <;> intro g1 <;> conv => whnf
  · have hd20 : d.size = 20 := by have := of_decide_eq_true g1; omega
    repeat' first
      | (refine br_t rfl ?_; conv => whnf)
      | (refine br_f rfl ?_; conv => whnf)
      | (refine IdxN.lit rfl rfl ?_; conv => whnf)
      | (intro _; conv => whnf)
    refine CallN.box 70 rfl (ins_spec vals h1 cf g cb hg blk cap ty d rest 0 20 _ (fun i j V' hV' => hcmp i j V' (by repeat (first | exact View.le_refl _ | assumption | exact View.addU_le _ _ _ | refine View.le_trans ?_ (by assumption) | refine View.le_trans ?_ (View.addU_le _ _ _)))) (by omega) (by omega) (by omega)) fun v V2 bs hV2 ⟨hv, hb2⟩ => ⟨ty, _, hb2, ?_⟩
    subst hv
    conv => whnf
    have g2 : decide ((40 : Int) ≤ (d.size : Int)) = false := decide_eq_false (by omega)
    refine br_f g2 ?_
    conv => whnf
    have hs2 : (Sort.insertionSort (ltOf cf) d 0 20).size = d.size := insSort_size (ltOf cf) 0 20 d
    have e2 : Sort.insertionSort (ltOf cf) (Sort.insertionSort (ltOf cf) d 0 20) 20 20 = Sort.insertionSort (ltOf cf) d 0 d.size := by
      rw [hd20]
      show insOuter _ _ _ _ _ = _
      rw [insOuter, if_neg (by omega)]
    have hin := ins_spec vals h1 cf g cb hg blk cap ty (Sort.insertionSort (ltOf cf) d 0 20) rest 20 20 V2 (fun i j V' hV' => hcmp i j V' (by repeat (first | exact View.le_refl _ | assumption | exact View.addU_le _ _ _ | refine View.le_trans ?_ (by assumption) | refine View.le_trans ?_ (View.addU_le _ _ _)))) (by omega) (by omega) (by omega)
    rw [hs2, e2] at hin
    rw [show (d.size : Int) = ((20 : Nat) : Int) by omega]
    refine CallN.box 70 rfl hin fun v V3 bs hV3 ⟨hv, hb3⟩ => ⟨ty, _, hb3, ?_⟩
    subst hv
    conv => whnf
    refine unrollz 1 ?_
    conv => whnf
    repeat' first
      | (refine br_t rfl ?_; conv => whnf)
      | (refine br_f rfl ?_; conv => whnf)
      | (refine IdxN.lit rfl rfl ?_; conv => whnf)
      | (intro _; conv => whnf)
    exact ⟨[70], by simp, [_], rfl, rfl, rfl⟩
  · have hd20 : d.size < 20 := by have := of_decide_eq_false g1; omega
    repeat' first
      | (refine br_t rfl ?_; conv => whnf)
      | (refine br_f rfl ?_; conv => whnf)
      | (refine IdxN.lit rfl rfl ?_; conv => whnf)
      | (intro _; conv => whnf)
    refine CallN.box 70 rfl (ins_spec vals h1 cf g cb hg blk cap ty d rest 0 d.size _ (fun i j V' hV' => hcmp i j V' (by repeat (first | exact View.le_refl _ | assumption | exact View.addU_le _ _ _ | refine View.le_trans ?_ (by assumption) | refine View.le_trans ?_ (View.addU_le _ _ _)))) (by omega) (by omega) (by omega)) fun v V2 bs hV2 ⟨hv, hb2⟩ => ⟨ty, _, hb2, ?_⟩
    subst hv
    conv => whnf
    refine unrollz 1 ?_
    conv => whnf
    refine br_f (decide_eq_false (by omega)) ?_
    conv => whnf
    repeat' first
      | (refine br_t rfl ?_; conv => whnf)
      | (refine br_f rfl ?_; conv => whnf)
      | (refine IdxN.lit rfl rfl ?_; conv => whnf)
      | (intro _; conv => whnf)
    exact ⟨[70], by simp, [_], rfl, rfl, rfl⟩
theorem sorts_spec {m : Nat} (vals : Fin (m + 1) → Value) (h1 : ∀ i, (vals i).oneCell' = true) (cf : Fin (m + 1) → Fin (m + 1) → Int) (g : Nat) (cb : List Value) (hg : callOk Try.prog g = true) (blk cap : Nat) (ty : TypeId) (d : Array (Fin (m + 1))) (rest : List Value) (V : View)
    (hcmp : ∀ i j V', V.le V' → PSpec g ([vals i, vals j] ++ cb) V' (fun v _ => v = .int .i64 (cf i j))) (hd : d.size ≤ 20) :
    Does Try.prog 75 [.slice (some ⟨blk, 0, none⟩) d.size cap, .func (.func g) #[] cb.toArray] V [.box blk ty (d.toList.map vals ++ rest)]
      (fun v V' bs => v = .tuple #[] ∧ bs = [.box blk ty ((Sort.insertionSort (ltOf cf) d 0 d.size).toList.map vals ++ rest)]) := by
  refine does_of_zfun [] mixed (args := [.v _, .v _]) (ms := [(70, .box blk ty (d.toList.map vals ++ rest))]) Try.func75 (by kernel_rfl) rfl ?_
  conv => whnf
  repeat' first
    | (refine br_t rfl ?_; conv => whnf)
    | (refine br_f rfl ?_; conv => whnf)
    | (refine IdxN.lit rfl rfl ?_; conv => whnf)
    | (intro _; conv => whnf)
  refine CallN.box 70 rfl (stable_spec vals h1 cf g cb hg blk cap ty d rest _ (fun i j V' hV' => hcmp i j V' (by repeat (first | exact View.le_refl _ | assumption | exact View.addU_le _ _ _ | refine View.le_trans ?_ (by assumption) | refine View.le_trans ?_ (View.addU_le _ _ _)))) hd) fun v V2 bs hV2 ⟨hv, hb2⟩ => ⟨ty, _, hb2, ?_⟩
  subst hv
  conv => whnf
  repeat' first
    | (refine br_t rfl ?_; conv => whnf)
    | (refine br_f rfl ?_; conv => whnf)
    | (refine IdxN.lit rfl rfl ?_; conv => whnf)
    | (intro _; conv => whnf)
  exact ⟨[70], by simp, [_], rfl, rfl, rfl⟩
/-- rows, sorted in place -/
theorem sortL_spec (rows : List (List Val)) (cells : List Value) (c : List Val → List Val → Int) (g : Nat) (cb : List Value) (hg : callOk Try.prog g = true) (blk n cap : Nat) (ty : TypeId) (rest : List Value) (V : View) (hn : n = cells.length) (h0 : rows ≠ []) (hca : CellsAt V rows cells) (hl : rows.length ≤ 20)
    (hcmp : ∀ r ∈ rows, ∀ s ∈ rows, ∀ va vb V', V.le V' → RowAt V' r va → RowAt V' s vb → PSpec g ([va, vb] ++ cb) V' (fun v _ => v = .int .i64 (c r s))) :
    Does Try.prog 75 [.slice (some ⟨blk, 0, none⟩) n cap, .func (.func g) #[] cb.toArray] V [.box blk ty (cells ++ rest)]
      (fun v V' bs => v = .tuple #[] ∧ ∃ cells', (∀ W, CellsAt W rows cells → CellsAt W (sortF (fun x y => decide (c x y < 0)) [] rows) cells') ∧ bs = [.box blk ty (cells' ++ rest)]) := by
  subst hn
  obtain ⟨m, hm⟩ : ∃ m, rows.length = m + 1 := ⟨rows.length - 1, by have := List.length_pos_iff.2 h0; omega⟩
  have hcl : cells.length = m + 1 := by rw [hca.len, hm]
  let vals : Fin (m + 1) → Value := fun i => cells[i]'(by rw [hcl]; exact i.2)
  let rw' : Fin (m + 1) → List Val := fun i => rows[i]'(by rw [hm]; exact i.2)
  have hrow : ∀ i, RowAt V (rw' i) (vals i) := fun i => hca.at' i _ _ (List.getElem?_eq_getElem _) (List.getElem?_eq_getElem _)
  have hmem : ∀ i, rw' i ∈ rows := fun i => List.getElem_mem _
  let d : Array (Fin (m + 1)) := Array.ofFn id
  have hd : d.size = cells.length := by rw [Array.size_ofFn, hcl]
  have hdv : d.toList.map vals = cells := by
    apply List.ext_getElem?
    intro k
    rw [List.getElem?_map, Array.getElem?_toList, Array.getElem?_ofFn]
    split
    · rename_i h
      exact (List.getElem?_eq_getElem (by omega)).symm
    · rw [List.getElem?_eq_none (by omega)]; rfl
  have hdr : d.toList.map rw' = rows := by
    apply List.ext_getElem?
    intro k
    rw [List.getElem?_map, Array.getElem?_toList, Array.getElem?_ofFn]
    split
    · rename_i h
      exact (List.getElem?_eq_getElem (by omega)).symm
    · rw [List.getElem?_eq_none (by omega)]; rfl
  have h1 : ∀ i, (vals i).oneCell' = true := fun i => by
    obtain ⟨b', c', hv⟩ := row_shape (hrow i)
    rw [hv]; rfl
  have main := sorts_spec vals h1 (fun i j => c (rw' i) (rw' j)) g cb hg blk cap ty d rest V (fun i j V' hV' => hcmp _ (hmem i) _ (hmem j) _ _ V' hV' ((hrow i).mono hV') ((hrow j).mono hV')) (by omega)
  rw [hdv, hd] at main
  refine main.mono fun v V' bs _ ⟨hv, hb⟩ => ⟨hv, _, fun W hW => ?_, hb⟩
  have hrow : ∀ i, RowAt W (rw' i) (vals i) := fun i => hW.at' i _ _ (List.getElem?_eq_getElem _) (List.getElem?_eq_getElem _)
  rw [show cells.length = d.size from hd.symm, insSort_list]
  have hs := sortF_map (lt := ltOf fun i j => c (rw' i) (rw' j)) (lt' := fun x y => decide (c x y < 0)) (f := rw') (fun x y => rfl) d.toList []
  rw [List.map_nil, hdr] at hs
  rw [hs]
  refine ⟨by rw [List.length_map, List.length_map], fun i r cl hr hc => ?_⟩
  rw [List.getElem?_map] at hr hc
  cases hx : (sortF (ltOf fun i j => c (rw' i) (rw' j)) [] d.toList)[i]? with
  | none => rw [hx] at hr; cases hr
  | some x =>
    rw [hx] at hr hc
    simp only [Option.map_some, Option.some.injEq] at hr hc
    subst hr; subst hc
    exact hrow x
theorem cmp53_spec (r s : List Val) (x y : Val) (k : Nat) (hx : r[k]? = some x) (hy : s[k]? = some y) (hlr : r.length ≤ 1000) (hls : s.length ≤ 1000) (va vb : Value) (a : Nat) (V : View) (hr : RowAt V r va) (hs : RowAt V s vb) (ha : V.has a 0 [.int .i64 (k : Nat)]) :
    PSpec 53 [va, vb, .pointer (some ⟨a, 0, none⟩)] V (fun v _ => v = .int .i64 (cmpV x y)) := by
  obtain ⟨b1, c1, rfl, _, hv1⟩ := hr
  obtain ⟨b2, c2, rfl, _, hv2⟩ := hs
  obtain ⟨p1, o1, rfl, hx1⟩ := hv1.at hx
  obtain ⟨p2, o2, rfl, hy2⟩ := hv2.at hy
  have l1 : k < r.length := (List.getElem?_eq_some_iff.1 hx).1
  have l2 : k < s.length := (List.getElem?_eq_some_iff.1 hy).1
  refine does_of_zfun [(1, [(0, []), (1, []), (2, []), (3, []), (4, []), (5, []), (6, []), (7, []), (8, []), (9, [])])] mixed (args := [.v _, .v _, .v _]) (ms := []) Try.func53 (by kernel_rfl) rfl ?_
  conv => whnf
  refine LoadN.of (ha.mono (by repeat (first | exact View.le_refl _ | assumption | exact View.addU_le _ _ _ | refine View.le_trans ?_ (by assumption) | refine View.le_trans ?_ (View.addU_le _ _ _)))) 0 rfl rfl ?_
  conv => whnf
  refine IdxN.of (by omega) (by omega) ?_
  conv => whnf
  refine LoadN.of (hx1.mono (by repeat (first | exact View.le_refl _ | assumption | exact View.addU_le _ _ _ | refine View.le_trans ?_ (by assumption) | refine View.le_trans ?_ (View.addU_le _ _ _)))) 0 rfl rfl ?_
  conv => whnf
  refine LoadN.of (ha.mono (by repeat (first | exact View.le_refl _ | assumption | exact View.addU_le _ _ _ | refine View.le_trans ?_ (by assumption) | refine View.le_trans ?_ (View.addU_le _ _ _)))) 0 rfl rfl ?_
  conv => whnf
  refine IdxN.of (by omega) (by omega) ?_
  conv => whnf
  refine LoadN.of (hy2.mono (by repeat (first | exact View.le_refl _ | assumption | exact View.addU_le _ _ _ | refine View.le_trans ?_ (by assumption) | refine View.le_trans ?_ (View.addU_le _ _ _)))) 0 rfl rfl ?_
  conv => whnf
  refine CallN.pure (compare_spec x y _) fun v V1 _ hV1 hv => ?_
  subst hv
  refine Prot.refl ?_
  conv => whnf
  repeat' first
    | (refine br_t rfl ?_; conv => whnf)
    | (refine br_f rfl ?_; conv => whnf)
    | (refine IdxN.lit rfl rfl ?_; conv => whnf)
    | (intro _; conv => whnf)
  exact ret_pure rfl
def ordX (d : Bool) (x y : Val) : Int := if d then cmpV y x else cmpV x y
theorem cmp76_spec (r s : List Val) (x y : Val) (k : Nat) (hx : r[k]? = some x) (hy : s[k]? = some y) (hlr : r.length ≤ 1000) (hls : s.length ≤ 1000) (va vb : Value) (a b5 b4 : Nat) (d : Bool) (V : View) (hr : RowAt V r va) (hs : RowAt V s vb) (ha : V.has a 0 [.int .i64 (k : Nat)])
    (h5 : V.has b5 0 [.bool d]) (h4 : V.has b4 0 [.func (.func 53) #[] #[.pointer (some ⟨a, 0, none⟩)]]) :
    PSpec 76 [va, vb, .pointer (some ⟨b5, 0, none⟩), .pointer (some ⟨b4, 0, none⟩)] V (fun v _ => v = .int .i64 (ordX d x y)) := by
  refine does_of_zfun [] mixed (args := [.v _, .v _, .v _, .v _]) (ms := []) Try.func76 (by kernel_rfl) rfl ?_
  conv => whnf
  refine LoadN.of (h5.mono (by repeat (first | exact View.le_refl _ | assumption | exact View.addU_le _ _ _ | refine View.le_trans ?_ (by assumption) | refine View.le_trans ?_ (View.addU_le _ _ _)))) 0 rfl rfl ?_
  conv => whnf
  apply br <;> intro g1 <;> conv => whnf
  · have g1 : d = true := g1
    refine LoadN.of (h4.mono (by repeat (first | exact View.le_refl _ | assumption | exact View.addU_le _ _ _ | refine View.le_trans ?_ (by assumption) | refine View.le_trans ?_ (View.addU_le _ _ _)))) 0 rfl rfl ?_
    conv => whnf
    refine CallN.pure (cmp53_spec s r y x k hy hx hls hlr vb va a _ (hs.mono (by repeat (first | exact View.le_refl _ | assumption | exact View.addU_le _ _ _ | refine View.le_trans ?_ (by assumption) | refine View.le_trans ?_ (View.addU_le _ _ _)))) (hr.mono (by repeat (first | exact View.le_refl _ | assumption | exact View.addU_le _ _ _ | refine View.le_trans ?_ (by assumption) | refine View.le_trans ?_ (View.addU_le _ _ _)))) (ha.mono (by repeat (first | exact View.le_refl _ | assumption | exact View.addU_le _ _ _ | refine View.le_trans ?_ (by assumption) | refine View.le_trans ?_ (View.addU_le _ _ _))))) fun v V1 _ hV1 hv => ?_
    subst hv
    conv => whnf
    repeat' first
      | (refine br_t rfl ?_; conv => whnf)
      | (refine br_f rfl ?_; conv => whnf)
      | (refine IdxN.lit rfl rfl ?_; conv => whnf)
      | (intro _; conv => whnf)
    exact ret_pure (by rw [ordX, if_pos g1]; rfl)
  · have g1 : d = false := g1
    refine LoadN.of (h4.mono (by repeat (first | exact View.le_refl _ | assumption | exact View.addU_le _ _ _ | refine View.le_trans ?_ (by assumption) | refine View.le_trans ?_ (View.addU_le _ _ _)))) 0 rfl rfl ?_
    conv => whnf
    refine CallN.pure (cmp53_spec r s x y k hx hy hlr hls va vb a _ (hr.mono (by repeat (first | exact View.le_refl _ | assumption | exact View.addU_le _ _ _ | refine View.le_trans ?_ (by assumption) | refine View.le_trans ?_ (View.addU_le _ _ _)))) (hs.mono (by repeat (first | exact View.le_refl _ | assumption | exact View.addU_le _ _ _ | refine View.le_trans ?_ (by assumption) | refine View.le_trans ?_ (View.addU_le _ _ _)))) (ha.mono (by repeat (first | exact View.le_refl _ | assumption | exact View.addU_le _ _ _ | refine View.le_trans ?_ (by assumption) | refine View.le_trans ?_ (View.addU_le _ _ _))))) fun v V1 _ hV1 hv => ?_
    subst hv
    conv => whnf
    repeat' first
      | (refine br_t rfl ?_; conv => whnf)
      | (refine br_f rfl ?_; conv => whnf)
      | (refine IdxN.lit rfl rfl ?_; conv => whnf)
      | (intro _; conv => whnf)
    exact ret_pure (by rw [ordX, g1]; rfl)
end Go.Proofs.Ytenpginanhnkbaa
end

section
set_option linter.unusedSimpArgs false
set_option linter.unusedVariables false
namespace Go.Proofs.Ytenpginanhnkbaa
open Go.X Go.Sort
set_option maxRecDepth 100000

def keyX (k : Nat) (r : List Val) : Val := match r[k]? with | some v => v | none => v0
def ltR (k : Nat) (d : Bool) (r s : List Val) : Bool := decide (ordX d (keyX k r) (keyX k s) < 0)
/-- rows in order, alike ones as they stood -/
def sortR (k : Nat) (d : Bool) (rows : List (List Val)) : List (List Val) := sortF (ltR k d) [] rows
theorem sortR_len (k : Nat) (d : Bool) (rows : List (List Val)) : (sortR k d rows).length = rows.length := by rw [sortR, sortF_len]; simp
theorem callOk76 : callOk Try.prog 76 = true := by kernel_rfl
theorem cells_one {V : View} {rows : List (List Val)} {cells : List Value} (h : CellsAt V rows cells) : allOne cells = true := by
  have : ∀ (l : List Value), (∀ v ∈ l, v.oneCell' = true) → allOne l = true := by
    intro l
    induction l with
    | nil => intro _; rfl
    | cons v l ih =>
      intro hl
      unfold allOne
      rw [hl v List.mem_cons_self]
      exact ih fun x hx => hl x (List.mem_cons_of_mem _ hx)
  refine this cells fun v hv => ?_
  obtain ⟨i, hi, he⟩ := List.getElem_of_mem hv
  obtain ⟨r, hr⟩ : ∃ r, rows[i]? = some r := ⟨_, List.getElem?_eq_getElem (by rw [← h.len]; exact hi)⟩
  obtain ⟨b, c, hv⟩ := row_shape (h.at' i r v hr (by rw [List.getElem?_eq_getElem hi, he]))
  rw [hv]; rfl
theorem sortedB_spec (rows : List (List Val)) (cells : List Value) (p off n c k a : Nat) (d : Bool) (V : View) (hn : n = cells.length) (h0 : rows ≠ []) (hca : CellsAt V rows cells) (hp : V.has p off cells) (hl : rows.length ≤ 20) (hk : ∀ r ∈ rows, k < r.length ∧ r.length ≤ 1000) (ha : V.has a 0 [.int .i64 (k : Nat)]) :
    Does Try.prog 52 [.slice (some ⟨p, off, none⟩) n c, .func (.func 53) #[] #[.pointer (some ⟨a, 0, none⟩)], .bool d] V []
      (fun v V' bs => ∃ g cap cells' ex, v = .slice (some ⟨g, 0, none⟩) n cap ∧ (∀ W, CellsAt W rows cells → CellsAt W (sortR k d rows) cells') ∧ bs = [.box g 45 (cells' ++ ex)]) := by
  subst hn
  have hcl := hca.len
  refine does_of_zfun [] mixed (args := [.v _, .v _, .v _]) (ms := []) Try.func52 (by kernel_rfl) rfl ?_
  conv => whnf
  repeat' first
    | (refine br_t rfl ?_; conv => whnf)
    | (refine br_f rfl ?_; conv => whnf)
    | (refine IdxN.lit rfl rfl ?_; conv => whnf)
    | (intro _; conv => whnf)
  rename_i b4 b5
  refine CallN.new 9 rfl (clone74_spec cells p off c _ hp (fun e => h0 (List.eq_nil_of_length_eq_zero (by rw [← hcl, e]; rfl))) (cells_one hca) (by omega)) fun v V1 bs hV1 ⟨hVe, g, cap, ex, hv, hb⟩ => ⟨_, .v (.slice (some ⟨g, 0, none⟩) cells.length cap), hb, by subst hv; rfl, ?_⟩
  subst hVe; subst hv
  conv => whnf
  repeat' first
    | (refine br_t rfl ?_; conv => whnf)
    | (refine br_f rfl ?_; conv => whnf)
    | (refine IdxN.lit rfl rfl ?_; conv => whnf)
    | (intro _; conv => whnf)
  refine CallN.lendM 4 rfl fun l4 => CallN.lendM 5 rfl fun l5 => CallN.box 9 rfl (sortL_spec rows cells (fun r s => ordX d (keyX k r) (keyX k s)) 76 [.pointer (some ⟨b5, 0, none⟩), .pointer (some ⟨b4, 0, none⟩)] callOk76 g _ cap _ ex _ rfl h0 (hca.mono (by repeat (first | exact View.le_refl _ | assumption | exact View.addU_le _ _ _ | refine View.le_trans ?_ (by assumption) | refine View.le_trans ?_ (View.addU_le _ _ _)))) hl ?_) fun v V2 bs hV2 ⟨hv, cells', hc', hb2⟩ => ⟨_, _, hb2, ⟨_, rfl⟩, rfl, ⟨_, rfl⟩, rfl, ?_⟩
  · intro r hr s hs va vb V' hV' hra hsb
    obtain ⟨x, hx⟩ : ∃ x, r[k]? = some x := ⟨_, List.getElem?_eq_getElem (hk r hr).1⟩
    obtain ⟨y, hy⟩ : ∃ y, s[k]? = some y := ⟨_, List.getElem?_eq_getElem (hk s hs).1⟩
    have e1 : keyX k r = x := by rw [keyX, hx]
    have e2 : keyX k s = y := by rw [keyX, hy]
    rw [e1, e2]
    exact cmp76_spec r s x y k hx hy (hk r hr).2 (hk s hs).2 va vb a b5 b4 d V' hra hsb (ha.mono (by repeat (first | exact View.le_refl _ | assumption | exact View.addU_le _ _ _ | refine View.le_trans ?_ (by assumption) | refine View.le_trans ?_ (View.addU_le _ _ _)))) (View.add_has.mono hV') ((View.add_has.mono l5).mono hV')
  · subst hv
    conv => whnf
    repeat' first
      | (refine br_t rfl ?_; conv => whnf)
      | (refine br_f rfl ?_; conv => whnf)
      | (refine IdxN.lit rfl rfl ?_; conv => whnf)
      | (intro _; conv => whnf)
    exact ⟨[9], by simp, [_], rfl, g, cap, cells', ex, rfl, hc', rfl⟩
theorem sorted_spec (rows : List (List Val)) (cells : List Value) (p off n c k a : Nat) (d : Bool) (V : View) (hn : n = cells.length) (h0 : rows ≠ []) (hca : CellsAt V rows cells) (hp : V.has p off cells) (hl : rows.length ≤ 20) (hk : ∀ r ∈ rows, k < r.length ∧ r.length ≤ 1000) (ha : V.has a 0 [.int .i64 (k : Nat)]) :
    PSpec 52 [.slice (some ⟨p, off, none⟩) n c, .func (.func 53) #[] #[.pointer (some ⟨a, 0, none⟩)], .bool d] V (fun v V' => RowsV V' (sortR k d rows) v) := by
  have hcl := hca.len
  subst hn
  refine (Does.freeze (Q := fun v V' => RowsV V' (sortR k d rows) v) (sortedB_spec rows cells p off _ c k a d V rfl h0 hca hp hl hk ha) fun v V' bs hVV ⟨g, cap, cells', ex, hv, hc, hb⟩ => ⟨g, _, _, hb, fun hle => ?_⟩).mono fun v V' bs _ ⟨_, h⟩ => h
  have hl2 : cells.length = (sortR k d rows).length := by rw [sortR_len, hcl]
  refine ⟨some ⟨g, 0, none⟩, cap, by rw [hv, hl2], .inr ⟨g, 0, rfl⟩, ⟨cells', hc _ (hca.mono (View.le_trans hVV hle)), fun _ => ⟨g, 0, rfl, fun i x hx => View.add_has i x ?_⟩⟩, by rw [sortR_len]; omega⟩
  rw [List.getElem?_append_left (List.getElem?_eq_some_iff.1 hx).1]; exact hx
end Go.Proofs.Ytenpginanhnkbaa
end
