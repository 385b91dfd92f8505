/- One part of a proof: an evaluator of the model, shown right, and contracts that it yields. No condition beyond those that each theorem names. -/
import Derived.Test.YtenpginanhnkbaaCP
import Derived.Shelf.SlSortCmp.Insertion1
import Derived.Ground.SlsfProg
section
set_option linter.unusedSimpArgs false
set_option linter.unusedVariables false
namespace Go.Proofs.Ytenpginanhnkbaa
open Go.X Go.Shelf Go.Sort
set_option maxRecDepth 100000

/-! ## the library's insertion sort, in place -/
def Try.insL_ren : Go.Shelf.Ren := ⟨fun | 20 => 111 | n => n, fun | 24 => 45 | 22 => 63 | 3 => 3 | 25 => 106 | 4 => 4 | 0 => 0 | n => n, fun | n => n⟩
theorem Try.insL : Go.Proofs.SlLaysF.n20 Try.prog Try.insL_ren := {
  mixed := by kernel_rfl
  f20 := ⟨Try.f111.name, by decide, Try.func111.trans (congrArg some (by kernel_rfl))⟩
  t0 := Try.underlying0
  a0 := Try.isAgg0
  z0 := Try.sizeOf0
  v0 := Try.zeroValue0
  t3 := Try.underlying3
  a3 := Try.isAgg3
  z3 := Try.sizeOf3
  v3 := Try.zeroValue3
  t4 := Try.underlying4
  a4 := Try.isAgg4
  z4 := Try.sizeOf4
  v4 := Try.zeroValue4
  t22 := Try.underlying63
  a22 := Try.isAgg63
  z22 := Try.sizeOf63
  v22 := Try.zeroValue63
  a24 := Try.isAgg45
  z24 := Try.sizeOf45
  t25 := Try.underlying106
  a25 := Try.isAgg106
  z25 := Try.sizeOf106
  v25 := Try.zeroValue106 }
theorem grow_of_kept {W W' : World} (h : Kept (blksOf []) W W') : ∃ q os, W' = grow (W.drewN q) os := by
  have hb : ∀ k, k < W.heap.size → W'.heap[k]? = W.heap[k]? := fun k hk => h.block k hk (fun ⟨r, hr, _⟩ => by cases hr)
  refine ⟨W'.drawn - W.drawn, W'.heap.extract W.heap.size W'.heap.size, ?_⟩
  obtain ⟨heap, tape, drawn, os, output⟩ := W
  obtain ⟨heap', tape', drawn', os', output'⟩ := W'
  obtain ⟨h1, h2, h3, h4, h5, _⟩ := h
  simp only at h1 h2 h3 h4 h5 hb
  subst h1; subst h2; subst h3
  simp only [grow, World.drewN, World.mk.injEq, true_and, and_true]
  refine ⟨?_, by omega⟩
  apply Array.ext_getElem?
  intro k
  by_cases hk : k < heap.size
  · rw [Array.getElem?_append_left hk]; exact hb k hk
  · rw [Array.getElem?_append_right (by omega), Array.getElem?_extract]
    by_cases hk2 : k < heap'.size
    · rw [if_pos (by omega)]
      congr 1
      omega
    · rw [if_neg (by omega), Array.getElem?_eq_none (by omega)]
theorem insInner_size {α : Type} [Inhabited α] (lt : α → α → Bool) (a : Nat) : ∀ (j : Nat) (d : Array α), (insInner lt a j d).size = d.size
  | 0, d => rfl
  | j + 1, d => by
    rw [insInner]
    split
    · rw [insInner_size lt a j, size_swp]
    · rfl
theorem insOuter_size {α : Type} [Inhabited α] (lt : α → α → Bool) (a b : Nat) : ∀ (n i : Nat) (d : Array α), b - i = n → (insOuter lt a b i d).size = d.size
  | 0, i, d, h => by rw [insOuter, if_neg (by omega)]
  | n + 1, i, d, h => by
    rw [insOuter]
    split
    · rw [insOuter_size lt a b n (i + 1) _ (by omega), insInner_size]
    · rfl
theorem insSort_size {α : Type} [Inhabited α] (lt : α → α → Bool) (a b : Nat) (d : Array α) : (Sort.insertionSort lt d a b).size = d.size := insOuter_size lt a b _ _ d rfl
theorem put_cells {α : Type} [Inhabited α] (vals : α → Value) (d d' : Array α) (rest : List Value) (h : d'.size = d.size) : putCells vals 0 d' (d.toList.map vals ++ rest).toArray = (d'.toList.map vals ++ rest).toArray := by
  apply Array.ext_getElem?
  intro k
  unfold putCells
  rw [Array.getElem?_mapIdx]
  simp only [List.getElem?_toArray, Nat.zero_le, true_and, Nat.zero_add, Nat.sub_zero]
  by_cases hk : k < d'.size
  · rw [List.getElem?_append_left (by simp; omega), List.getElem?_append_left (by simp; omega)]
    have e1 : (d.toList.map vals)[k]? = some (vals d[k]) := by rw [List.getElem?_map, List.getElem?_eq_getElem (by simpa using (by omega : k < d.size))]; simp
    have e2 : (d'.toList.map vals)[k]? = some (vals d'[k]) := by rw [List.getElem?_map, List.getElem?_eq_getElem (by simpa using hk)]; simp
    rw [e1, e2]
    simp only [Option.map_some, if_pos hk]
    rw [getElem!_pos d' k hk]
  · rw [List.getElem?_append_right (by simp; omega), List.getElem?_append_right (by simp; omega)]
    simp only [List.length_map, Array.length_toList, h]
    have hk' : ¬ k < d.size := by omega
    simp only [if_neg hk']
    cases rest[k - d.size]? <;> rfl
set_option maxHeartbeats 1000000 in
theorem ins_spec {m : Nat} (vals : Fin (m + 1) → Value) (h1 : ∀ i, (vals i).oneCell' = true) (cf : Fin (m + 1) → Fin (m + 1) → Int) (g : Nat) (cb : List Value) (hg : callOk Try.prog g = true) (blk cap : Nat) (ty : TypeId) (d : Array (Fin (m + 1))) (rest : List Value) (a b : Nat) (V : View)
    (hcmp : ∀ i j V', V.le V' → PSpec g ([vals i, vals j] ++ cb) V' (fun v _ => v = .int .i64 (cf i j))) (hab : a ≤ b) (hb : b ≤ d.size) (hd : d.size ≤ 100000) :
    Does Try.prog 111 [.slice (some ⟨blk, 0, none⟩) d.size cap, .int .i64 a, .int .i64 b, .func (.func g) #[] cb.toArray] V [.box blk ty (d.toList.map vals ++ rest)]
      (fun v V' bs => v = .tuple #[] ∧ bs = [.box blk ty ((Sort.insertionSort (ltOf cf) d a b).toList.map vals ++ rest)]) := by
  intro w hw
  obtain ⟨hheap, hnone⟩ : w.heap[blk]? = some (.cells (d.toList.map vals ++ rest).toArray ty (0, 0)) ∧ ∀ o, V blk o = none := hw.ok 0 _ rfl
  have hblk : blk < w.heap.size := (Array.getElem?_eq_some_iff.1 hheap).1
  have hH : Holds vals w blk 0 d := fun j hj => by
    refine ⟨?_, by simp [World.frozen?, hheap]⟩
    rw [Nat.zero_add, cell_box hheap, List.getElem?_append_left (by simpa using hj), List.getElem?_map, List.getElem?_eq_getElem (by simpa using hj), getElem!_pos d j hj]
    simp
  have R : Row1 vals w blk 0 d := ⟨h1, hH, hblk⟩
  have hother : ∀ (n : Nat) (os : Array Obj) (dk : Array (Fin (m + 1))) (k : Nat), k < w.heap.size → k ≠ blk → (sortWorld vals w blk 0 n dk os).heap[k]? = w.heap[k]? := fun n os dk k hk hne => by
    unfold sortWorld grow putRow mapBlock
    rw [Array.getElem?_append_left (by simpa using hk), Array.getElem?_modify, if_neg (fun e => hne e.symm)]
    rfl
  have hsub : ∀ (n : Nat) (os : Array Obj) (dk : Array (Fin (m + 1))), Sub V (sortWorld vals w blk 0 n dk os) := fun n os dk k o v hv => by
    have hne : k ≠ blk := fun e => by rw [e, hnone o] at hv; cases hv
    rw [cell_keep (hother n os dk k (sub_lt hw.sub hv) hne)]
    exact hw.sub k o v hv
  have hcmp' : CmpLays1 Try.prog g cb.toArray vals cf blk 0 d.size w := fun n os dk hs x y => by
    have pre : Pre V [] (sortWorld vals w blk 0 n dk os) := ⟨hsub n os dk, fun i r hr => by simp at hr, fun i j r r' c _ hr => by simp at hr⟩
    have e : (#[vals x, vals y] ++ cb.toArray) = ([vals x, vals y] ++ cb).toArray := by apply Array.ext'; simp
    rw [e]
    refine (hcmp x y V (View.le_refl _) _ pre).mono fun en w' ⟨v, V', bs', he, hv, _, hk, _, _⟩ => ?_
    subst hv
    exact ⟨he, grow_of_kept hk⟩
  have main := Any.insertionSortCmpFunc_s Try.insL vals cf g cb.toArray blk 0 cap a b d d w w (fun args w => callOk_spec hg args) hcmp' R rfl (SW.start hH) hab hb (by omega)
  refine Calls.mono (show Calls Try.prog 111 _ _ _ from main) fun en w' ⟨he, n, os, hw'⟩ => ?_
  have hsz := insSort_size (ltOf cf) a b d
  generalize Sort.insertionSort (ltOf cf) d a b = d' at *
  have hnew : w'.heap[blk]? = some (.cells (d'.toList.map vals ++ rest).toArray ty (0, 0)) := by
    rw [hw']
    unfold sortWorld grow putRow mapBlock
    rw [Array.getElem?_append_left (by simpa using hblk), Array.getElem?_modify, if_pos rfl]
    show Option.map (onCells (putCells vals 0 d')) w.heap[blk]? = _
    rw [hheap]
    simp only [Option.map_some, onCells, put_cells vals d d' rest hsz]
  have hsize : w.heap.size ≤ w'.heap.size := by
    rw [hw']; unfold sortWorld grow putRow mapBlock
    show w.heap.size ≤ ((w.heap.modify blk _) ++ os).size
    rw [Array.size_append, Array.size_modify]; omega
  refine ⟨_, V, [.box blk ty (d'.toList.map vals ++ rest)], he, ⟨rfl, rfl⟩, ⟨?_, ?_, ?_⟩, ?_, ⟨View.le_refl _, fun _ _ _ h => .inl h⟩, ?_⟩
  · rw [hw']; exact hsub n os d'
  · intro i r hr
    cases i with
    | zero =>
      simp only [List.getElem?_cons_zero, Option.some.injEq] at hr
      subst hr
      exact ⟨hnew, hnone⟩
    | succ i => simp at hr
  · intro i j r r' c hij hi hj _ _
    have e1 : i = 0 := by have := (List.getElem?_eq_some_iff.1 hi).1; simp only [List.length_cons, List.length_nil] at this; omega
    have e2 : j = 0 := by have := (List.getElem?_eq_some_iff.1 hj).1; simp only [List.length_cons, List.length_nil] at this; omega
    exact absurd (e1.trans e2.symm) hij
  · refine ⟨by rw [hw']; rfl, by rw [hw']; rfl, by rw [hw']; rfl, by rw [hw']; show w.drawn ≤ w.drawn + n; omega, hsize, fun k hk hm => ?_⟩
    rw [hw']
    exact hother n os d' k hk (fun e => hm ⟨_, List.mem_cons_self, by rw [e]; rfl⟩)
  · rintro c ⟨r, hr, hc⟩
    left
    rw [List.mem_singleton.1 hr] at hc
    exact ⟨_, List.mem_cons_self, hc⟩
end Go.Proofs.Ytenpginanhnkbaa
end

section
set_option linter.unusedSimpArgs false
set_option linter.unusedVariables false
namespace Go.Proofs.Ytenpginanhnkbaa
open Go.X Go.Sort
set_option maxRecDepth 100000

/-! ## to sort, by laying each behind those that it is not less than -/
section
variable {α β : Type}
def kOf (lt : α → α → Bool) (x : α) (l : List α) : Nat → Nat
  | 0 => 0
  | k + 1 => match l[k]? with
    | some y => if lt x y then kOf lt x l k else k + 1
    | none => k + 1
theorem kOf_le (lt : α → α → Bool) (x : α) (l : List α) : ∀ k, kOf lt x l k ≤ k
  | 0 => Nat.le_refl _
  | k + 1 => by
    rw [kOf]
    split
    · split
      · exact Nat.le_succ_of_le (kOf_le lt x l k)
      · exact Nat.le_refl _
    · exact Nat.le_refl _
def insAt (x : α) (l : List α) (k : Nat) : List α := l.take k ++ x :: l.drop k
theorem insAt_len (x : α) (l : List α) (k : Nat) : (insAt x l k).length = l.length + 1 := by
  unfold insAt
  have := congrArg List.length (List.take_append_drop k l)
  rw [List.length_append] at this ⊢
  rw [List.length_cons]; omega
def insF (lt : α → α → Bool) (x : α) (l : List α) : List α := insAt x l (kOf lt x l l.length)
def sortF (lt : α → α → Bool) (acc : List α) : List α → List α
  | [] => acc
  | x :: l => sortF lt (insF lt x acc) l
theorem kOf_map {lt : α → α → Bool} {lt' : β → β → Bool} {f : α → β} (h : ∀ x y, lt x y = lt' (f x) (f y)) (x : α) (l : List α) : ∀ k, kOf lt' (f x) (l.map f) k = kOf lt x l k
  | 0 => rfl
  | k + 1 => by
    rw [kOf, kOf, List.getElem?_map]
    cases l[k]? with
    | none => rfl
    | some y => simp only [Option.map_some]; rw [← h, kOf_map h x l k]
theorem insF_map {lt : α → α → Bool} {lt' : β → β → Bool} {f : α → β} (h : ∀ x y, lt x y = lt' (f x) (f y)) (x : α) (l : List α) : insF lt' (f x) (l.map f) = (insF lt x l).map f := by
  unfold insF insAt
  rw [List.length_map, kOf_map h, List.map_append, List.map_cons, List.map_take, List.map_drop]
theorem sortF_map {lt : α → α → Bool} {lt' : β → β → Bool} {f : α → β} (h : ∀ x y, lt x y = lt' (f x) (f y)) : ∀ (l acc : List α), sortF lt' (acc.map f) (l.map f) = (sortF lt acc l).map f
  | [], acc => rfl
  | x :: l, acc => by rw [List.map_cons, sortF, sortF, insF_map h, sortF_map h l]
theorem sortF_len (lt : α → α → Bool) : ∀ (l acc : List α), (sortF lt acc l).length = acc.length + l.length
  | [], acc => rfl
  | x :: l, acc => by rw [sortF, sortF_len lt l, insF, insAt_len, List.length_cons]; omega
theorem insF_mem {lt : α → α → Bool} {x y : α} {l : List α} (h : y ∈ insF lt x l) : y = x ∨ y ∈ l := by
  unfold insF insAt at h
  rcases List.mem_append.1 h with h | h
  · exact .inr (List.mem_of_mem_take h)
  · rcases List.mem_cons.1 h with h | h
    · exact .inl h
    · exact .inr (List.mem_of_mem_drop h)
theorem sortF_mem {lt : α → α → Bool} {y : α} : ∀ {l acc : List α}, y ∈ sortF lt acc l → y ∈ acc ∨ y ∈ l
  | [], acc, h => .inl h
  | x :: l, acc, h => by
    rw [sortF] at h
    rcases sortF_mem h with h | h
    · rcases insF_mem h with rfl | h
      · exact .inr List.mem_cons_self
      · exact .inl h
    · exact .inr (List.mem_cons_of_mem _ h)
variable [Inhabited α]
theorem swp_list (d : Array α) (a : List α) (x y : α) (r : List α) (j : Nat) (hj : a.length = j) (h : d.toList = a ++ y :: x :: r) : (swp d (j + 1) j).toList = a ++ x :: y :: r := by
  have hsz : d.size = j + (2 + r.length) := by
    have := congrArg List.length h
    simp only [Array.length_toList, List.length_append, List.length_cons] at this
    omega
  have e0 : d[j]! = y := by
    rw [getElem!_pos d j (by omega), ← Array.getElem_toList]
    simp only [h]
    rw [List.getElem_append_right (by omega)]
    simp [hj]
  have e1 : d[j + 1]! = x := by
    rw [getElem!_pos d (j + 1) (by omega), ← Array.getElem_toList]
    simp only [h]
    rw [List.getElem_append_right (by omega)]
    simp [hj]
  unfold swp
  rw [e0, e1]
  simp only [Array.toList_setIfInBounds, h]
  rw [List.set_append_right _ _ (by omega), List.set_append_right _ _ (by omega)]
  rw [show j + 1 - a.length = 1 by omega, show j - a.length = 0 by omega]
  simp
theorem insInner_list (lt : α → α → Bool) (x : α) (l r : List α) : ∀ (j : Nat) (d : Array α), j ≤ l.length → d.toList = insAt x l j ++ r → (insInner lt 0 j d).toList = insAt x l (kOf lt x l j) ++ r
  | 0, d, _, h => by rw [insInner, kOf]; exact h
  | j + 1, d, hj, h => by
    obtain ⟨y, hy⟩ : ∃ y, l[j]? = some y := ⟨_, List.getElem?_eq_getElem (by omega)⟩
    have htake : l.take (j + 1) = l.take j ++ [y] := by rw [List.take_add_one, hy]; rfl
    have hdrop : l.drop j = y :: l.drop (j + 1) := by
      rw [List.drop_eq_getElem_cons (by omega)]
      have e1 : l[j] = y := by rw [List.getElem?_eq_getElem (by omega)] at hy; exact Option.some.inj hy
      rw [e1]
    have h2 : d.toList = l.take j ++ y :: x :: (l.drop (j + 1) ++ r) := by
      rw [h, insAt, htake]; simp
    have hlt : (l.take j).length = j := by rw [List.length_take]; omega
    have hsz : j + 1 < d.size := by
      have := congrArg List.length h2
      simp only [Array.length_toList, List.length_append, List.length_cons, hlt] at this
      omega
    have e0 : d[j]! = y := by
      rw [getElem!_pos d j (by omega), ← Array.getElem_toList]
      simp only [h2]
      rw [List.getElem_append_right (by omega)]
      simp [hlt]
    have e1 : d[j + 1]! = x := by
      rw [getElem!_pos d (j + 1) (by omega), ← Array.getElem_toList]
      simp only [h2]
      rw [List.getElem_append_right (by omega)]
      simp [hlt]
    rw [insInner, kOf, hy, e0, e1]
    simp only [Nat.zero_lt_succ, gt_iff_lt, decide_true, Bool.true_and]
    by_cases hl : lt x y = true
    · rw [if_pos hl, if_pos hl]
      refine insInner_list lt x l r j _ (by omega) ?_
      rw [swp_list d (l.take j) x y (l.drop (j + 1) ++ r) j hlt h2, insAt, hdrop]
      simp
    · rw [if_neg hl, if_neg hl]
      exact h
theorem insOuter_list (lt : α → α → Bool) : ∀ (r l : List α) (i b : Nat) (d : Array α), l.length = i → b = i + r.length → d.toList = l ++ r → (insOuter lt 0 b i d).toList = sortF lt l r
  | [], l, i, b, d, hl, hb, h => by
    rw [insOuter, if_neg (by simp only [List.length_nil] at hb; omega), h, sortF, List.append_nil]
  | x :: r, l, i, b, d, hl, hb, h => by
    rw [List.length_cons] at hb
    rw [insOuter, if_pos (by omega), sortF]
    have h2 : d.toList = insAt x l i ++ r := by
      rw [h, insAt, ← hl, List.take_length, List.drop_length]; simp
    have h3 := insInner_list lt x l r i d (by omega) h2
    refine insOuter_list lt r (insF lt x l) (i + 1) b _ (by rw [insF, insAt_len, hl]) (by omega) ?_
    rw [h3, insF, hl]
theorem insSort_list (lt : α → α → Bool) (d : Array α) : (Sort.insertionSort lt d 0 d.size).toList = sortF lt [] d.toList := by
  unfold Sort.insertionSort
  cases h : d.toList with
  | nil =>
    have hs : d.size = 0 := by have := congrArg List.length h; simpa using this
    rw [insOuter, if_neg (by omega), h]; rfl
  | cons x r =>
    have hs : d.size = 1 + r.length := by have := congrArg List.length h; simp only [Array.length_toList, List.length_cons] at this; omega
    rw [sortF]
    refine insOuter_list lt r (insF lt x []) (0 + 1) d.size d (by rw [insF, insAt_len]; rfl) (by omega) ?_
    rw [h]; rfl
end
end Go.Proofs.Ytenpginanhnkbaa
end
