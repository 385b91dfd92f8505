/- One part of a proof: an evaluator of the model, shown right, and contracts that it yields. No condition beyond those that each theorem names. -/
import Derived.RangeFuncBox
import Derived.RangeFuncLeaves
import Derived.Shelf.Abstract
import Derived.WalkKit
import Derived.OwnWalkIn
import Derived.TacticsInMore
import Derived.LoopNIn
import Derived.LoopIn
import Derived.Maps.AppendAt
import Derived.Maps.RangeRun
import Derived.Sort.MapsRangeIn
import Derived.Test.YtnhllgedoimhkaaGreatDoorZP
import Derived.Test.YtnhllgedoimhkaaGreatDoorProg
set_option linter.unusedSimpArgs false
set_option linter.unusedVariables false
set_option linter.unusedSectionVars false
set_option linter.deprecated false
section
namespace Go.Z
open Go.RowKit Go.ChangeMaps
variable {F : Fence} {n : Nat} {P : Program} {ops : Array Oper} {Q : Exit → Act → World → Prop} {rest : List Oper} {a : Act} {w : World} {o : Oper}
theorem wpListIn_range_at (hg : o.guard = none) (m : Operand) (t : TypeId) (hop : o.op = Op.range t m) (k e : TypeId) (ht : P.underlying t = some (.map k e)) (b : Nat) (es : Array MapEntry) (clock : Nat)
  (hm : a.eval m = .map (some b)) (hb : w.heap[b]? = some (.map es clock))
  (hK : wpListIn F n P ops Q rest (a.put o.dst (.pointer (some ⟨w.heap.size, 0, none⟩))) (w.alloc (.mapIter (some b) clock #[] clock))) :
  wpListIn F n P ops Q (o :: rest) a w := by
 refine wpListIn_plain hg fun K' hK' => ?_
 have hrun := run_range_map (P := P) w t k e b es clock ht hb
 unfold Oper.wpIn
 refine ⟨by simp [Oper.about, hop], ?_⟩
 rw [Oper.semAt_plain F _ _ (by rw [hop]; intro c hc'; cases hc')]
 simp [execOp, hop, hm, hrun, Result.andThen]
 exact hK' _ _ hK
structure NoneLeft (es : Array MapEntry) (seen : Array Nat) : Prop where
 h : (leftOf es seen).size = 0
structure OneLeft (es : Array MapEntry) (seen : Array Nat) (e : MapEntry) : Prop where
 h : e ∈ (leftOf es seen).toList
structure Went (w : World) (r : Nat) (ob : Obj) (w' : World) : Prop where
 h : w' = setBlock w r ob ∨ w' = setBlock w.drew r ob
theorem wpListIn_next_at (hg : o.guard = none) (it : Operand) (hop : o.op = Op.next it false) (r bm since c0 : Nat) (seen : Array Nat) (es : Array MapEntry) (clock : Nat)
  (hit : a.eval it = .pointer (some ⟨r, 0, none⟩)) (hr : w.heap[r]? = some (.mapIter (some bm) since seen c0)) (hb : w.heap[bm]? = some (.map es clock)) (hold : ∀ x ∈ es.toList, x.born < since) (hsc : since ≤ c0)
  (hDone : NoneLeft es seen → wpListIn F n P ops Q rest (a.put o.dst (.tuple #[.bool false])) w)
  (hMore : ∀ e w', OneLeft es seen e → Went w r (.mapIter (some bm) since (seen.push e.born) clock) w' → wpListIn F n P ops Q rest (a.put o.dst (.tuple #[.bool true, e.key, e.val])) w') :
  wpListIn F n P ops Q (o :: rest) a w := by
 refine wpListIn_plain hg fun K' hK' => ?_
 unfold Oper.wpIn
 refine ⟨by simp [Oper.about, hop], ?_⟩
 rw [Oper.semAt_plain F _ _ (by rw [hop]; intro c hc'; cases hc')]
 rcases run_next_at (P := P) w o.type r bm since c0 seen es clock hr hb hold hsc with ⟨h0, hrun⟩ | ⟨e, he, w1, hw1, hrun⟩
 ·simp [execOp, hop, hit, hrun, Result.andThen]
  exact hK' _ _ (hDone ⟨h0⟩)
 ·simp [execOp, hop, hit, hrun, Result.andThen]
  exact hK' _ _ (hMore e _ ⟨he⟩ ⟨by rcases hw1 with rfl | rfl; exact .inl rfl; exact .inr rfl⟩)
def iterLeft (w : World) (b r : Nat) : Nat :=
 match w.heap[b]?, w.heap[r]? with
 | some (.map es _), some (.mapIter _ _ seen _) => (leftOf es seen).size
 | _, _ => 0
theorem mem_leftOf {es : Array MapEntry} {seen : Array Nat} {e : MapEntry} (h : OneLeft es seen e) : e ∈ es.toList ∧ e.born ∉ seen.toList := by
 replace h := h.h
 unfold leftOf at h
 simp at h
 exact ⟨by simpa using h.1, by simpa using h.2⟩
theorem leftOf_mem {es : Array MapEntry} {seen : Array Nat} {e : MapEntry} (h1 : e ∈ es.toList) (h2 : e.born ∉ seen.toList) : e ∈ (leftOf es seen).toList := by
 unfold leftOf
 simp
 exact ⟨by simpa using h1, by simpa using h2⟩
theorem grownBy_setBlock {r : Nat} {ob : Obj} {w' : World} (h : Went w r ob w') : w.grownBy w' (some r) := by
 rcases h.h with rfl | rfl
 ·exact ⟨rfl, rfl, rfl, Nat.le_of_eq (by show _ = (w.heap.setIfInBounds r ob).size; rw [Array.size_setIfInBounds]), fun k _ hk => by
   show (w.heap.setIfInBounds r ob)[k]? = _
   rw [Array.getElem?_setIfInBounds_ne (fun e => hk (by rw [e]))]⟩
 ·exact ⟨rfl, rfl, rfl, Nat.le_of_eq (by show _ = (w.heap.setIfInBounds r ob).size; rw [Array.size_setIfInBounds]), fun k _ hk => by
   show (w.heap.setIfInBounds r ob)[k]? = _
   rw [Array.getElem?_setIfInBounds_ne (fun e => hk (by rw [e]))]⟩
theorem setBlock_at {r : Nat} {ob : Obj} {w' : World} (h : Went w r ob w') (hlt : r < w.heap.size) : w'.heap[r]? = some ob := by
 have : (w.heap.setIfInBounds r ob)[r]? = some ob := by rw [Array.getElem?_setIfInBounds_self_of_lt hlt]
 rcases h.h with rfl | rfl
 ·exact this
 ·exact this
def Got (q : IntKind) (es : Array MapEntry) (seen : Array Nat) (ks : List Int) : Prop := ∃ l : List MapEntry, (∀ e ∈ l, e ∈ es.toList) ∧ l.map (·.born) = seen.toList ∧ l.map (·.key) = ks.map (Value.int q) ∧ seen.toList.Nodup
theorem born_inj : ∀ {l : List MapEntry}, (l.map (·.born)).Nodup → ∀ {x y : MapEntry}, x ∈ l → y ∈ l → x.born = y.born → x = y
 | [], _, _, _, hx, _, _ => by cases hx
 | a :: l, h, x, y, hx, hy, e => by
  rw [List.map_cons, List.nodup_cons] at h
  have no : ∀ z ∈ l, z.born ≠ a.born := fun z hz e => h.1 (List.mem_map.2 ⟨z, hz, e⟩)
  rcases List.mem_cons.1 hx with hxa | hx
  ·rcases List.mem_cons.1 hy with hya | hy
   ·rw [hxa, hya]
   ·exact absurd (by rw [← e, hxa]) (no y hy)
  ·rcases List.mem_cons.1 hy with hya | hy
   ·exact absurd (by rw [e, hya]) (no x hx)
   ·exact born_inj h.2 hx hy e
theorem nodup_of_born : ∀ {l : List MapEntry}, (l.map (·.born)).Nodup → l.Nodup
 | [], _ => List.nodup_nil
 | a :: l, h => by
  rw [List.map_cons, List.nodup_cons] at h
  exact List.nodup_cons.2 ⟨fun hm => h.1 (List.mem_map.2 ⟨a, hm, rfl⟩), nodup_of_born h.2⟩
theorem nats_le : ∀ {l m : List Nat}, l.Nodup → (∀ x ∈ l, x ∈ m) → l.length ≤ m.length
 | [], _, _, _ => Nat.zero_le _
 | a :: l, m, h, hs => by
  have h1 := List.nodup_cons.1 h
  have ha := hs a (by simp)
  have := nats_le (l := l) (m := m.erase a) h1.2 fun x hx => (List.mem_erase_of_ne (fun e : x = a => h1.1 (by rw [← e]; exact hx))).2 (hs x (by simp [hx]))
  rw [List.length_erase_of_mem ha] at this
  have hpos : 0 < m.length := List.length_pos_of_mem ha
  simp only [List.length_cons]
  omega
theorem got_all {q : IntKind} {es : Array MapEntry} {seen : Array Nat} {ks : List Int} (h0 : NoneLeft es seen) (h : Got q es seen ks) (hnd : (es.toList.map (·.born)).Nodup) : (ks.map (Value.int q)).Perm (es.toList.map (·.key)) := by
 obtain ⟨l, h1, h2, h3, h4⟩ := h
 rw [← h3]
 have hl : l.Nodup := nodup_of_born (h2 ▸ h4)
 refine List.Perm.map _ ((List.perm_ext_iff_of_nodup hl (nodup_of_born hnd)).2 fun e => ⟨h1 e, fun he => ?_⟩)
 have hz : (leftOf es seen).toList = [] := List.eq_nil_of_length_eq_zero (by simpa using h0.h)
 have hin : e.born ∈ seen.toList := by
  by_cases hc : e.born ∈ seen.toList
  ·exact hc
  ·have := leftOf_mem he hc
   rw [hz] at this
   cases this
 rw [← h2] at hin
 obtain ⟨x, hx, hxe⟩ := List.mem_map.1 hin
 exact born_inj hnd (h1 x hx) he hxe ▸ hx
theorem got_push {q : IntKind} {es : Array MapEntry} {seen : Array Nat} {ks : List Int} (h : Got q es seen ks) {e : MapEntry} (he : e ∈ es.toList) (hs : e.born ∉ seen.toList) {k : Int} (hk : e.key = .int q k) : Got q es (seen.push e.born) (ks ++ [k]) := by
 obtain ⟨l, h1, h2, h3, h4⟩ := h
 refine ⟨l ++ [e], fun x hx => ?_, by simp [h2], by simp [h3, hk], ?_⟩
 ·rcases List.mem_append.1 hx with hx | hx
  ·exact h1 x hx
  ·rw [List.mem_singleton] at hx; subst hx; exact he
 ·rw [Array.toList_push]
  refine List.nodup_append.2 ⟨h4, by simp, fun a ha b hb hab => ?_⟩
  rw [List.mem_singleton] at hb
  subst hb; subst hab
  exact hs ha
theorem got_lt {q : IntKind} {es : Array MapEntry} {seen : Array Nat} {ks : List Int} (h : Got q es seen ks) {e : MapEntry} (he : e ∈ es.toList) (hs : e.born ∉ seen.toList) : ks.length < es.size := by
 obtain ⟨l, h1, h2, h3, h4⟩ := h
 have hl : ks.length = l.length := by have := congrArg List.length h3; simpa using this.symm
 have hl2 : l.length = seen.size := by have := congrArg List.length h2; simpa using this
 have := nats_le (l := e.born :: seen.toList) (m := es.toList.map (·.born)) (List.nodup_cons.2 ⟨hs, h4⟩) fun x hx => by
  rcases List.mem_cons.1 hx with rfl | hx
  ·exact List.mem_map.2 ⟨e, he, rfl⟩
  ·rw [← h2] at hx
   obtain ⟨y, hy, rfl⟩ := List.mem_map.1 hx
   exact List.mem_map.2 ⟨y, h1 y hy, rfl⟩
 simp only [List.length_cons, List.length_map, Array.length_toList] at this
 rw [hl, hl2]
 exact this
theorem iterLeft_lt {wr w' : World} {b r since c0 c1 : Nat} {seen : Array Nat} {es : Array MapEntry} {clock : Nat} {e : MapEntry} (hr : wr.heap[r]? = some (.mapIter (some b) since seen c0)) (hb : wr.heap[b]? = some (.map es clock))
  (hr' : w'.heap[r]? = some (.mapIter (some b) since (seen.push e.born) c1)) (hb' : w'.heap[b]? = some (.map es clock)) (he : e ∈ es.toList) (hs : e.born ∉ seen.toList) : iterLeft w' b r < iterLeft wr b r := by
 have h1 : iterLeft wr b r = (leftOf es seen).size := by unfold iterLeft; rw [hb, hr]
 have h2 : iterLeft w' b r = (leftOf es (seen.push e.born)).size := by unfold iterLeft; rw [hb', hr']
 rw [h1, h2]
 have e1 : ∀ a : Array Nat, (leftOf es a).size = (es.toList.filter fun e => !a.contains e.born).length := fun a => by
  unfold leftOf
  rw [← Array.length_toList, Array.toList_filter]
 rw [e1, e1]
 have himp : ∀ x : MapEntry, (!(seen.push e.born).contains x.born) = true → (!seen.contains x.born) = true := fun x h => by
  simp only [Array.contains_push, Bool.not_eq_true', Bool.or_eq_false_iff] at h ⊢
  exact h.1
 have h1 : (!(seen.push e.born).contains e.born) = false := by simp
 have h2 : (!seen.contains e.born) = true := by simpa using hs
 have hle : ∀ l : List MapEntry, (l.filter fun x => !(seen.push e.born).contains x.born).length ≤ (l.filter fun x => !seen.contains x.born).length := fun l => by
  induction l with
  | nil => simp
  | cons x l ih =>
   rw [List.filter_cons, List.filter_cons]
   cases h3 : !(seen.push e.born).contains x.born with
   | true => rw [himp x h3]; simp only [if_true, List.length_cons]; omega
   | false =>
    cases h4 : !seen.contains x.born with
    | true => simp only [Bool.false_eq_true, if_false, if_true, List.length_cons]; omega
    | false => simp only [Bool.false_eq_true, if_false]; exact ih
 have key : ∀ l : List MapEntry, e ∈ l → (l.filter fun x => !(seen.push e.born).contains x.born).length < (l.filter fun x => !seen.contains x.born).length := by
  intro l
  induction l with
  | nil => intro h; cases h
  | cons x l ih =>
   intro h
   rw [List.filter_cons, List.filter_cons]
   by_cases hx : x = e
   ·rw [hx, h1, h2]
    simp only [Bool.false_eq_true, if_false, if_true, List.length_cons]
    have := hle l
    omega
   ·have hm : e ∈ l := by
     rcases List.mem_cons.1 h with h | h
     ·exact absurd h.symm hx
     ·exact h
    have := ih hm
    cases h3 : !(seen.push e.born).contains x.born with
    | true => rw [himp x h3]; simp only [if_true, List.length_cons]; omega
    | false =>
     cases h4 : !seen.contains x.born with
     | true => simp only [Bool.false_eq_true, if_false, if_true, List.length_cons]; omega
     | false => simp only [Bool.false_eq_true, if_false]; exact this
 exact key es.toList he
end Go.Z
end

section
namespace Go.Proofs
open Go.RowKit Go.Shelf Go.ChangeMaps
attribute [local go_sem] Oper.semAt_some
section SU
set_option maxRecDepth 100000 in
set_option maxHeartbeats 1000000 in
theorem SU.keys_in (F : Fence) (n : Nat) (hF : F.fn 438) (hro : F.round = none) (hn : 1 ≤ n) (l Bn bm : Nat) (es : Array MapEntry) (clock : Nat) (hborn : ∀ x ∈ es.toList, x.born < clock) (hnd : (es.toList.map (·.born)).Nodup) (hk : ∀ e ∈ es.toList, ∃ k : Int, e.key = .int .u64 k)
  (J Jx : List Int → World → Prop)
  (hY : ∀ pre x W, J pre W → pre.length < es.size → YieldAt F (n - 1) Tryz.prog l #[.int .u64 x] W fun e W' => (e = .returned (.bool true) ∧ J (pre ++ [x]) W' ∧ KeepsWalks W W') ∨ (e = .returned (.bool false) ∧ Jx (pre ++ [x]) W'))
  (W : World) (hJ : AbidesFrom W.heap.size J) (hBn : W.cell? ⟨Bn, 0, none⟩ = some (.map (some bm))) (hb : W.heap[bm]? = some (.map es clock)) (h0 : J [] W) :
  CallsIn F n Tryz.prog 438 #[.func (.yield l) #[] #[], .pointer (some ⟨Bn, 0, none⟩)] W fun e W' => (∃ v, e = .returned v) ∧
   ((∃ ys, (ys.map (Value.int .u64)).Perm (es.toList.map (·.key)) ∧ J ys W') ∨ (∃ pre, True ∧ Jx pre W')) := by
 refine callsIn_of_wp Tryz.func438 rfl hF ?_ hro
 simp only [Tryz.ntmps438, List.size_toArray, List.length_cons, List.length_nil, Nat.reduceAdd, Nat.reduceSub, Array.replicate_succ, Array.replicate_zero, List.push_toArray, List.append_toArray, List.nil_append, List.cons_append]
 gi_wp2_with (first
  | (gi_at_range; refine Z.wpListIn_range_at rfl _ 404 rfl _ _ Tryz.underlying404 bm es clock rfl hb ?_)
  | gi_in)
 go_frame
 have hg0 : W.grownBy (W.alloc (.mapIter (some bm) clock #[] clock)) none := World.grownBy_alloc W _ none
 have hJ0 : J [] (W.alloc (.mapIter (some bm) clock #[] clock)) := hJ [] W _ none h0 hg0 (fun r e => by cases e)
 have hr0 : (W.alloc (.mapIter (some bm) clock #[] clock)).heap[W.heap.size]? = some (.mapIter (some bm) clock #[] clock) := World.alloc_heap_new W _
 have hb0 : (W.alloc (.mapIter (some bm) clock #[] clock)).heap[bm]? = some (.map es clock) := (hg0.block bm (Array.getElem?_eq_some_iff.1 hb).1 (by simp)).trans hb
 generalize W.alloc (.mapIter (some bm) clock #[] clock) = W0 at hJ0 hr0 hb0
 have hne : bm ≠ W.heap.size := by have := (Array.getElem?_eq_some_iff.1 hb).1; omega
 gi_loopw [3] (fun _ wr => ∃ (seen : Array Nat) (c0 : Nat) (ks : List Int), clock ≤ c0 ∧ wr.heap[W.heap.size]? = some (.mapIter (some bm) clock seen c0) ∧ wr.heap[bm]? = some (.map es clock) ∧ Z.Got .u64 es seen ks ∧ J ks wr)
  (fun _ wr => Z.iterLeft wr bm W.heap.size)
 case atStart =>
  exact ⟨#[], clock, [], Nat.le_refl _, hr0, hb0, ⟨[], by simp, rfl, rfl, List.nodup_nil⟩, hJ0⟩
 case round =>
  obtain ⟨seen, c0, ks, hc0, hr, hbm, hgot, hJs⟩ := hrel
  gi_wp2_with (first
   | (gi_at_next; refine Z.wpListIn_next_at rfl _ rfl W.heap.size bm clock c0 seen es clock rfl hr hbm hborn hc0 ?_ ?_)
   | gi_in)
  ·intro hz
   gi_wp2
   go_end0
   exact ⟨⟨_, rfl⟩, .inl ⟨ks, Z.got_all hz hgot hnd, hJs⟩⟩
  ·intro e w2 he hw2
   obtain ⟨hem, hes⟩ := Z.mem_leftOf he
   obtain ⟨x, hx⟩ := hk e hem
   have hlt := (Array.getElem?_eq_some_iff.1 hr).1
   have hgr : wr.grownBy w2 (some W.heap.size) := Z.grownBy_setBlock hw2
   have hr2 : w2.heap[W.heap.size]? = some (.mapIter (some bm) clock (seen.push e.born) clock) := Z.setBlock_at hw2 hlt
   have hb2 : w2.heap[bm]? = some (.map es clock) := (hgr.block bm (Array.getElem?_eq_some_iff.1 hbm).1 (by intro h; cases h; exact hne rfl)).trans hbm
   have hen := run_entry_at (P := Tryz.prog) w2 W.heap.size bm clock seen es clock e hr2 hb2 hem hnd
   have hJ2 : J ks w2 := hJ ks wr w2 (some W.heap.size) hJs hgr (fun r e => by cases e; exact ⟨Nat.le_refl _, _, hr, rfl⟩)
   have hlen : ks.length < es.size := Z.got_lt hgot hem hes
   rw [hx] at hen ⊢
   obtain ⟨fn, tmps, assign, body, hy, hR⟩ := hY ks x w2 hJ2 hlen
   gi_wp2
   refine hR.mono ?_
   rintro e3 W3 (⟨rfl, hJ3, hk3⟩ | ⟨rfl, hJx3⟩)
   ·gi_wp2
    have hr3 := hk3.same _ _ hr2 rfl
    have hb3 := hk3.same _ _ hb2 rfl
    go_roundw
    case rel => exact ⟨seen.push e.born, clock, ks ++ [x], Nat.le_refl _, hr3, hb3, Z.got_push hgot hem hes hx, hJ3⟩
    case measure => exact Z.iterLeft_lt hr hbm hr3 hb3 hem hes
   ·gi_wp2
    refine bodyPost_ret (results_none rfl _ _ _) rfl ?_
    exact ⟨⟨_, rfl⟩, .inr ⟨ks ++ [x], trivial, hJx3⟩⟩
end SU
section SU
theorem SU.info : (Tryz.prog.info? 29).map (fun i => (i.zero, i.size, i.bytes)) = some (some (.int .u64 0), 1, 8) := by kernel_rfl
set_option maxRecDepth 100000 in
set_option maxHeartbeats 2000000 in
theorem SU.append_of (F : Fence) (n : Nat) (hA : F.fn 486) (hF : F.fn 438) (hro : F.round = none) (hn : 3 ≤ n) (Bn N : Nat) (S : List Int → Prop) (hlen : N ≤ maxLen) (hbytes : N * 8 ≤ 140737488355328) (w : World)
  (hseq : SeqStopsK F (n - 1) Tryz.prog 438 #[.pointer (some ⟨Bn, 0, none⟩)] (fun x : Int => #[Value.int .u64 x]) KeepsWalks S (fun _ => True) N w) :
  CallsIn F n Tryz.prog 486 #[.slice none 0 0, .func (.func 438) #[] #[.pointer (some ⟨Bn, 0, none⟩)]] w fun e W' => ∃ (v : Value) (ks : List Int), e = .returned v ∧ S ks ∧ W'.ownsRow w.heap.size 29 1 v ks.length (ks.map (Value.int .u64)) ∧ (v = .slice none 0 0 ↔ ks = []) ∧ Below w.heap.size w W' := by
 have h1 : 1 ≤ n := by omega
 obtain ⟨i0, hi, hz0, hz1, hz2⟩ := info_parts SU.info
 refine callsIn_of_wp_marks Tryz.func486 rfl hA ?_ hro
 simp only [Tryz.ntmps486, List.size_toArray, List.length_cons, List.length_nil, Nat.reduceAdd, Nat.reduceSub, Array.replicate_succ, Array.replicate_zero, List.push_toArray, List.append_toArray, List.nil_append, List.cons_append]
 gi_wp2
 have bO := Boxed.new w 419 (.slice none 0 0)
 have hB0 : Below w.heap.size w (w.alloc (.cells #[.slice none 0 0] 419)) := (Below.refl _ w).alloc (Nat.le_refl _) _
 refine wpIn_rangeFunc_ownG hro h1 (gf := 438) (lb := #[.pointer (some ⟨Bn, 0, none⟩)]) rfl hF (enters_of Tryz.func438 (by kernel_rfl) rfl)
  hseq walksK_t walksK_b hB0 (fun _ => rfl)
  (fun pre W => (∃ v, Boxed W w.heap.size 419 v ∧ W.ownsRow w.heap.size 29 1 v pre.length (pre.map (Value.int .u64)) ∧ (v = .slice none 0 0 ↔ pre = [])) ∧ Below w.heap.size w W)
  (fun _ _ _ => False)
  (OwnFrom.and (Own.from (holdsRow_own w.heap.size w.heap.size 419 29 1 (fun pre : List Int => pre.length) (fun pre => pre.map (Value.int .u64)) (fun pre v => v = .slice none 0 0 ↔ pre = [])) _) (ownFrom_below (Nat.le_refl _) (by simp)))
  (fun _ _ _ _ _ hs _ _ => hs)
  ⟨⟨_, bO, World.ownsRow_nil _ _ _ _, by simp⟩, hB0⟩
  (fun x => { tmps := #[.slice none 0 0, .func (.func 438) #[] #[.pointer (some ⟨Bn, 0, none⟩)], .pointer (some ⟨w.heap.size, 0, none⟩), undef, .slice none 0 0, .int .u64 x, .func (.func 438) #[] #[.pointer (some ⟨Bn, 0, none⟩)], .int .u64 x, undef, undef, undef, undef, undef], defers := [] }) ?assign ?body ?done ?stop
 case assign =>
  intro l x W K hK
  gi_wp2
  exact hK
 case body =>
  rintro l pre x W ⟨⟨v, hv, hrow, hnil⟩, hB⟩ hlt
  have hc := hv.cell
  gi_wp2_with (gi_at_builtin; refine wpListIn_append_own _ rfl _ _ 419 rfl w.heap.size 29 i0 (.int .u64 0) 1 8 Tryz.underlying419 hi hz0 hz1 hz2 rfl (by decide) _ _ _ rfl (hrow.alloc _) ⟨W.heap.size, 0, none⟩ 1 1 [.int .u64 x] rfl rfl (cell_one_new _ _ _) (by simp [Value.oneCell']) (by omega) (by omega) (by have := hB.size; simp; omega) ?_; intro v' w1 hown' hgrow _; obtain ⟨g', cap', rfl⟩ := ownsRow_succ hown'; obtain ⟨hv1, hv2, hr2, hk2, hb2⟩ := hv.appended (by decide) hrow hB.size (Nat.le_refl _) hown' hgrow; have hc1 := hv1.cell; have hf1 := hv1.frozen)
  exact ⟨hk2.from _, hk2.walks, ⟨_, hv2, by simpa using hr2, by simp⟩, hB.trans hb2⟩
 case done =>
  rintro D ys W hD hS ⟨⟨v, hv, hrow, hnil⟩, hB⟩ hK
  have hc := hv.cell
  gi_wp2
  refine ⟨by simp, .inl ⟨_, _, rfl, run_takeDeferred hK, ?_⟩⟩
  exact ⟨_, results_tmp rfl _ _ _, v, ys, rfl, hS, ownsRow_putObj hrow _ hK rfl, hnil, hB.trans (belowK_b (w := w) (Nat.le_refl _) W D _ _ (by simp at hD; omega) hK rfl rfl)⟩
 case stop =>
  rintro D c pre W _ _ h _
  exact h.elim
theorem SU.append_in (F : Fence) (n : Nat) (hA : F.fn 486) (hF : F.fn 438) (hro : F.round = none) (hn : 3 ≤ n) (Bn bm : Nat) (es : Array MapEntry) (clock : Nat) (hborn : ∀ x ∈ es.toList, x.born < clock) (hnd : (es.toList.map (·.born)).Nodup) (hk : ∀ e ∈ es.toList, ∃ k : Int, e.key = .int .u64 k)
  (hlen : es.size ≤ maxLen) (hbytes : es.size * 8 ≤ 140737488355328) (w : World) (hBn : w.cell? ⟨Bn, 0, none⟩ = some (.map (some bm))) (hBl : Bn < w.heap.size) (hb : w.heap[bm]? = some (.map es clock)) :
  CallsIn F n Tryz.prog 486 #[.slice none 0 0, .func (.func 438) #[] #[.pointer (some ⟨Bn, 0, none⟩)]] w fun e W' => ∃ (v : Value) (ks : List Int), e = .returned v ∧ (ks.map (Value.int .u64)).Perm (es.toList.map (·.key)) ∧ W'.ownsRow w.heap.size 29 1 v ks.length (ks.map (Value.int .u64)) ∧ (v = .slice none 0 0 ↔ ks = []) ∧ Below w.heap.size w W' := by
 have hbl : bm < w.heap.size := (Array.getElem?_eq_some_iff.1 hb).1
 exact SU.append_of F n hA hF hro hn Bn es.size (fun ks => (ks.map (Value.int .u64)).Perm (es.toList.map (·.key))) hlen hbytes w
  (fun l J Jx W hW hJ _ hY h0 => SU.keys_in F (n - 1) hF hro (by omega) l Bn bm es clock hborn hnd hk J Jx hY W hJ ((hW.cell (p := ⟨Bn, 0, none⟩) hBl).trans hBn) ((hW.block bm hbl).trans hb) h0)
set_option maxRecDepth 100000 in
set_option maxHeartbeats 1000000 in
theorem SU.keys_nil_in (F : Fence) (n : Nat) (hF : F.fn 438) (hro : F.round = none) (l Bn : Nat) (J : List Int → World → Prop) (W : World) (hJ : AbidesFrom W.heap.size J)
  (hBn : W.cell? ⟨Bn, 0, none⟩ = some (.map none)) (h0 : J [] W) :
  CallsIn F n Tryz.prog 438 #[.func (.yield l) #[] #[], .pointer (some ⟨Bn, 0, none⟩)] W fun e W' => (∃ v, e = .returned v) ∧ J [] W' := by
 refine callsIn_of_wp Tryz.func438 rfl hF ?_ hro
 simp only [Tryz.ntmps438, List.size_toArray, List.length_cons, List.length_nil, Nat.reduceAdd, Nat.reduceSub, Array.replicate_succ, Array.replicate_zero, List.push_toArray, List.append_toArray, List.nil_append, List.cons_append]
 have hrg := run_range_nilMap (P := Tryz.prog) W 404 _ _ Tryz.underlying404
 have hnx : ∀ ty, (Instr.next (.pointer (some ⟨W.heap.size, 0, none⟩)) false ty).run Tryz.prog (W.alloc (.mapIter none 0 #[] 0)) = _ := fun ty => run_next_nilMap _ ty 0 0 #[]
 gi_wp2
 refine wpIn_loop_rounds 1 ?_
 rw [roundsIn_succ]
 gi_wp2
 go_end0
 exact ⟨⟨_, rfl⟩, hJ [] W _ none h0 (World.grownBy_alloc W _ none) (fun r e => by cases e)⟩
theorem SU.append_nil_in (F : Fence) (n : Nat) (hA : F.fn 486) (hF : F.fn 438) (hro : F.round = none) (hn : 3 ≤ n) (Bn : Nat) (w : World) (hBn : w.cell? ⟨Bn, 0, none⟩ = some (.map none)) (hBl : Bn < w.heap.size) :
  CallsIn F n Tryz.prog 486 #[.slice none 0 0, .func (.func 438) #[] #[.pointer (some ⟨Bn, 0, none⟩)]] w fun e W' => e = .returned (.slice none 0 0) ∧ Below w.heap.size w W' :=
 (SU.append_of F n hA hF hro hn Bn 0 (fun ks => ks = []) (Nat.zero_le _) (by omega) w
  (fun l J Jx W hW hJ _ hY h0 => (SU.keys_nil_in F (n - 1) hF hro l Bn J W hJ ((hW.cell (p := ⟨Bn, 0, none⟩) hBl).trans hBn) h0).mono fun _ _ h => ⟨h.1, .inl ⟨[], rfl, h.2⟩⟩)).mono
  fun _ _ ⟨v, ks, he, hs, _, hnil, hB⟩ => ⟨by rw [he, hnil.2 hs], hB⟩
theorem SU.keys : Z.AppendsKeys Tryz.prog 486 438 .u64 29 where
 full Bn bm es clock w h1 h2 h3 h4 h5 h6 h7 := callsIn_wide.1 (SU.append_in Fence.wide 3 trivial trivial rfl (Nat.le_refl _) Bn bm es clock h1 h2 h3 (by unfold maxLen; omega) (by omega) w h5 h6 h7)
 nil Bn w h5 h6 := callsIn_wide.1 (SU.append_nil_in Fence.wide 3 trivial trivial rfl (Nat.le_refl _) Bn w h5 h6)
end SU
section SI
set_option maxRecDepth 100000 in
set_option maxHeartbeats 1000000 in
theorem SI.keys_in (F : Fence) (n : Nat) (hF : F.fn 537) (hro : F.round = none) (hn : 1 ≤ n) (l Bn bm : Nat) (es : Array MapEntry) (clock : Nat) (hborn : ∀ x ∈ es.toList, x.born < clock) (hnd : (es.toList.map (·.born)).Nodup) (hk : ∀ e ∈ es.toList, ∃ k : Int, e.key = .int .i64 k)
  (J Jx : List Int → World → Prop)
  (hY : ∀ pre x W, J pre W → pre.length < es.size → YieldAt F (n - 1) Tryz.prog l #[.int .i64 x] W fun e W' => (e = .returned (.bool true) ∧ J (pre ++ [x]) W' ∧ KeepsWalks W W') ∨ (e = .returned (.bool false) ∧ Jx (pre ++ [x]) W'))
  (W : World) (hJ : AbidesFrom W.heap.size J) (hBn : W.cell? ⟨Bn, 0, none⟩ = some (.map (some bm))) (hb : W.heap[bm]? = some (.map es clock)) (h0 : J [] W) :
  CallsIn F n Tryz.prog 537 #[.func (.yield l) #[] #[], .pointer (some ⟨Bn, 0, none⟩)] W fun e W' => (∃ v, e = .returned v) ∧
   ((∃ ys, (ys.map (Value.int .i64)).Perm (es.toList.map (·.key)) ∧ J ys W') ∨ (∃ pre, True ∧ Jx pre W')) := by
 refine callsIn_of_wp Tryz.func537 rfl hF ?_ hro
 simp only [Tryz.ntmps537, List.size_toArray, List.length_cons, List.length_nil, Nat.reduceAdd, Nat.reduceSub, Array.replicate_succ, Array.replicate_zero, List.push_toArray, List.append_toArray, List.nil_append, List.cons_append]
 gi_wp2_with (first
  | (gi_at_range; refine Z.wpListIn_range_at rfl _ 403 rfl _ _ Tryz.underlying403 bm es clock rfl hb ?_)
  | gi_in)
 go_frame
 have hg0 : W.grownBy (W.alloc (.mapIter (some bm) clock #[] clock)) none := World.grownBy_alloc W _ none
 have hJ0 : J [] (W.alloc (.mapIter (some bm) clock #[] clock)) := hJ [] W _ none h0 hg0 (fun r e => by cases e)
 have hr0 : (W.alloc (.mapIter (some bm) clock #[] clock)).heap[W.heap.size]? = some (.mapIter (some bm) clock #[] clock) := World.alloc_heap_new W _
 have hb0 : (W.alloc (.mapIter (some bm) clock #[] clock)).heap[bm]? = some (.map es clock) := (hg0.block bm (Array.getElem?_eq_some_iff.1 hb).1 (by simp)).trans hb
 generalize W.alloc (.mapIter (some bm) clock #[] clock) = W0 at hJ0 hr0 hb0
 have hne : bm ≠ W.heap.size := by have := (Array.getElem?_eq_some_iff.1 hb).1; omega
 gi_loopw [3] (fun _ wr => ∃ (seen : Array Nat) (c0 : Nat) (ks : List Int), clock ≤ c0 ∧ wr.heap[W.heap.size]? = some (.mapIter (some bm) clock seen c0) ∧ wr.heap[bm]? = some (.map es clock) ∧ Z.Got .i64 es seen ks ∧ J ks wr)
  (fun _ wr => Z.iterLeft wr bm W.heap.size)
 case atStart =>
  exact ⟨#[], clock, [], Nat.le_refl _, hr0, hb0, ⟨[], by simp, rfl, rfl, List.nodup_nil⟩, hJ0⟩
 case round =>
  obtain ⟨seen, c0, ks, hc0, hr, hbm, hgot, hJs⟩ := hrel
  gi_wp2_with (first
   | (gi_at_next; refine Z.wpListIn_next_at rfl _ rfl W.heap.size bm clock c0 seen es clock rfl hr hbm hborn hc0 ?_ ?_)
   | gi_in)
  ·intro hz
   gi_wp2
   go_end0
   exact ⟨⟨_, rfl⟩, .inl ⟨ks, Z.got_all hz hgot hnd, hJs⟩⟩
  ·intro e w2 he hw2
   obtain ⟨hem, hes⟩ := Z.mem_leftOf he
   obtain ⟨x, hx⟩ := hk e hem
   have hlt := (Array.getElem?_eq_some_iff.1 hr).1
   have hgr : wr.grownBy w2 (some W.heap.size) := Z.grownBy_setBlock hw2
   have hr2 : w2.heap[W.heap.size]? = some (.mapIter (some bm) clock (seen.push e.born) clock) := Z.setBlock_at hw2 hlt
   have hb2 : w2.heap[bm]? = some (.map es clock) := (hgr.block bm (Array.getElem?_eq_some_iff.1 hbm).1 (by intro h; cases h; exact hne rfl)).trans hbm
   have hen := run_entry_at (P := Tryz.prog) w2 W.heap.size bm clock seen es clock e hr2 hb2 hem hnd
   have hJ2 : J ks w2 := hJ ks wr w2 (some W.heap.size) hJs hgr (fun r e => by cases e; exact ⟨Nat.le_refl _, _, hr, rfl⟩)
   have hlen : ks.length < es.size := Z.got_lt hgot hem hes
   rw [hx] at hen ⊢
   obtain ⟨fn, tmps, assign, body, hy, hR⟩ := hY ks x w2 hJ2 hlen
   gi_wp2
   refine hR.mono ?_
   rintro e3 W3 (⟨rfl, hJ3, hk3⟩ | ⟨rfl, hJx3⟩)
   ·gi_wp2
    have hr3 := hk3.same _ _ hr2 rfl
    have hb3 := hk3.same _ _ hb2 rfl
    go_roundw
    case rel => exact ⟨seen.push e.born, clock, ks ++ [x], Nat.le_refl _, hr3, hb3, Z.got_push hgot hem hes hx, hJ3⟩
    case measure => exact Z.iterLeft_lt hr hbm hr3 hb3 hem hes
   ·gi_wp2
    refine bodyPost_ret (results_none rfl _ _ _) rfl ?_
    exact ⟨⟨_, rfl⟩, .inr ⟨ks ++ [x], trivial, hJx3⟩⟩
end SI
section SI
theorem SI.info : (Tryz.prog.info? 3).map (fun i => (i.zero, i.size, i.bytes)) = some (some (.int .i64 0), 1, 8) := by kernel_rfl
set_option maxRecDepth 100000 in
set_option maxHeartbeats 2000000 in
theorem SI.append_of (F : Fence) (n : Nat) (hA : F.fn 364) (hF : F.fn 537) (hro : F.round = none) (hn : 3 ≤ n) (Bn N : Nat) (S : List Int → Prop) (hlen : N ≤ maxLen) (hbytes : N * 8 ≤ 140737488355328) (w : World)
  (hseq : SeqStopsK F (n - 1) Tryz.prog 537 #[.pointer (some ⟨Bn, 0, none⟩)] (fun x : Int => #[Value.int .i64 x]) KeepsWalks S (fun _ => True) N w) :
  CallsIn F n Tryz.prog 364 #[.slice none 0 0, .func (.func 537) #[] #[.pointer (some ⟨Bn, 0, none⟩)]] w fun e W' => ∃ (v : Value) (ks : List Int), e = .returned v ∧ S ks ∧ W'.ownsRow w.heap.size 3 1 v ks.length (ks.map (Value.int .i64)) ∧ (v = .slice none 0 0 ↔ ks = []) ∧ Below w.heap.size w W' := by
 have h1 : 1 ≤ n := by omega
 obtain ⟨i0, hi, hz0, hz1, hz2⟩ := info_parts SI.info
 refine callsIn_of_wp_marks Tryz.func364 rfl hA ?_ hro
 simp only [Tryz.ntmps364, List.size_toArray, List.length_cons, List.length_nil, Nat.reduceAdd, Nat.reduceSub, Array.replicate_succ, Array.replicate_zero, List.push_toArray, List.append_toArray, List.nil_append, List.cons_append]
 gi_wp2
 have bO := Boxed.new w 65 (.slice none 0 0)
 have hB0 : Below w.heap.size w (w.alloc (.cells #[.slice none 0 0] 65)) := (Below.refl _ w).alloc (Nat.le_refl _) _
 refine wpIn_rangeFunc_ownG hro h1 (gf := 537) (lb := #[.pointer (some ⟨Bn, 0, none⟩)]) rfl hF (enters_of Tryz.func537 (by kernel_rfl) rfl)
  hseq walksK_t walksK_b hB0 (fun _ => rfl)
  (fun pre W => (∃ v, Boxed W w.heap.size 65 v ∧ W.ownsRow w.heap.size 3 1 v pre.length (pre.map (Value.int .i64)) ∧ (v = .slice none 0 0 ↔ pre = [])) ∧ Below w.heap.size w W)
  (fun _ _ _ => False)
  (OwnFrom.and (Own.from (holdsRow_own w.heap.size w.heap.size 65 3 1 (fun pre : List Int => pre.length) (fun pre => pre.map (Value.int .i64)) (fun pre v => v = .slice none 0 0 ↔ pre = [])) _) (ownFrom_below (Nat.le_refl _) (by simp)))
  (fun _ _ _ _ _ hs _ _ => hs)
  ⟨⟨_, bO, World.ownsRow_nil _ _ _ _, by simp⟩, hB0⟩
  (fun x => { tmps := #[.slice none 0 0, .func (.func 537) #[] #[.pointer (some ⟨Bn, 0, none⟩)], .pointer (some ⟨w.heap.size, 0, none⟩), undef, .slice none 0 0, .int .i64 x, .func (.func 537) #[] #[.pointer (some ⟨Bn, 0, none⟩)], .int .i64 x, undef, undef, undef, undef, undef], defers := [] }) ?assign ?body ?done ?stop
 case assign =>
  intro l x W K hK
  gi_wp2
  exact hK
 case body =>
  rintro l pre x W ⟨⟨v, hv, hrow, hnil⟩, hB⟩ hlt
  have hc := hv.cell
  gi_wp2_with (gi_at_builtin; refine wpListIn_append_own _ rfl _ _ 65 rfl w.heap.size 3 i0 (.int .i64 0) 1 8 Tryz.underlying65 hi hz0 hz1 hz2 rfl (by decide) _ _ _ rfl (hrow.alloc _) ⟨W.heap.size, 0, none⟩ 1 1 [.int .i64 x] rfl rfl (cell_one_new _ _ _) (by simp [Value.oneCell']) (by omega) (by omega) (by have := hB.size; simp; omega) ?_; intro v' w1 hown' hgrow _; obtain ⟨g', cap', rfl⟩ := ownsRow_succ hown'; obtain ⟨hv1, hv2, hr2, hk2, hb2⟩ := hv.appended (by decide) hrow hB.size (Nat.le_refl _) hown' hgrow; have hc1 := hv1.cell; have hf1 := hv1.frozen)
  exact ⟨hk2.from _, hk2.walks, ⟨_, hv2, by simpa using hr2, by simp⟩, hB.trans hb2⟩
 case done =>
  rintro D ys W hD hS ⟨⟨v, hv, hrow, hnil⟩, hB⟩ hK
  have hc := hv.cell
  gi_wp2
  refine ⟨by simp, .inl ⟨_, _, rfl, run_takeDeferred hK, ?_⟩⟩
  exact ⟨_, results_tmp rfl _ _ _, v, ys, rfl, hS, ownsRow_putObj hrow _ hK rfl, hnil, hB.trans (belowK_b (w := w) (Nat.le_refl _) W D _ _ (by simp at hD; omega) hK rfl rfl)⟩
 case stop =>
  rintro D c pre W _ _ h _
  exact h.elim
theorem SI.append_in (F : Fence) (n : Nat) (hA : F.fn 364) (hF : F.fn 537) (hro : F.round = none) (hn : 3 ≤ n) (Bn bm : Nat) (es : Array MapEntry) (clock : Nat) (hborn : ∀ x ∈ es.toList, x.born < clock) (hnd : (es.toList.map (·.born)).Nodup) (hk : ∀ e ∈ es.toList, ∃ k : Int, e.key = .int .i64 k)
  (hlen : es.size ≤ maxLen) (hbytes : es.size * 8 ≤ 140737488355328) (w : World) (hBn : w.cell? ⟨Bn, 0, none⟩ = some (.map (some bm))) (hBl : Bn < w.heap.size) (hb : w.heap[bm]? = some (.map es clock)) :
  CallsIn F n Tryz.prog 364 #[.slice none 0 0, .func (.func 537) #[] #[.pointer (some ⟨Bn, 0, none⟩)]] w fun e W' => ∃ (v : Value) (ks : List Int), e = .returned v ∧ (ks.map (Value.int .i64)).Perm (es.toList.map (·.key)) ∧ W'.ownsRow w.heap.size 3 1 v ks.length (ks.map (Value.int .i64)) ∧ (v = .slice none 0 0 ↔ ks = []) ∧ Below w.heap.size w W' := by
 have hbl : bm < w.heap.size := (Array.getElem?_eq_some_iff.1 hb).1
 exact SI.append_of F n hA hF hro hn Bn es.size (fun ks => (ks.map (Value.int .i64)).Perm (es.toList.map (·.key))) hlen hbytes w
  (fun l J Jx W hW hJ _ hY h0 => SI.keys_in F (n - 1) hF hro (by omega) l Bn bm es clock hborn hnd hk J Jx hY W hJ ((hW.cell (p := ⟨Bn, 0, none⟩) hBl).trans hBn) ((hW.block bm hbl).trans hb) h0)
set_option maxRecDepth 100000 in
set_option maxHeartbeats 1000000 in
theorem SI.keys_nil_in (F : Fence) (n : Nat) (hF : F.fn 537) (hro : F.round = none) (l Bn : Nat) (J : List Int → World → Prop) (W : World) (hJ : AbidesFrom W.heap.size J)
  (hBn : W.cell? ⟨Bn, 0, none⟩ = some (.map none)) (h0 : J [] W) :
  CallsIn F n Tryz.prog 537 #[.func (.yield l) #[] #[], .pointer (some ⟨Bn, 0, none⟩)] W fun e W' => (∃ v, e = .returned v) ∧ J [] W' := by
 refine callsIn_of_wp Tryz.func537 rfl hF ?_ hro
 simp only [Tryz.ntmps537, List.size_toArray, List.length_cons, List.length_nil, Nat.reduceAdd, Nat.reduceSub, Array.replicate_succ, Array.replicate_zero, List.push_toArray, List.append_toArray, List.nil_append, List.cons_append]
 have hrg := run_range_nilMap (P := Tryz.prog) W 403 _ _ Tryz.underlying403
 have hnx : ∀ ty, (Instr.next (.pointer (some ⟨W.heap.size, 0, none⟩)) false ty).run Tryz.prog (W.alloc (.mapIter none 0 #[] 0)) = _ := fun ty => run_next_nilMap _ ty 0 0 #[]
 gi_wp2
 refine wpIn_loop_rounds 1 ?_
 rw [roundsIn_succ]
 gi_wp2
 go_end0
 exact ⟨⟨_, rfl⟩, hJ [] W _ none h0 (World.grownBy_alloc W _ none) (fun r e => by cases e)⟩
theorem SI.append_nil_in (F : Fence) (n : Nat) (hA : F.fn 364) (hF : F.fn 537) (hro : F.round = none) (hn : 3 ≤ n) (Bn : Nat) (w : World) (hBn : w.cell? ⟨Bn, 0, none⟩ = some (.map none)) (hBl : Bn < w.heap.size) :
  CallsIn F n Tryz.prog 364 #[.slice none 0 0, .func (.func 537) #[] #[.pointer (some ⟨Bn, 0, none⟩)]] w fun e W' => e = .returned (.slice none 0 0) ∧ Below w.heap.size w W' :=
 (SI.append_of F n hA hF hro hn Bn 0 (fun ks => ks = []) (Nat.zero_le _) (by omega) w
  (fun l J Jx W hW hJ _ hY h0 => (SI.keys_nil_in F (n - 1) hF hro l Bn J W hJ ((hW.cell (p := ⟨Bn, 0, none⟩) hBl).trans hBn) h0).mono fun _ _ h => ⟨h.1, .inl ⟨[], rfl, h.2⟩⟩)).mono
  fun _ _ ⟨v, ks, he, hs, _, hnil, hB⟩ => ⟨by rw [he, hnil.2 hs], hB⟩
theorem SI.keys : Z.AppendsKeys Tryz.prog 364 537 .i64 3 where
 full Bn bm es clock w h1 h2 h3 h4 h5 h6 h7 := callsIn_wide.1 (SI.append_in Fence.wide 3 trivial trivial rfl (Nat.le_refl _) Bn bm es clock h1 h2 h3 (by unfold maxLen; omega) (by omega) w h5 h6 h7)
 nil Bn w h5 h6 := callsIn_wide.1 (SI.append_nil_in Fence.wide 3 trivial trivial rfl (Nat.le_refl _) Bn w h5 h6)
end SI
section SL
set_option maxRecDepth 100000 in
set_option maxHeartbeats 1000000 in
theorem SL.keys_in (F : Fence) (n : Nat) (hF : F.fn 305) (hro : F.round = none) (hn : 1 ≤ n) (l Bn bm : Nat) (es : Array MapEntry) (clock : Nat) (hborn : ∀ x ∈ es.toList, x.born < clock) (hnd : (es.toList.map (·.born)).Nodup) (hk : ∀ e ∈ es.toList, ∃ k : Int, e.key = .int .i64 k)
  (J Jx : List Int → World → Prop)
  (hY : ∀ pre x W, J pre W → pre.length < es.size → YieldAt F (n - 1) Tryz.prog l #[.int .i64 x] W fun e W' => (e = .returned (.bool true) ∧ J (pre ++ [x]) W' ∧ KeepsWalks W W') ∨ (e = .returned (.bool false) ∧ Jx (pre ++ [x]) W'))
  (W : World) (hJ : AbidesFrom W.heap.size J) (hBn : W.cell? ⟨Bn, 0, none⟩ = some (.map (some bm))) (hb : W.heap[bm]? = some (.map es clock)) (h0 : J [] W) :
  CallsIn F n Tryz.prog 305 #[.func (.yield l) #[] #[], .pointer (some ⟨Bn, 0, none⟩)] W fun e W' => (∃ v, e = .returned v) ∧
   ((∃ ys, (ys.map (Value.int .i64)).Perm (es.toList.map (·.key)) ∧ J ys W') ∨ (∃ pre, True ∧ Jx pre W')) := by
 refine callsIn_of_wp Tryz.func305 rfl hF ?_ hro
 simp only [Tryz.ntmps305, List.size_toArray, List.length_cons, List.length_nil, Nat.reduceAdd, Nat.reduceSub, Array.replicate_succ, Array.replicate_zero, List.push_toArray, List.append_toArray, List.nil_append, List.cons_append]
 gi_wp2_with (first
  | (gi_at_range; refine Z.wpListIn_range_at rfl _ 147 rfl _ _ Tryz.underlying147 bm es clock rfl hb ?_)
  | gi_in)
 go_frame
 have hg0 : W.grownBy (W.alloc (.mapIter (some bm) clock #[] clock)) none := World.grownBy_alloc W _ none
 have hJ0 : J [] (W.alloc (.mapIter (some bm) clock #[] clock)) := hJ [] W _ none h0 hg0 (fun r e => by cases e)
 have hr0 : (W.alloc (.mapIter (some bm) clock #[] clock)).heap[W.heap.size]? = some (.mapIter (some bm) clock #[] clock) := World.alloc_heap_new W _
 have hb0 : (W.alloc (.mapIter (some bm) clock #[] clock)).heap[bm]? = some (.map es clock) := (hg0.block bm (Array.getElem?_eq_some_iff.1 hb).1 (by simp)).trans hb
 generalize W.alloc (.mapIter (some bm) clock #[] clock) = W0 at hJ0 hr0 hb0
 have hne : bm ≠ W.heap.size := by have := (Array.getElem?_eq_some_iff.1 hb).1; omega
 gi_loopw [3] (fun _ wr => ∃ (seen : Array Nat) (c0 : Nat) (ks : List Int), clock ≤ c0 ∧ wr.heap[W.heap.size]? = some (.mapIter (some bm) clock seen c0) ∧ wr.heap[bm]? = some (.map es clock) ∧ Z.Got .i64 es seen ks ∧ J ks wr)
  (fun _ wr => Z.iterLeft wr bm W.heap.size)
 case atStart =>
  exact ⟨#[], clock, [], Nat.le_refl _, hr0, hb0, ⟨[], by simp, rfl, rfl, List.nodup_nil⟩, hJ0⟩
 case round =>
  obtain ⟨seen, c0, ks, hc0, hr, hbm, hgot, hJs⟩ := hrel
  gi_wp2_with (first
   | (gi_at_next; refine Z.wpListIn_next_at rfl _ rfl W.heap.size bm clock c0 seen es clock rfl hr hbm hborn hc0 ?_ ?_)
   | gi_in)
  ·intro hz
   gi_wp2
   go_end0
   exact ⟨⟨_, rfl⟩, .inl ⟨ks, Z.got_all hz hgot hnd, hJs⟩⟩
  ·intro e w2 he hw2
   obtain ⟨hem, hes⟩ := Z.mem_leftOf he
   obtain ⟨x, hx⟩ := hk e hem
   have hlt := (Array.getElem?_eq_some_iff.1 hr).1
   have hgr : wr.grownBy w2 (some W.heap.size) := Z.grownBy_setBlock hw2
   have hr2 : w2.heap[W.heap.size]? = some (.mapIter (some bm) clock (seen.push e.born) clock) := Z.setBlock_at hw2 hlt
   have hb2 : w2.heap[bm]? = some (.map es clock) := (hgr.block bm (Array.getElem?_eq_some_iff.1 hbm).1 (by intro h; cases h; exact hne rfl)).trans hbm
   have hen := run_entry_at (P := Tryz.prog) w2 W.heap.size bm clock seen es clock e hr2 hb2 hem hnd
   have hJ2 : J ks w2 := hJ ks wr w2 (some W.heap.size) hJs hgr (fun r e => by cases e; exact ⟨Nat.le_refl _, _, hr, rfl⟩)
   have hlen : ks.length < es.size := Z.got_lt hgot hem hes
   rw [hx] at hen ⊢
   obtain ⟨fn, tmps, assign, body, hy, hR⟩ := hY ks x w2 hJ2 hlen
   gi_wp2
   refine hR.mono ?_
   rintro e3 W3 (⟨rfl, hJ3, hk3⟩ | ⟨rfl, hJx3⟩)
   ·gi_wp2
    have hr3 := hk3.same _ _ hr2 rfl
    have hb3 := hk3.same _ _ hb2 rfl
    go_roundw
    case rel => exact ⟨seen.push e.born, clock, ks ++ [x], Nat.le_refl _, hr3, hb3, Z.got_push hgot hem hes hx, hJ3⟩
    case measure => exact Z.iterLeft_lt hr hbm hr3 hb3 hem hes
   ·gi_wp2
    refine bodyPost_ret (results_none rfl _ _ _) rfl ?_
    exact ⟨⟨_, rfl⟩, .inr ⟨ks ++ [x], trivial, hJx3⟩⟩
end SL
section SL
theorem SL.info : (Tryz.prog.info? 3).map (fun i => (i.zero, i.size, i.bytes)) = some (some (.int .i64 0), 1, 8) := by kernel_rfl
set_option maxRecDepth 100000 in
set_option maxHeartbeats 2000000 in
theorem SL.append_of (F : Fence) (n : Nat) (hA : F.fn 364) (hF : F.fn 305) (hro : F.round = none) (hn : 3 ≤ n) (Bn N : Nat) (S : List Int → Prop) (hlen : N ≤ maxLen) (hbytes : N * 8 ≤ 140737488355328) (w : World)
  (hseq : SeqStopsK F (n - 1) Tryz.prog 305 #[.pointer (some ⟨Bn, 0, none⟩)] (fun x : Int => #[Value.int .i64 x]) KeepsWalks S (fun _ => True) N w) :
  CallsIn F n Tryz.prog 364 #[.slice none 0 0, .func (.func 305) #[] #[.pointer (some ⟨Bn, 0, none⟩)]] w fun e W' => ∃ (v : Value) (ks : List Int), e = .returned v ∧ S ks ∧ W'.ownsRow w.heap.size 3 1 v ks.length (ks.map (Value.int .i64)) ∧ (v = .slice none 0 0 ↔ ks = []) ∧ Below w.heap.size w W' := by
 have h1 : 1 ≤ n := by omega
 obtain ⟨i0, hi, hz0, hz1, hz2⟩ := info_parts SL.info
 refine callsIn_of_wp_marks Tryz.func364 rfl hA ?_ hro
 simp only [Tryz.ntmps364, List.size_toArray, List.length_cons, List.length_nil, Nat.reduceAdd, Nat.reduceSub, Array.replicate_succ, Array.replicate_zero, List.push_toArray, List.append_toArray, List.nil_append, List.cons_append]
 gi_wp2
 have bO := Boxed.new w 65 (.slice none 0 0)
 have hB0 : Below w.heap.size w (w.alloc (.cells #[.slice none 0 0] 65)) := (Below.refl _ w).alloc (Nat.le_refl _) _
 refine wpIn_rangeFunc_ownG hro h1 (gf := 305) (lb := #[.pointer (some ⟨Bn, 0, none⟩)]) rfl hF (enters_of Tryz.func305 (by kernel_rfl) rfl)
  hseq walksK_t walksK_b hB0 (fun _ => rfl)
  (fun pre W => (∃ v, Boxed W w.heap.size 65 v ∧ W.ownsRow w.heap.size 3 1 v pre.length (pre.map (Value.int .i64)) ∧ (v = .slice none 0 0 ↔ pre = [])) ∧ Below w.heap.size w W)
  (fun _ _ _ => False)
  (OwnFrom.and (Own.from (holdsRow_own w.heap.size w.heap.size 65 3 1 (fun pre : List Int => pre.length) (fun pre => pre.map (Value.int .i64)) (fun pre v => v = .slice none 0 0 ↔ pre = [])) _) (ownFrom_below (Nat.le_refl _) (by simp)))
  (fun _ _ _ _ _ hs _ _ => hs)
  ⟨⟨_, bO, World.ownsRow_nil _ _ _ _, by simp⟩, hB0⟩
  (fun x => { tmps := #[.slice none 0 0, .func (.func 305) #[] #[.pointer (some ⟨Bn, 0, none⟩)], .pointer (some ⟨w.heap.size, 0, none⟩), undef, .slice none 0 0, .int .i64 x, .func (.func 305) #[] #[.pointer (some ⟨Bn, 0, none⟩)], .int .i64 x, undef, undef, undef, undef, undef], defers := [] }) ?assign ?body ?done ?stop
 case assign =>
  intro l x W K hK
  gi_wp2
  exact hK
 case body =>
  rintro l pre x W ⟨⟨v, hv, hrow, hnil⟩, hB⟩ hlt
  have hc := hv.cell
  gi_wp2_with (gi_at_builtin; refine wpListIn_append_own _ rfl _ _ 65 rfl w.heap.size 3 i0 (.int .i64 0) 1 8 Tryz.underlying65 hi hz0 hz1 hz2 rfl (by decide) _ _ _ rfl (hrow.alloc _) ⟨W.heap.size, 0, none⟩ 1 1 [.int .i64 x] rfl rfl (cell_one_new _ _ _) (by simp [Value.oneCell']) (by omega) (by omega) (by have := hB.size; simp; omega) ?_; intro v' w1 hown' hgrow _; obtain ⟨g', cap', rfl⟩ := ownsRow_succ hown'; obtain ⟨hv1, hv2, hr2, hk2, hb2⟩ := hv.appended (by decide) hrow hB.size (Nat.le_refl _) hown' hgrow; have hc1 := hv1.cell; have hf1 := hv1.frozen)
  exact ⟨hk2.from _, hk2.walks, ⟨_, hv2, by simpa using hr2, by simp⟩, hB.trans hb2⟩
 case done =>
  rintro D ys W hD hS ⟨⟨v, hv, hrow, hnil⟩, hB⟩ hK
  have hc := hv.cell
  gi_wp2
  refine ⟨by simp, .inl ⟨_, _, rfl, run_takeDeferred hK, ?_⟩⟩
  exact ⟨_, results_tmp rfl _ _ _, v, ys, rfl, hS, ownsRow_putObj hrow _ hK rfl, hnil, hB.trans (belowK_b (w := w) (Nat.le_refl _) W D _ _ (by simp at hD; omega) hK rfl rfl)⟩
 case stop =>
  rintro D c pre W _ _ h _
  exact h.elim
theorem SL.append_in (F : Fence) (n : Nat) (hA : F.fn 364) (hF : F.fn 305) (hro : F.round = none) (hn : 3 ≤ n) (Bn bm : Nat) (es : Array MapEntry) (clock : Nat) (hborn : ∀ x ∈ es.toList, x.born < clock) (hnd : (es.toList.map (·.born)).Nodup) (hk : ∀ e ∈ es.toList, ∃ k : Int, e.key = .int .i64 k)
  (hlen : es.size ≤ maxLen) (hbytes : es.size * 8 ≤ 140737488355328) (w : World) (hBn : w.cell? ⟨Bn, 0, none⟩ = some (.map (some bm))) (hBl : Bn < w.heap.size) (hb : w.heap[bm]? = some (.map es clock)) :
  CallsIn F n Tryz.prog 364 #[.slice none 0 0, .func (.func 305) #[] #[.pointer (some ⟨Bn, 0, none⟩)]] w fun e W' => ∃ (v : Value) (ks : List Int), e = .returned v ∧ (ks.map (Value.int .i64)).Perm (es.toList.map (·.key)) ∧ W'.ownsRow w.heap.size 3 1 v ks.length (ks.map (Value.int .i64)) ∧ (v = .slice none 0 0 ↔ ks = []) ∧ Below w.heap.size w W' := by
 have hbl : bm < w.heap.size := (Array.getElem?_eq_some_iff.1 hb).1
 exact SL.append_of F n hA hF hro hn Bn es.size (fun ks => (ks.map (Value.int .i64)).Perm (es.toList.map (·.key))) hlen hbytes w
  (fun l J Jx W hW hJ _ hY h0 => SL.keys_in F (n - 1) hF hro (by omega) l Bn bm es clock hborn hnd hk J Jx hY W hJ ((hW.cell (p := ⟨Bn, 0, none⟩) hBl).trans hBn) ((hW.block bm hbl).trans hb) h0)
set_option maxRecDepth 100000 in
set_option maxHeartbeats 1000000 in
theorem SL.keys_nil_in (F : Fence) (n : Nat) (hF : F.fn 305) (hro : F.round = none) (l Bn : Nat) (J : List Int → World → Prop) (W : World) (hJ : AbidesFrom W.heap.size J)
  (hBn : W.cell? ⟨Bn, 0, none⟩ = some (.map none)) (h0 : J [] W) :
  CallsIn F n Tryz.prog 305 #[.func (.yield l) #[] #[], .pointer (some ⟨Bn, 0, none⟩)] W fun e W' => (∃ v, e = .returned v) ∧ J [] W' := by
 refine callsIn_of_wp Tryz.func305 rfl hF ?_ hro
 simp only [Tryz.ntmps305, List.size_toArray, List.length_cons, List.length_nil, Nat.reduceAdd, Nat.reduceSub, Array.replicate_succ, Array.replicate_zero, List.push_toArray, List.append_toArray, List.nil_append, List.cons_append]
 have hrg := run_range_nilMap (P := Tryz.prog) W 147 _ _ Tryz.underlying147
 have hnx : ∀ ty, (Instr.next (.pointer (some ⟨W.heap.size, 0, none⟩)) false ty).run Tryz.prog (W.alloc (.mapIter none 0 #[] 0)) = _ := fun ty => run_next_nilMap _ ty 0 0 #[]
 gi_wp2
 refine wpIn_loop_rounds 1 ?_
 rw [roundsIn_succ]
 gi_wp2
 go_end0
 exact ⟨⟨_, rfl⟩, hJ [] W _ none h0 (World.grownBy_alloc W _ none) (fun r e => by cases e)⟩
theorem SL.append_nil_in (F : Fence) (n : Nat) (hA : F.fn 364) (hF : F.fn 305) (hro : F.round = none) (hn : 3 ≤ n) (Bn : Nat) (w : World) (hBn : w.cell? ⟨Bn, 0, none⟩ = some (.map none)) (hBl : Bn < w.heap.size) :
  CallsIn F n Tryz.prog 364 #[.slice none 0 0, .func (.func 305) #[] #[.pointer (some ⟨Bn, 0, none⟩)]] w fun e W' => e = .returned (.slice none 0 0) ∧ Below w.heap.size w W' :=
 (SL.append_of F n hA hF hro hn Bn 0 (fun ks => ks = []) (Nat.zero_le _) (by omega) w
  (fun l J Jx W hW hJ _ hY h0 => (SL.keys_nil_in F (n - 1) hF hro l Bn J W hJ ((hW.cell (p := ⟨Bn, 0, none⟩) hBl).trans hBn) h0).mono fun _ _ h => ⟨h.1, .inl ⟨[], rfl, h.2⟩⟩)).mono
  fun _ _ ⟨v, ks, he, hs, _, hnil, hB⟩ => ⟨by rw [he, hnil.2 hs], hB⟩
theorem SL.keys : Z.AppendsKeys Tryz.prog 364 305 .i64 3 where
 full Bn bm es clock w h1 h2 h3 h4 h5 h6 h7 := callsIn_wide.1 (SL.append_in Fence.wide 3 trivial trivial rfl (Nat.le_refl _) Bn bm es clock h1 h2 h3 (by unfold maxLen; omega) (by omega) w h5 h6 h7)
 nil Bn w h5 h6 := callsIn_wide.1 (SL.append_nil_in Fence.wide 3 trivial trivial rfl (Nat.le_refl _) Bn w h5 h6)
end SL
end Go.Proofs
end
