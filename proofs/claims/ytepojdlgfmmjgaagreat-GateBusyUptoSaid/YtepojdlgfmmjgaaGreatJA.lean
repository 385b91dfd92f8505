/- One part of a proof: an evaluator of the model, shown right, and contracts that it yields. No condition beyond those that each theorem names. -/
import Derived.Test.YtepojdlgfmmjgaaGreatLA
import Derived.Test.YtepojdlgfmmjgaaGreatXY
import Derived.Lib.SlicesCompact
set_option linter.unusedSimpArgs false
set_option linter.unusedVariables false
set_option linter.unusedSectionVars false
set_option linter.deprecated false
section
namespace Go.Proofs.LB
open Go.X
set_option maxRecDepth 100000
theorem rising_cons : ∀ {l : List Int} {a : Int}, Rising (a :: l) → Rising l ∧ ∀ x ∈ l, a < x
 | [], a, _ => ⟨fun i x y hx _ => by simp at hx, fun x hx => by cases hx⟩
 | b :: l, a, h => by
  have h1 : Rising (b :: l) := fun i x y hx hy => h (i + 1) x y (by simpa using hx) (by simpa using hy)
  have hab : a < b := h 0 a b rfl rfl
  refine ⟨h1, fun x hx => ?_⟩
  rcases List.mem_cons.1 hx with rfl | hx
  ·exact hab
  ·exact Int.lt_trans hab ((rising_cons h1).2 x hx)
theorem rising_of_pairwise : ∀ {l : List Int}, l.Pairwise (· < ·) → Rising l
 | [], _ => fun i x y hx _ => by simp at hx
 | a :: l, h => fun i x y hx hy => by
  rw [List.pairwise_cons] at h
  cases i with
  | zero =>
   simp only [List.getElem?_cons_zero, Option.some.injEq, Nat.zero_add, List.getElem?_cons_succ] at hx hy
   subst hx
   exact h.1 y (List.mem_of_getElem? hy)
  | succ i => exact rising_of_pairwise h.2 i x y (by simpa using hx) (by simpa using hy)
theorem rising_ext : ∀ {l m : List Int}, Rising l → Rising m → (∀ x, x ∈ l ↔ x ∈ m) → l = m
 | [], [], _, _, _ => rfl
 | [], b :: m, _, _, h => by have := (h b).2 List.mem_cons_self; cases this
 | a :: l, [], _, _, h => by have := (h a).1 List.mem_cons_self; cases this
 | a :: l, b :: m, hl, hm, h => by
  obtain ⟨hl1, hl2⟩ := rising_cons hl
  obtain ⟨hm1, hm2⟩ := rising_cons hm
  have hab : a = b := by
   rcases List.mem_cons.1 ((h a).1 List.mem_cons_self) with e | e
   ·exact e
   ·rcases List.mem_cons.1 ((h b).2 List.mem_cons_self) with k | k
    ·exact k.symm
    ·have := hm2 a e; have := hl2 b k; omega
  subst hab
  rw [rising_ext hl1 hm1 fun x => ?_]
  constructor
  ·intro hx
   rcases List.mem_cons.1 ((h x).1 (List.mem_cons_of_mem _ hx)) with e | e
   ·subst e; exact absurd (hl2 x hx) (by omega)
   ·exact e
  ·intro hx
   rcases List.mem_cons.1 ((h x).2 (List.mem_cons_of_mem _ hx)) with e | e
   ·subst e; exact absurd (hm2 x hx) (by omega)
   ·exact e
theorem mem_ins {l : List Int} {x y : Int} {k : Nat} : y ∈ l.take k ++ x :: l.drop k ↔ y = x ∨ y ∈ l := by
 constructor
 ·intro h
  rcases List.mem_append.1 h with h | h
  ·exact .inr (List.mem_of_mem_take h)
  ·rcases List.mem_cons.1 h with h | h
   ·exact .inl h
   ·exact .inr (List.mem_of_mem_drop h)
 ·rintro (rfl | h)
  ·simp
  ·rw [← List.take_append_drop k l] at h
   rcases List.mem_append.1 h with h | h
   ·exact List.mem_append.2 (.inl h)
   ·exact List.mem_append.2 (.inr (List.mem_cons_of_mem _ h))
theorem rising_ins {l : List Int} {x : Int} {k : Nat} (h : Rising l) (hk : k ≤ l.length) (h1 : ∀ i y, i < k → l[i]? = some y → y < x) (h2 : ∀ y, l[k]? = some y → x < y) : Rising (l.take k ++ x :: l.drop k) := by
 intro i a b ha hb
 have hlen : (l.take k).length = k := by rw [List.length_take]; omega
 by_cases c1 : i + 1 < k
 ·rw [List.getElem?_append_left (by omega), List.getElem?_take, if_pos (by omega)] at ha
  rw [List.getElem?_append_left (by omega), List.getElem?_take, if_pos (by omega)] at hb
  exact h i a b ha hb
 by_cases c2 : i + 1 = k
 ·rw [List.getElem?_append_left (by omega), List.getElem?_take, if_pos (by omega)] at ha
  rw [List.getElem?_append_right (by omega), hlen, c2, Nat.sub_self] at hb
  simp only [List.getElem?_cons_zero, Option.some.injEq] at hb
  subst hb
  exact h1 i a (by omega) ha
 ·obtain ⟨d, rfl⟩ : ∃ d, i = k + d := ⟨i - k, by omega⟩
  rw [List.getElem?_append_right (by omega), hlen] at ha hb
  rw [show k + d + 1 - k = d + 1 by omega, List.getElem?_cons_succ, List.getElem?_drop] at hb
  rw [Nat.add_sub_cancel_left] at ha
  cases d with
  | zero =>
   simp only [List.getElem?_cons_zero, Option.some.injEq] at ha
   subst ha
   exact h2 b (by simpa using hb)
  | succ d =>
   rw [List.getElem?_cons_succ, List.getElem?_drop] at ha
   exact h (k + d) a b ha hb
theorem rising_nil : Rising [] := fun i x y hx _ => by simp at hx
structure NormOf (l r : List Int) : Prop where
 rise : Rising r
 mem : ∀ x, x ∈ r ↔ x ∈ l
theorem NormOf.unique {l r s : List Int} (h : NormOf l r) (k : NormOf l s) : r = s := rising_ext h.rise k.rise fun x => (h.mem x).trans (k.mem x).symm
theorem NormOf.self {l : List Int} (h : Rising l) : NormOf l l := ⟨h, fun _ => Iff.rfl⟩
open Go.Lib in
theorem compactUpTo_ok (d : Array Int) (hs : ∀ i, i + 1 < d.size → d[i]! ≤ d[i + 1]!) : ∀ m, m ≤ d.size → (compactUpTo d m).Pairwise (· < ·) ∧ (∀ x, x ∈ compactUpTo d m ↔ ∃ i, i < m ∧ d[i]! = x) ∧ ∀ x ∈ compactUpTo d m, x ≤ d[m - 1]!
 | 0, _ => ⟨List.Pairwise.nil, fun x => ⟨fun h => (by cases h), fun ⟨i, hi, _⟩ => absurd hi (Nat.not_lt_zero _)⟩, fun x h => by cases h⟩
 | m + 1, hm => by
  obtain ⟨h1, h2, h3⟩ := compactUpTo_ok d hs m (by omega)
  have hle : 0 < m → d[m - 1]! ≤ d[m]! := fun h => by
   have := hs (m - 1) (by omega)
   rwa [show m - 1 + 1 = m by omega] at this
  have hex : ∀ x, (∃ i, i < m + 1 ∧ d[i]! = x) ↔ ((∃ i, i < m ∧ d[i]! = x) ∨ x = d[m]!) := fun x => by
   constructor
   ·rintro ⟨i, hi, e⟩
    by_cases c : i < m
    ·exact .inl ⟨i, c, e⟩
    ·obtain rfl : i = m := by omega
     exact .inr e.symm
   ·rintro (⟨i, hi, e⟩ | e)
    ·exact ⟨i, by omega, e⟩
    ·exact ⟨m, by omega, e.symm⟩
  rw [compactUpTo_succ, Nat.add_sub_cancel]
  cases hk : keeps d m with
  | true =>
   simp only [if_true]
   have hkp : m = 0 ∨ d[m]! ≠ d[m - 1]! := of_decide_eq_true hk
   refine ⟨?_, fun x => ?_, fun x hx => ?_⟩
   ·rw [List.pairwise_append]
    refine ⟨h1, List.pairwise_singleton _ _, fun a ha b hb => ?_⟩
    rw [List.mem_singleton] at hb
    subst hb
    obtain ⟨i, hi, _⟩ := (h2 a).1 ha
    have := h3 a ha
    have := hle (by omega)
    rcases hkp with h | h <;> omega
   ·rw [List.mem_append, List.mem_singleton, h2, hex]
   ·rcases List.mem_append.1 hx with hx | hx
    ·obtain ⟨i, hi, _⟩ := (h2 x).1 hx
     exact Int.le_trans (h3 x hx) (hle (by omega))
    ·rw [List.mem_singleton] at hx; omega
  | false =>
   have hkp : ¬ (m = 0 ∨ d[m]! ≠ d[m - 1]!) := of_decide_eq_false hk
   simp only [Bool.false_eq_true, if_false, List.append_nil]
   have e : d[m]! = d[m - 1]! := Classical.byContradiction fun h => hkp (.inr h)
   refine ⟨h1, fun x => ?_, fun x hx => by rw [e]; exact h3 x hx⟩
   rw [h2, hex]
   constructor
   ·exact .inl
   ·rintro (h | h)
    ·exact h
    ·exact ⟨m - 1, by omega, by rw [h, e]⟩
def sortI (l : List Int) : List Int := l.mergeSort fun x y => decide (x ≤ y)
theorem sortI_len (l : List Int) : (sortI l).length = l.length := List.length_mergeSort l
theorem sortI_mem {l : List Int} {x : Int} : x ∈ sortI l ↔ x ∈ l := List.mem_mergeSort
theorem sortI_le (l : List Int) : (sortI l).Pairwise (· ≤ ·) := by
 have := List.pairwise_mergeSort (le := fun x y : Int => decide (x ≤ y)) (fun a b c h1 h2 => by
  have h1 := of_decide_eq_true h1; have h2 := of_decide_eq_true h2; exact decide_eq_true (Int.le_trans h1 h2)) (fun a b => by
  by_cases h : a ≤ b
  ·simp [h]
  ·have : b ≤ a := by omega
   simp [this]) l
 exact this.imp fun h => of_decide_eq_true h
theorem compact_norm (l : List Int) : NormOf l (Lib.compact (sortI l)) := by
 have hp := sortI_le l
 generalize hz : sortI l = zs at hp
 have hs : ∀ i, i + 1 < zs.toArray.size → zs.toArray[i]! ≤ zs.toArray[i + 1]! := fun i hi => by
  have hi : i + 1 < zs.length := by simpa using hi
  rw [getElem!_pos zs.toArray i (by simpa using (by omega : i < zs.length)), getElem!_pos zs.toArray (i + 1) (by simpa using hi)]
  simp only [List.getElem_toArray]
  exact List.pairwise_iff_getElem.1 hp i (i + 1) (by omega) hi (by omega)
 obtain ⟨h1, h2, _⟩ := compactUpTo_ok zs.toArray hs zs.length (by simp)
 refine ⟨rising_of_pairwise h1, fun x => ?_⟩
 show x ∈ Lib.compactUpTo zs.toArray zs.length ↔ _
 rw [h2, ← sortI_mem (l := l), hz]
 constructor
 ·rintro ⟨i, hi, e⟩
  rw [getElem!_pos zs.toArray i (by simpa using hi)] at e
  simp only [List.getElem_toArray] at e
  rw [← e]; exact List.getElem_mem hi
 ·intro hx
  obtain ⟨i, hi, e⟩ := List.getElem_of_mem hx
  exact ⟨i, hi, by rw [getElem!_pos zs.toArray i (by simpa using hi)]; simpa using e⟩
theorem compact_len (zs : List Int) : (Lib.compact zs).length ≤ zs.length := by
 unfold Lib.compact Lib.compactUpTo
 rw [List.length_map]
 exact Nat.le_trans (List.length_filter_le _ _) (Nat.le_of_eq List.length_range)
def Plain (base : Option Addr) : Prop := base = none ∨ ∃ p off, base = some ⟨p, off, none⟩
theorem plain_cells {V : View} {base : Option Addr} {len cap : Nat} {l : List Value} (h : V.cells (.slice base len cap) l) : Plain base := by
 unfold View.cells at h
 split at h
 ·rename_i heq
  simp only [Value.slice.injEq] at heq
  exact .inr ⟨_, _, heq.1⟩
 ·rename_i heq
  simp only [Value.slice.injEq] at heq
  exact .inl heq.1
 ·exact h.elim
theorem slice_hiP (t : TypeId) (base : Option Addr) (hp : Plain base) (n cap k : Nat) (ht : Tryz.prog.underlying t = some (.slice (Tryz.prog.elem t))) (hz : ∀ w, (sizeOf (Tryz.prog.elem t)).run Tryz.prog w = .ok 1 w) (h : k ≤ cap) (w : World) :
  (Instr.sliceAt t (.slice base n cap) none (some (.int .i64 k)) none).run Tryz.prog w = .ok (.slice base k cap) w := by
 rw [run_sliceAt_slice (h := ht), run_slice_h (ht := ht) (h0 := by omega) (h2 := by omega), hz]
 rcases hp with rfl | ⟨p, off, rfl⟩
 ·simp [sliced]
 ·simp [sliced, add_lit]
def cutB (base : Option Addr) (k cap : Nat) : Option Addr := match base with
 | some ⟨p, off, sp⟩ => some ⟨p, if cap = k then off else off + k, sp⟩
 | none => none
theorem slice_loP (t : TypeId) (base : Option Addr) (hp : Plain base) (n cap k : Nat) (ht : Tryz.prog.underlying t = some (.slice (Tryz.prog.elem t))) (hz : ∀ w, (sizeOf (Tryz.prog.elem t)).run Tryz.prog w = .ok 1 w) (h : k ≤ n) (w : World) :
  (Instr.sliceAt t (.slice base n cap) (some (.int .i64 k)) none none).run Tryz.prog w = .ok (.slice (cutB base k cap) (n - k) (cap - k)) w := by
 rw [run_sliceAt_slice (h := ht), run_slice_l (ht := ht) (h0 := by omega) (h1 := by omega), hz]
 rcases hp with rfl | ⟨p, off, rfl⟩
 ·simp [sliced, cutB]
 ·simp only [Result.andThen_ok, sliced, Int.toNat_natCast, Nat.mul_one, Option.map_some, add_lit, cutB]
  by_cases hk : cap = k
  ·simp [hk]
  ·simp [hk]
theorem cells_take {V : View} {base : Option Addr} {n cap n' cap' : Nat} {l : List Value} (h : V.cells (.slice base n cap) l) (hp : Plain base) (k : Nat) : V.cells (.slice base n' cap') (l.take k) := by
 rcases hp with rfl | ⟨p, off, rfl⟩
 ·have : l = [] := h
  subst this; simp; rfl
 ·have h : V.has p off l := h
  show V.has p off (l.take k)
  intro i v hi
  rw [List.getElem?_take] at hi
  split at hi
  ·exact h i v hi
  ·cases hi
theorem cells_drop {V : View} {base : Option Addr} {n cap n' cap' : Nat} {l : List Value} (h : V.cells (.slice base n cap) l) (hp : Plain base) (k : Nat) (hl : l.length ≤ cap) : V.cells (.slice (cutB base k cap) n' cap') (l.drop k) := by
 rcases hp with rfl | ⟨p, off, rfl⟩
 ·have : l = [] := h
  subst this; simp; rfl
 ·have h : V.has p off l := h
  show V.has p (if cap = k then off else off + k) (l.drop k)
  intro i v hi
  rw [List.getElem?_drop] at hi
  have hlt := (List.getElem?_eq_some_iff.1 hi).1
  rw [if_neg (by omega), Nat.add_assoc]
  exact h (k + i) v hi
theorem underL : Tryz.prog.underlying 23 = some (.slice (Tryz.prog.elem 23)) := by kernel_rfl
theorem sizeL (w : World) : (sizeOf (Tryz.prog.elem 23)).run Tryz.prog w = .ok 1 w := run_of_pureRun (by kernel_rfl) w
abbrev u16s (l : List Int) : List Value := l.map (Value.int .u16)
theorem one_u16 : ∀ l : List Int, allOne (u16s l) = true
 | [] => rfl
 | x :: l => by
  show (if (Value.int .u16 x).oneCell' then allOne (u16s l) else false) = true
  exact one_u16 l
theorem len_u16 (l : List Int) : (u16s l).length = l.length * 1 := by rw [List.length_map, Nat.mul_one]
theorem Lab.at.cells {a : Lab} {V : View} (h : a.at V) : a.l.length = 0 ∨ V.cells (.slice a.base a.l.length a.cap) (u16s a.l) := by
 by_cases hn : a.l = []
 ·exact .inl (by rw [hn]; rfl)
 ·obtain ⟨p, off, hb, hh⟩ := h.has hn
  right
  rw [hb]; exact hh
theorem Lab.of_cells {V : View} {base : Option Addr} {cap : Nat} {l : List Int} (h : V.cells (.slice base l.length cap) (u16s l)) (hn : ∀ x ∈ l, 0 ≤ x ∧ x < 65536) : (Lab.mk base cap l).at V := by
 refine ⟨fun hne => ?_, hn⟩
 exact cells_some h (fun e => hne (List.map_eq_nil_iff.1 e))
theorem NormOf.num {l r : List Int} (h : NormOf l r) (hn : ∀ x ∈ l, 0 ≤ x ∧ x < 65536) : ∀ x ∈ r, 0 ≤ x ∧ x < 65536 := fun x hx => hn x ((h.mem x).1 hx)
theorem NormOf.step {l r : List Int} {i : Nat} {x : Int} (h : NormOf (l.take i) r) (hx : l[i]? = some x) {s : List Int} (hs : Rising s) (hm : ∀ y, y ∈ s ↔ y = x ∨ y ∈ r) : NormOf (l.take (i + 1)) s :=
 ⟨hs, fun y => by rw [hm, h.mem, mem_take_step hx]; exact Or.comm⟩
def NewRow (l : List Int) (v : Value) (V' : View) (bs : List Res) : Prop := ∃ r : Lab, v = r.slice ∧ bs = [.row v 68 1 r.l.length] ∧ r.at V' ∧ NormOf l r.l ∧ (r.l = [] → v = .slice none 0 0)
set_option maxHeartbeats 4000000 in
theorem rall_spec (a : Lab) (V : View) (h : a.at V) (h8 : a.l.length ≤ 1100000) : Does Tryz.prog 28 [a.slice] V [] (NewRow a.l) := by
 obtain ⟨base, cap, l⟩ := a
 show Does _ _ [.slice base l.length cap] V [] (NewRow l)
 replace h8 : l.length ≤ 1100000 := h8
 refine does_of_zfun [(6, [(0, []), (1, []), (2, []), (3, []), (4, []), (5, []), (6, []), (7, []), (8, []), (9, []), (10, []), (11, []), (12, []), (13, []), (14, [])]), (8, [(0, []), (1, []), (2, []), (3, []), (4, []), (5, []), (6, []), (7, []), (8, []), (9, []), (10, []), (11, []), (12, []), (13, []), (14, [])]), (9, [(1, []), (2, []), (3, []), (5, []), (6, []), (7, []), (8, []), (11, []), (12, []), (13, []), (0, [9]), (4, [9]), (9, []), (10, []), (14, []), (15, [])])] mixed (args := [.v _]) (ms := []) Tryz.func28 (by kernel_rfl) rfl ?_; conv => whnf
 repeat' ((first | refine br_t rfl ?_ | refine br_f rfl ?_ | refine IdxN.lit rfl rfl ?_ | intro _); conv => whnf)
 refine loopzR (σ := Nat × Option Addr × Nat × List Int) (fun z => [(0, .v (.slice base l.length cap)), (3, .row 30), (4, .v (.int .i64 (z.1 : Int)))]) (fun z => [(30, .row (.slice z.2.1 z.2.2.2.length z.2.2.1) 68 1 z.2.2.2.length)])
  (fun j z V' => V.le V' ∧ z.1 ≤ l.length ∧ l.length - z.1 = j ∧ V'.cells (.slice z.2.1 z.2.2.2.length z.2.2.1) (u16s z.2.2.2) ∧ z.2.2.2.length ≤ z.1 ∧ z.2.2.2.length ≤ z.2.2.1 ∧ NormOf (l.take z.1) z.2.2.2 ∧ (z.2.2.2 = [] → z.2.1 = none ∧ z.2.2.1 = 0)) l.length (0, none, 0, []) ?_ ?_ ?_ ?_
 ·repeat' (first | exact sees_nil | refine sees_cons rfl rfl rfl ?_)
 ·repeat' (first | exact keeps_nil | refine keeps_cons rfl ?_ | refine keeps_free ?_)
 ·exact ⟨View.le_refl _, Nat.zero_le _, Nat.sub_zero _, rfl, Nat.le_refl _, Nat.le_refl _, ⟨rising_nil, fun x => by simp⟩, fun _ => ⟨rfl, rfl⟩⟩
 rintro j ⟨i, b0, c0, out⟩ V2 ⟨hV2, hi, hj, hcl, hol, hoc, hno, hnl⟩
 simp only at hi hj hcl hol hoc hno hnl
 have hpl := plain_cells hcl
 conv => whnf
 apply br <;> intro h3 <;> conv => whnf
 ·have h3 : i < l.length := by have := of_decide_eq_true h3; omega
  obtain ⟨p, off, x, hb, hx, hax, hx0, hx1⟩ := h.get (i := i) h3
  simp only at hb hx
  subst hb
  have hwi := wrap_nat (i := i) (by omega)
  repeat' ((first | refine br_t rfl ?_ | refine br_f rfl ?_ | refine IdxN.lit rfl rfl ?_ | intro _); conv => whnf)
  refine loopz (σ := Nat) (fun kk => [(0, .v (.slice (some ⟨p, off, none⟩) l.length cap)), (3, .row 30), (4, .v (.int .i64 (i : Int))), (5, .v (.int .i64 (kk : Int)))]) (fun _ => [(30, .row (.slice b0 out.length c0) 68 1 out.length)])
   (fun j kk V3 => V2.le V3 ∧ kk ≤ out.length ∧ out.length - kk = j ∧ ∀ (i : Nat) (y : Int), i < kk → out[i]? = some y → y < x) out.length 0 ?_ ?_ ?_ ?_
  ·repeat' (first | exact sees_nil | refine sees_cons rfl rfl rfl ?_)
  ·repeat' (first | exact keeps_nil | refine keeps_cons rfl ?_ | refine keeps_free ?_)
  ·exact ⟨View.le_refl _, Nat.zero_le _, Nat.sub_zero _, fun i y hi => absurd hi (Nat.not_lt_zero _)⟩
  rintro j3 kk V3 ⟨hV3, hkk, hj3, hlow⟩
  conv => whnf
  apply br <;> intro e1 <;> conv => whnf
  ·have g1 : kk < out.length := by have := of_decide_eq_true e1; omega
   obtain ⟨y, hy⟩ : ∃ y, out[kk]? = some y := ⟨_, List.getElem?_eq_getElem g1⟩
   obtain ⟨q, qo, hb0, hq⟩ := cells_some hcl (fun e => by have := congrArg List.length e; rw [List.length_map, List.length_nil] at this; omega)
   have hqk : V2.has q (qo + kk * 1) [.int .u16 y] := fun i v hi => by
    cases i with
    | zero =>
     simp only [List.getElem?_cons_zero, Option.some.injEq] at hi
     subst hi
     rw [Nat.mul_one]
     exact hq kk _ (by rw [List.getElem?_map, hy]; rfl)
    | succ i => simp at hi
   subst hb0
   repeat (refine br_t e1 ?_; conv => whnf)
   refine IdxN.of (by omega) (by omega) ?_; conv => whnf
   repeat (refine br_t e1 ?_; conv => whnf)
   refine LoadN.of (hqk.mono le_auto) 0 rfl rfl ?_; conv => whnf
   repeat (refine br_t e1 ?_; conv => whnf)
   refine IdxN.of (by omega) (by omega) ?_; conv => whnf
   repeat (refine br_t e1 ?_; conv => whnf)
   refine LoadN.of (hax.mono le_auto) 0 rfl rfl ?_; conv => whnf
   repeat (refine br_t e1 ?_; conv => whnf)
   apply br <;> intro e2 <;> conv => whnf
   ·have g2 : y < x := of_decide_eq_true e2
    repeat (first | refine br_t e1 ?_ | refine br_t e2 ?_); conv => whnf
    have hwk := wrap_nat (i := kk) (by omega)
    refine ⟨j3 - 1, kk + 1, by omega, ?_, ?_, View.le_trans hV3 le_auto, by omega, by omega, fun i z hi hz => ?_⟩
    ·repeat' (first | exact sees_nil | refine sees_cons rfl rfl rfl ?_ | refine sees_cons rfl rfl (by rw [← hwk]; rfl) ?_)
    ·repeat' (first | exact keeps_nil | refine keeps_cons rfl ?_ | refine keeps_free ?_)
    ·by_cases hik : i < kk
     ·exact hlow i z hik hz
     ·obtain rfl : i = kk := by omega
      rw [hy] at hz; cases hz; exact g2
   ·have g2 : ¬ y < x := of_decide_eq_false e2
    repeat (first | refine br_t e1 ?_ | refine br_f e2 ?_); conv => whnf
    have e3 : ((kk : Int) == (out.length : Int)) = false := by simp; omega
    repeat (refine br_f e3 ?_; conv => whnf)
    refine IdxN.of (by omega) (by omega) ?_; conv => whnf
    repeat (refine br_f e3 ?_; conv => whnf)
    refine LoadN.of (hqk.mono le_auto) 0 rfl rfl ?_; conv => whnf
    repeat (refine br_f e3 ?_; conv => whnf)
    refine IdxN.of (by omega) (by omega) ?_; conv => whnf
    repeat (refine br_f e3 ?_; conv => whnf)
    refine LoadN.of (hax.mono le_auto) 0 rfl rfl ?_; conv => whnf
    repeat (refine br_f e3 ?_; conv => whnf)
    apply br <;> intro e4 <;> conv => whnf
    ·have hhigh : ∀ z, out[kk]? = some z → x < z := fun z hz => by
      rw [hy] at hz; cases hz
      have : ¬ y = x := by simpa using e4
      omega
     refine ⟨⟨_, fun w => slice_hiP _ _ hpl out.length c0 kk underL sizeL (by omega) w, ?_⟩⟩
     conv => whnf
     refine IdxN.of (by omega) (by omega) ?_; conv => whnf
     refine LoadN.of (hax.mono le_auto) 0 rfl rfl ?_; conv => whnf
     refine ⟨⟨_, fun w => slice_loP _ _ hpl out.length c0 kk underL sizeL hkk w, ?_⟩⟩
     conv => whnf
     repeat' ((first | refine br_t rfl ?_ | refine br_f rfl ?_ | refine IdxN.lit rfl rfl ?_ | intro _); conv => whnf)
     have l1 : (u16s (out.take kk)).length = kk * 1 := by rw [len_u16, List.length_take, Nat.min_eq_left hkk]
     have l2 : (u16s (out.take kk) ++ [Value.int .u16 x]).length = (kk + 1) * 1 := by rw [List.length_append, l1]; simp
     have l3 : (u16s (out.drop kk)).length = (out.length - kk) * 1 := by rw [len_u16, List.length_drop]
     have k1 : ∀ (V' : View) n c, V2.le V' → V'.cells (.slice _ n c) (u16s (out.take kk)) := fun V' n c hV' => by rw [u16s, List.map_take]; exact cells_take (hcl.mono hV') hpl kk
     have k3 : ∀ (V' : View) n c, V2.le V' → V'.cells (.slice (cutB _ kk c0) n c) (u16s (out.drop kk)) := fun V' n c hV' => by rw [u16s, List.map_drop]; exact cells_drop (hcl.mono hV') hpl kk (by rw [List.length_map]; omega)
     refine AppN.to kk (Nat.zero_add _) [] (u16s (out.take kk)) (fun i v hv => by simp at hv) rfl (k1 _ _ _ le_auto) l1 (one_u16 _) (by omega) (by decide) fun b5 c5 V5 hV5 hc5 => ?_; conv => whnf
     repeat' ((first | refine br_t rfl ?_ | refine br_f rfl ?_ | refine IdxN.lit rfl rfl ?_ | intro _); conv => whnf)
     rename_i l4 lk4
     refine AppN.to (kk + 1) rfl (u16s (out.take kk)) [.int .u16 x] (hc5.mono le_auto) l1 lk4.has rfl rfl (by omega) (by decide) fun b7 c7 V7 hV7 hc7 => ?_; conv => whnf
     refine AppN.toc (out.length + 1) (by omega) (u16s (out.take kk) ++ [.int .u16 x]) (u16s (out.drop kk)) hc7 l2 (k3 _ _ _ le_auto) l3 (one_u16 _) (by omega) (by decide) fun b8 c8 V8 hV8 hc8 hcp8 => ?_; conv => whnf
     repeat' ((first | refine br_t rfl ?_ | refine br_f rfl ?_ | refine IdxN.lit rfl rfl ?_ | intro _); conv => whnf)
     have hlen : (out.take kk ++ x :: out.drop kk).length = out.length + 1 := by rw [List.length_append, List.length_cons, List.length_take, List.length_drop]; omega
     have hc9 : V8.cells (.slice b8 (out.take kk ++ x :: out.drop kk).length c8) (u16s (out.take kk ++ x :: out.drop kk)) := by
      have e : u16s (out.take kk ++ x :: out.drop kk) = (u16s (out.take kk) ++ [Value.int .u16 x]) ++ u16s (out.drop kk) := by simp [u16s]
      rw [hlen, e]; exact hc8
     refine ⟨30, 58, j - 1, (i + 1, b8, c8, out.take kk ++ x :: out.drop kk), by omega, ?_, ?_, View.le_trans hV2 le_auto, by show i + 1 ≤ _; omega, by show l.length - (i + 1) = _; omega, hc9, by show (out.take kk ++ x :: out.drop kk).length ≤ i + 1; omega, by show (out.take kk ++ x :: out.drop kk).length ≤ c8; omega, hno.step hx (rising_ins hno.rise hkk hlow hhigh) fun y => mem_ins, fun e => (by have e := congrArg List.length e; rw [hlen] at e; cases e)⟩
     ·repeat' (first | exact sees_nil | refine sees_cons rfl rfl rfl ?_ | refine sees_cons rfl rfl (by rw [← hwi]; rfl) ?_ | refine sees_cons rfl rfl (by rw [← hlen]; rfl) ?_)
     ·repeat' (first | exact keepsR_nil | refine keepsR_cons rfl ?_ | refine keepsR_cons (by rw [← hlen]; rfl) ?_)
    ·have e : y = x := by simpa using e4
     subst e
     refine ⟨0, 0, j - 1, (i + 1, (some ⟨q, qo, none⟩), c0, out), by omega, ?_, ?_, View.le_trans hV2 le_auto, by show i + 1 ≤ _; omega, by show l.length - (i + 1) = _; omega, hcl.mono le_auto, by show out.length ≤ i + 1; omega, hoc, hno.step hx hno.rise fun y => ⟨.inr, fun h => h.elim (fun e => by subst e; exact List.mem_of_getElem? hy) id⟩, hnl⟩
     ·repeat' (first | exact sees_nil | refine sees_cons rfl rfl rfl ?_ | refine sees_cons rfl rfl (by rw [← hwi]; rfl) ?_)
     ·repeat' (first | exact keepsR_nil | refine keepsR_cons rfl ?_ | refine keepsR_free ?_)
  ·have g1 : ¬ kk < out.length := by have := of_decide_eq_false e1; omega
   have hkl : kk = out.length := by omega
   have hhigh : ∀ z, out[kk]? = some z → x < z := fun z hz => by have := (List.getElem?_eq_some_iff.1 hz).1; omega
   have e3 : ((kk : Int) == (out.length : Int)) = true := by simp; omega
   repeat (first | refine br_f e1 ?_ | refine br_t e3 ?_ | refine br_t rfl ?_ | refine br_f rfl ?_); conv => whnf
   refine ⟨⟨_, fun w => slice_hiP _ _ hpl out.length c0 kk underL sizeL (by omega) w, ?_⟩⟩
   conv => whnf
   refine IdxN.of (by omega) (by omega) ?_; conv => whnf
   refine LoadN.of (hax.mono le_auto) 0 rfl rfl ?_; conv => whnf
   refine ⟨⟨_, fun w => slice_loP _ _ hpl out.length c0 kk underL sizeL hkk w, ?_⟩⟩
   conv => whnf
   repeat' ((first | refine br_t rfl ?_ | refine br_f rfl ?_ | refine IdxN.lit rfl rfl ?_ | intro _); conv => whnf)
   have l1 : (u16s (out.take kk)).length = kk * 1 := by rw [len_u16, List.length_take, Nat.min_eq_left hkk]
   have l2 : (u16s (out.take kk) ++ [Value.int .u16 x]).length = (kk + 1) * 1 := by rw [List.length_append, l1]; simp
   have l3 : (u16s (out.drop kk)).length = (out.length - kk) * 1 := by rw [len_u16, List.length_drop]
   have k1 : ∀ (V' : View) n c, V2.le V' → V'.cells (.slice _ n c) (u16s (out.take kk)) := fun V' n c hV' => by rw [u16s, List.map_take]; exact cells_take (hcl.mono hV') hpl kk
   have k3 : ∀ (V' : View) n c, V2.le V' → V'.cells (.slice (cutB _ kk c0) n c) (u16s (out.drop kk)) := fun V' n c hV' => by rw [u16s, List.map_drop]; exact cells_drop (hcl.mono hV') hpl kk (by rw [List.length_map]; omega)
   refine AppN.to kk (Nat.zero_add _) [] (u16s (out.take kk)) (fun i v hv => by simp at hv) rfl (k1 _ _ _ le_auto) l1 (one_u16 _) (by omega) (by decide) fun b5 c5 V5 hV5 hc5 => ?_; conv => whnf
   repeat' ((first | refine br_t rfl ?_ | refine br_f rfl ?_ | refine IdxN.lit rfl rfl ?_ | intro _); conv => whnf)
   rename_i l4 lk4
   refine AppN.to (kk + 1) rfl (u16s (out.take kk)) [.int .u16 x] (hc5.mono le_auto) l1 lk4.has rfl rfl (by omega) (by decide) fun b7 c7 V7 hV7 hc7 => ?_; conv => whnf
   refine AppN.toc (out.length + 1) (by omega) (u16s (out.take kk) ++ [.int .u16 x]) (u16s (out.drop kk)) hc7 l2 (k3 _ _ _ le_auto) l3 (one_u16 _) (by omega) (by decide) fun b8 c8 V8 hV8 hc8 hcp8 => ?_; conv => whnf
   repeat' ((first | refine br_t rfl ?_ | refine br_f rfl ?_ | refine IdxN.lit rfl rfl ?_ | intro _); conv => whnf)
   have hlen : (out.take kk ++ x :: out.drop kk).length = out.length + 1 := by rw [List.length_append, List.length_cons, List.length_take, List.length_drop]; omega
   have hc9 : V8.cells (.slice b8 (out.take kk ++ x :: out.drop kk).length c8) (u16s (out.take kk ++ x :: out.drop kk)) := by
    have e : u16s (out.take kk ++ x :: out.drop kk) = (u16s (out.take kk) ++ [Value.int .u16 x]) ++ u16s (out.drop kk) := by simp [u16s]
    rw [hlen, e]; exact hc8
   refine ⟨30, 58, j - 1, (i + 1, b8, c8, out.take kk ++ x :: out.drop kk), by omega, ?_, ?_, View.le_trans hV2 le_auto, by show i + 1 ≤ _; omega, by show l.length - (i + 1) = _; omega, hc9, by show (out.take kk ++ x :: out.drop kk).length ≤ i + 1; omega, by show (out.take kk ++ x :: out.drop kk).length ≤ c8; omega, hno.step hx (rising_ins hno.rise hkk hlow hhigh) fun y => mem_ins, fun e => (by have e := congrArg List.length e; rw [hlen] at e; cases e)⟩
   ·repeat' (first | exact sees_nil | refine sees_cons rfl rfl rfl ?_ | refine sees_cons rfl rfl (by rw [← hwi]; rfl) ?_ | refine sees_cons rfl rfl (by rw [← hlen]; rfl) ?_)
   ·repeat' (first | exact keepsR_nil | refine keepsR_cons rfl ?_ | refine keepsR_cons (by rw [← hlen]; rfl) ?_)
 ·have h3 : ¬ i < l.length := by have := of_decide_eq_false h3; omega
  rw [take_all h3] at hno
  repeat' ((first | refine br_t rfl ?_ | refine br_f rfl ?_ | refine IdxN.lit rfl rfl ?_ | intro _); conv => whnf)
  exact ⟨[30], by simp, [_], rfl, ⟨b0, c0, out⟩, rfl, rfl, Lab.of_cells hcl (hno.num h.num), hno, fun e => (by have e : out = [] := e; obtain ⟨rfl, rfl⟩ := hnl e; subst e; rfl)⟩
theorem news_u16 {a : Lab} {V V' : View} (h : a.at V) (hV : V.le V') : a.l.length = 0 ∨ V'.cells (.slice a.base a.l.length a.cap) (u16s a.l) := (h.mono hV).cells
theorem rjoin_spec (a c : Lab) (V : View) (h : a.at V) (hc : c.at V) (h8 : a.l.length + c.l.length ≤ 1100000) : Does Tryz.prog 10 [a.slice, c.slice] V [] (NewRow (a.l ++ c.l)) := by
 refine does_of_zfun [] mixed (args := [.v _, .v _]) (ms := []) Tryz.func10 (by kernel_rfl) rfl ?_; conv => whnf
 repeat' ((first | refine br_t rfl ?_ | refine br_f rfl ?_ | refine IdxN.lit rfl rfl ?_ | intro _); conv => whnf)
 rename_i b1 V1 hV1 hb1
 have l1 := len_u16 a.l
 have l2 := len_u16 c.l

 refine AppN.toR a.l.length (Nat.zero_add _) [] (u16s a.l) hb1 rfl (news_u16 h le_auto) l1 (one_u16 _) (by omega) (by decide) fun b5 c5 V5 hV5 hc5 hcap5 => ?_; conv => whnf
 repeat' ((first | refine br_t rfl ?_ | refine br_f rfl ?_ | refine IdxN.lit rfl rfl ?_ | intro _); conv => whnf)
 refine AppN.toR (a.l.length + c.l.length) rfl (u16s a.l) (u16s c.l) (hc5.mono le_auto) l1 (news_u16 hc le_auto) l2 (one_u16 _) (by omega) (by decide) fun b6 c6 V6 hV6 hc6 hcap6 => ?_; conv => whnf
 repeat' ((first | refine br_t rfl ?_ | refine br_f rfl ?_ | refine IdxN.lit rfl rfl ?_ | intro _); conv => whnf)
 have e1 : a.l.length + c.l.length = (a.l ++ c.l).length := (List.length_append ..).symm
 have e2 : u16s a.l ++ u16s c.l = u16s (a.l ++ c.l) := (List.map_append ..).symm
 rw [e1, e2] at hc6
 rw [e1]
 refine CallN.new 40 rfl (rall_spec ⟨b6, c6, a.l ++ c.l⟩ _ (Lab.of_cells hc6 fun x hx => (List.mem_append.1 hx).elim (h.num x) (hc.num x)) (by show (a.l ++ c.l).length ≤ 1100000; rw [List.length_append]; exact h8)) fun v V' bs hV ⟨r, hv, hb, hr, hn, hz⟩ => ⟨_, .row 40, hb, by subst hv; rfl, ?_⟩
 subst hv; conv => whnf
 repeat' ((first | refine br_t rfl ?_ | refine br_f rfl ?_ | refine IdxN.lit rfl rfl ?_ | intro _); conv => whnf)
 exact ⟨[40], by simp, [_], rfl, r, rfl, rfl, hr, hn, hz⟩
def normV (r : Lab) : Value := if 8 < r.l.length then .tuple #[.slice none 0 0, .int .i64 7] else .tuple #[r.slice, .int .i64 0]
open Classical in
def ownE (owns r : List Int) : Int := if 8 < r.length then 7 else if ∀ x ∈ r, x ∈ owns then 0 else 17
theorem NormOf.len {l r : List Int} (h : NormOf l r) : r.length ≤ l.length := by
 obtain ⟨s, hs⟩ : ∃ s, s = Lib.compact (sortI l) := ⟨_, rfl⟩
 have := h.unique (compact_norm l)
 rw [this, ← sortI_len l]; exact compact_len _
end Go.Proofs.LB
end
