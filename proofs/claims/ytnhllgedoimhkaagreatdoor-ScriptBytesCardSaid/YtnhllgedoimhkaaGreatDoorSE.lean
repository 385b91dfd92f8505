/- One part of a proof: an evaluator of the model, shown right, and contracts that it yields. No condition beyond those that each theorem names. -/
import Derived.Test.YtnhllgedoimhkaaGreatDoorSC
import Derived.Shelf.Spec.SlicesGrow
import Derived.Ground.Names8Prog
set_option linter.unusedSimpArgs false
set_option linter.unusedVariables false
set_option linter.unusedSectionVars false
set_option linter.deprecated false
section
namespace Go.Proofs.LB
open Go.X Go.Shelf
set_option maxRecDepth 100000
def growB_ren : Go.Shelf.Ren := ⟨fun | 4 => 42 | n => n, fun | 22 => 37 | 25 => 5 | 3 => 3 | 4 => 4 | 9 => 9 | 20 => 20 | 0 => 0 | n => n, fun | n => n⟩
theorem growB : Go.Proofs.Lays8.n4 Tryz.prog growB_ren := {
 mixed := by kernel_rfl
 f4 := ⟨Tryz.f42.name, by decide, Tryz.func42.trans (congrArg some (by kernel_rfl))⟩
 t0 := Tryz.underlying0
 a0 := Tryz.isAgg0
 z0 := Tryz.sizeOf0
 v0 := Tryz.zeroValue0
 t3 := Tryz.underlying3
 a3 := Tryz.isAgg3
 z3 := Tryz.sizeOf3
 v3 := Tryz.zeroValue3
 t4 := Tryz.underlying4
 a4 := Tryz.isAgg4
 z4 := Tryz.sizeOf4
 v4 := Tryz.zeroValue4
 t9 := Tryz.underlying9
 a9 := Tryz.isAgg9
 z9 := Tryz.sizeOf9
 v9 := Tryz.zeroValue9
 t20 := Tryz.underlying20
 a20 := Tryz.isAgg20
 z20 := Tryz.sizeOf20
 v20 := Tryz.zeroValue20
 t22 := Tryz.underlying37
 a22 := Tryz.isAgg37
 z22 := Tryz.sizeOf37
 v22 := Tryz.zeroValue37 }
def infoBB (o : Option TypeInfo) : Bool := match o with
 | some i => (match i.zero with | some z => Nat.beq i.size 1 && (Nat.beq z.cells.size 1 && Nat.ble i.bytes 1000) | none => false)
 | none => false
theorem infoB : ∃ i z, Tryz.prog.info? (growB_ren.t 25) = some i ∧ i.zero = some z ∧ i.size = 1 ∧ z.cells.size = 1 ∧ i.bytes ≤ 1000 ∧ growB_ren.t 25 = 5 := by
 have h : infoBB (Tryz.prog.info? (growB_ren.t 25)) = true := by kernel_rfl
 have e : growB_ren.t 25 = 5 := by kernel_rfl
 unfold infoBB at h
 split at h
 ·rename_i i hi
  split at h
  ·rename_i z hz
   simp only [Bool.and_eq_true] at h
   exact ⟨i, z, hi, hz, Nat.eq_of_beq_eq_true h.1, Nat.eq_of_beq_eq_true h.2.1, Nat.le_of_ble_eq_true h.2.2, e⟩
  ·cases h
 ·cases h
theorem growB_spec (m : Int) (n : Nat) (hm : m = n) (hn : 0 < n ∧ n ≤ 1000000) (V : View) :
  Does Tryz.prog 42 [.slice none 0 0, .int .i64 m] V [] (fun v V' bs => ∃ g cap, v = .slice (some ⟨g, 0, none⟩) 0 cap ∧ bs = [.row (.slice (some ⟨g, 0, none⟩) 0 cap) 5 1 0] ∧ ∀ k, V g k = none) := by
 subst hm
 obtain ⟨i, z, hi, hz, hs, hzs, hb, ht⟩ := infoB
 intro w hw
 have h := Any8.slices_Grow_grow growB i z hi hz (by omega) none 0 0 n [] w (Nat.le_refl _) (by omega) (by
  rw [Nat.zero_add]
  exact Nat.le_trans (Nat.mul_le_mul hn.2 hb) (by decide)) (by omega) (by simp) (fun _ => rfl) (fun a ha => by cases ha)
 have hge := grownCap_ge w (0 + n) 0 (growB_ren.t 25)
 have hle := grownCap_le_maxLen w (0 + n) 0 (growB_ren.t 25) (by unfold maxLen; omega)
 rw [ht] at h hge hle
 generalize grownCap w (0 + n) 0 5 = cap at *
 refine Calls.mono (show Calls Tryz.prog 42 _ _ _ from h) fun e w' ⟨he, hw'⟩ => ?_
 subst hw'
 have hcur := heap_alloc_new w.drew (.cells ((#[] : Array Value) ++ Builtin.zeroCells z.cells (0 + n - 0) ++ Builtin.zeroCells z.cells (cap - (0 + n))) 5)
 refine ⟨_, V, [.row (.slice (some ⟨w.heap.size, 0, none⟩) 0 cap) 5 1 0], he, ⟨_, _, rfl, rfl, newBlk_none hw.sub⟩, ⟨?_, ?_, ?_⟩, ?_, ?_, ?_⟩
 ·exact fun b k v hv => by rw [cell_keep (alloc_old w.drew _ (sub_lt hw.sub hv))]; exact hw.sub b k v hv
 ·intro j r hj
  cases j with
  | zero =>
   simp only [List.getElem?_cons_zero, Option.some.injEq] at hj
   subst hj
   refine .inr ⟨w.heap.size, cap, _, rfl, by omega, hcur, Nat.zero_le _, hle, ?_, fun o _ => newBlk_none hw.sub o⟩
   simp only [Array.size_append, size_zeroCells, hzs]
   simp only [List.size_toArray, List.length_nil]
   omega
  | succ j => simp at hj
 ·intro a b r r' g hab ha hb _ _
  have e1 : a = 0 := by have := (List.getElem?_eq_some_iff.1 ha).1; simp only [List.length_cons, List.length_nil] at this; omega
  have e2 : b = 0 := by have := (List.getElem?_eq_some_iff.1 hb).1; simp only [List.length_cons, List.length_nil] at this; omega
  exact absurd (e1.trans e2.symm) hab
 ·have hk : Kept (blksOf []) w w.drew := ⟨rfl, rfl, rfl, Nat.le_refl _, fun _ _ _ => rfl⟩
  exact hk.alloc _
 ·exact ⟨View.le_refl _, fun _ _ _ h => .inl h⟩
 ·rintro b ⟨r, hr, hb⟩
  right
  rw [List.mem_singleton.1 hr] at hb
  simp only [Res.blk, rowBlk] at hb
  split at hb
  ·cases hb
  ·simp only [Option.some.injEq] at hb; omega
theorem growB0_spec (m : Int) (hm : m = 0) (V : View) : PSpec 42 [.slice none 0 0, .int .i64 m] V (fun v _ => v = .slice none 0 0) := by
 subst hm
 refine does_of_zfun [] mixed (args := [.v _, .v _]) (ms := []) Tryz.func42 (by kernel_rfl) rfl ?_; conv => whnf
 repeat' ((first | refine br_t rfl ?_ | refine br_f rfl ?_ | refine IdxN.lit rfl rfl ?_ | intro _); conv => whnf)
 exact ret_pure rfl
theorem flat_take {ls : List (List UInt8)} {i : Nat} {l : List UInt8} (hl : ls[i]? = some l) : (ls.take (i + 1)).flatten = (ls.take i).flatten ++ l := by
 rw [List.take_succ, hl]; simp
theorem flat_le {ls : List (List UInt8)} (i : Nat) : (ls.take i).flatten.length ≤ ls.flatten.length := by
 have : ls.flatten = (ls.take i).flatten ++ (ls.drop i).flatten := by rw [← List.flatten_append, List.take_append_drop]
 rw [this, List.length_append]; omega
set_option maxHeartbeats 2000000 in
theorem concatB_spec (ls : List (List UInt8)) (cs : List Value) (base : Option Addr) (cap : Nat) (V : View) (hb : BsC V ls cs) (h : V.cells (.slice base cs.length cap) cs) (hl : cs.length ≤ 1000) (ht : ls.flatten.length ≤ 1000000) :
  PSpec 31 [.slice base cs.length cap] V (fun v V' => BytesV ls.flatten v V') := by
 refine does_of_zfun [] mixed (args := [.v _]) (ms := []) Tryz.func31 (by kernel_rfl) rfl ?_; conv => whnf
 repeat' ((first | refine br_t rfl ?_ | refine br_f rfl ?_ | refine IdxN.lit rfl rfl ?_ | intro _); conv => whnf)
 refine loopz (σ := Nat × Nat) (fun z => [(0, .v (.slice base cs.length cap)), (3, .v (.int .i64 (z.2 : Int))), (9, .v (.slice base cs.length cap)), (10, .v (.int .i64 (cs.length : Int))), (11, .v (.int .i64 (z.1 : Int)))]) (fun _ => [])
  (fun j z V' => V.le V' ∧ z.1 ≤ cs.length ∧ cs.length - z.1 = j ∧ z.2 = (ls.take z.1).flatten.length) cs.length (0, 0) ?_ ?_ ?_ ?_
 ·repeat' (first | exact sees_nil | refine sees_cons rfl rfl rfl ?_)
 ·exact keeps_nil
 ·exact ⟨View.le_refl _, Nat.zero_le _, Nat.sub_zero _, rfl⟩
 rintro j ⟨i, n⟩ V' ⟨hV, hi, hj, hn⟩
 simp only at hi hj hn
 conv => whnf
 apply br <;> intro h3 <;> conv => whnf
 ·have h3 : i < cs.length := by have := of_decide_eq_true h3; omega
  obtain ⟨xb, l, xc, hl1, hx, hlc, _⟩ := hb.get h3
  obtain ⟨p, off, hpb, hh⟩ := cells_some h (fun e => by rw [e] at h3; simp at h3)
  subst hpb
  have hcell := has_one hh hx
  have hfl := flat_take hl1
  have hle := flat_le (ls := ls) (i + 1)
  rw [hfl, List.length_append] at hle
  have w1 : IntKind.i64.wrap ((n : Int) + (l.length : Int)) = ((n + l.length : Nat) : Int) := by rw [wrapE]; omega
  refine IdxN.of (by omega) (by omega) ?_; conv => whnf
  refine LoadN.of (hcell.mono le_auto) 0 (by show off + i * 1 = off + i + 0; omega) rfl ?_; conv => whnf
  repeat' ((first | refine br_t rfl ?_ | refine br_f rfl ?_ | refine IdxN.lit rfl rfl ?_ | intro _); conv => whnf)
  rw [w1]
  refine br_f (decide_eq_false (by omega)) ?_; conv => whnf
  repeat' ((first | refine br_t rfl ?_ | refine br_f rfl ?_ | refine IdxN.lit rfl rfl ?_ | intro _); conv => whnf)
  have hwr := wrap_nat (i := i) (by omega)
  rw [hwr]
  refine ⟨j - 1, (i + 1, n + l.length), by omega, ?_, keeps_nil, hV, by show i + 1 ≤ _; omega, by show cs.length - (i + 1) = _; omega, by show n + l.length = (ls.take (i + 1)).flatten.length; rw [hfl, List.length_append, hn]⟩
  repeat' (first | exact sees_nil | refine sees_cons rfl rfl rfl ?_)
 have h3 : ¬ i < cs.length := by have := of_decide_eq_false h3; omega
 have hie : i = cs.length := by omega
 subst hie
 rw [hb.len, List.take_length] at hn
 repeat' ((first | refine br_t rfl ?_ | refine br_f rfl ?_ | refine IdxN.lit rfl rfl ?_ | intro _); conv => whnf)
 by_cases hz : n = 0
 ·refine CallN.pure (growB0_spec _ (by rw [hz]; rfl) _) fun v V1 _ hV1 hv => ?_
  subst hv; conv => whnf
  repeat' ((first | refine br_t rfl ?_ | refine br_f rfl ?_ | refine IdxN.lit rfl rfl ?_ | intro _); conv => whnf)
  refine loopz (σ := Nat × Option Addr × Nat × Nat × Bool) (fun z => [(0, .v (.slice base cs.length cap)), (6, .row (cond z.2.2.2.2 24 33)), (25, .v (.slice base cs.length cap)), (26, .v (.int .i64 (cs.length : Int))), (27, .v (.int .i64 (z.1 : Int)))]) (fun z => [(cond z.2.2.2.2 24 33, .row (.slice z.2.1 z.2.2.1 z.2.2.2.1) 5 1 z.2.2.1)])
   (fun j z V' => V.le V' ∧ z.1 ≤ cs.length ∧ cs.length - z.1 = j ∧ V'.cells (.slice z.2.1 z.2.2.1 z.2.2.2.1) (u8L (ls.take z.1).flatten) ∧ (ls.take z.1).flatten.length = z.2.2.1 ∧ z.2.2.1 ≤ z.2.2.2.1) cs.length (0, none, 0, 0, true) ?_ ?_ ?_ ?_
  ·repeat' (first | exact sees_nil | refine sees_cons rfl rfl rfl ?_)
  ·repeat' (first | exact keeps_nil | refine keeps_cons rfl ?_ | refine keeps_free ?_)
  ·exact ⟨(View.le_trans hV hV1), Nat.zero_le _, Nat.sub_zero _, (show View.cells _ (.slice none 0 0) [] from rfl), rfl, Nat.zero_le _⟩
  rintro j ⟨i, b0, m, k0, fl⟩ V' ⟨hV, hi, hj, hxs, hm, hcap⟩
  simp only at hi hj hxs hm hcap
  cases fl with
  | true =>
   conv => whnf
   apply br <;> intro h5 <;> conv => whnf
   ·have h5 : i < cs.length := by have := of_decide_eq_true h5; omega
    obtain ⟨xb, l, xc, hl1, hx, hlc, _⟩ := hb.get h5
    obtain ⟨p, off, hpb, hh⟩ := cells_some h (fun e => by rw [e] at h5; simp at h5)
    subst hpb
    have hcell := has_one hh hx
    have hfl := flat_take hl1
    have hle := flat_le (ls := ls) (i + 1)
    rw [hfl, List.length_append] at hle
    refine IdxN.of (by omega) (by omega) ?_; conv => whnf
    refine LoadN.of (hcell.mono le_auto) 0 (by show off + i * 1 = off + i + 0; omega) rfl ?_; conv => whnf
    repeat' ((first | refine br_t rfl ?_ | refine br_f rfl ?_ | refine IdxN.lit rfl rfl ?_ | intro _); conv => whnf)
    refine AppN.toR (m + l.length) rfl (u8L (ls.take i).flatten) (u8L l) (hxs.mono le_auto) (by rw [u8L_len, hm]; exact (Nat.mul_one _).symm) (hlc.imp id fun hh => hh.mono le_auto) (by rw [u8L_len]; exact (Nat.mul_one _).symm) (one_u8L _) (by omega) (by decide) fun base' cap' V5 hV5 hc5 hcap5 => ?_; conv => whnf
    repeat' ((first | refine br_t rfl ?_ | refine br_f rfl ?_ | refine IdxN.lit rfl rfl ?_ | intro _); conv => whnf)
    have hwr := wrap_nat (i := i) (by omega)
    rw [hwr]
    refine ⟨j - 1, (i + 1, base', m + l.length, cap', false), by omega, ?_, ?_, le_auto, by show i + 1 ≤ _; omega, by show cs.length - (i + 1) = _; omega, ?_, by show (ls.take (i + 1)).flatten.length = m + l.length; rw [hfl, List.length_append, hm], hcap5⟩
    ·repeat' (first | exact sees_nil | refine sees_cons rfl rfl rfl ?_)
    ·repeat' (first | exact keeps_nil | refine keeps_cons rfl ?_ | refine keeps_free ?_)
    ·show V5.cells (.slice base' (m + l.length) cap') (u8L (ls.take (i + 1)).flatten)
     rw [hfl, u8L_app]
     exact hc5
   ·have h5 : ¬ i < cs.length := by have := of_decide_eq_false h5; omega
    have hie : i = cs.length := by omega
    subst hie
    rw [hb.len, List.take_length] at hm hxs
    subst hm
    repeat' ((first | refine br_t rfl ?_ | refine br_f rfl ?_ | refine IdxN.lit rfl rfl ?_ | intro _); conv => whnf)
    exact ret_pure ⟨_, _, rfl, hxs, hcap⟩
  | false =>
   conv => whnf
   apply br <;> intro h5 <;> conv => whnf
   ·have h5 : i < cs.length := by have := of_decide_eq_true h5; omega
    obtain ⟨xb, l, xc, hl1, hx, hlc, _⟩ := hb.get h5
    obtain ⟨p, off, hpb, hh⟩ := cells_some h (fun e => by rw [e] at h5; simp at h5)
    subst hpb
    have hcell := has_one hh hx
    have hfl := flat_take hl1
    have hle := flat_le (ls := ls) (i + 1)
    rw [hfl, List.length_append] at hle
    refine IdxN.of (by omega) (by omega) ?_; conv => whnf
    refine LoadN.of (hcell.mono le_auto) 0 (by show off + i * 1 = off + i + 0; omega) rfl ?_; conv => whnf
    repeat' ((first | refine br_t rfl ?_ | refine br_f rfl ?_ | refine IdxN.lit rfl rfl ?_ | intro _); conv => whnf)
    refine AppN.toR (m + l.length) rfl (u8L (ls.take i).flatten) (u8L l) (hxs.mono le_auto) (by rw [u8L_len, hm]; exact (Nat.mul_one _).symm) (hlc.imp id fun hh => hh.mono le_auto) (by rw [u8L_len]; exact (Nat.mul_one _).symm) (one_u8L _) (by omega) (by decide) fun base' cap' V5 hV5 hc5 hcap5 => ?_; conv => whnf
    repeat' ((first | refine br_t rfl ?_ | refine br_f rfl ?_ | refine IdxN.lit rfl rfl ?_ | intro _); conv => whnf)
    have hwr := wrap_nat (i := i) (by omega)
    rw [hwr]
    refine ⟨j - 1, (i + 1, base', m + l.length, cap', false), by omega, ?_, ?_, le_auto, by show i + 1 ≤ _; omega, by show cs.length - (i + 1) = _; omega, ?_, by show (ls.take (i + 1)).flatten.length = m + l.length; rw [hfl, List.length_append, hm], hcap5⟩
    ·repeat' (first | exact sees_nil | refine sees_cons rfl rfl rfl ?_)
    ·repeat' (first | exact keeps_nil | refine keeps_cons rfl ?_ | refine keeps_free ?_)
    ·show V5.cells (.slice base' (m + l.length) cap') (u8L (ls.take (i + 1)).flatten)
     rw [hfl, u8L_app]
     exact hc5
   ·have h5 : ¬ i < cs.length := by have := of_decide_eq_false h5; omega
    have hie : i = cs.length := by omega
    subst hie
    rw [hb.len, List.take_length] at hm hxs
    subst hm
    repeat' ((first | refine br_t rfl ?_ | refine br_f rfl ?_ | refine IdxN.lit rfl rfl ?_ | intro _); conv => whnf)
    exact ret_pure ⟨_, _, rfl, hxs, hcap⟩
 ·refine CallN.new 24 rfl (growB_spec _ n rfl ⟨by omega, by omega⟩ _) fun v V1 bs hV1 ⟨g, gcap, hv, hbs, hg⟩ => ⟨_, .row 24, hbs, by subst hv; rfl, ?_⟩
  subst hv; conv => whnf
  repeat' ((first | refine br_t rfl ?_ | refine br_f rfl ?_ | refine IdxN.lit rfl rfl ?_ | intro _); conv => whnf)
  refine loopz (σ := Nat × Option Addr × Nat × Nat × Bool) (fun z => [(0, .v (.slice base cs.length cap)), (6, .row (cond z.2.2.2.2 24 33)), (25, .v (.slice base cs.length cap)), (26, .v (.int .i64 (cs.length : Int))), (27, .v (.int .i64 (z.1 : Int)))]) (fun z => [(cond z.2.2.2.2 24 33, .row (.slice z.2.1 z.2.2.1 z.2.2.2.1) 5 1 z.2.2.1)])
   (fun j z V' => V.le V' ∧ z.1 ≤ cs.length ∧ cs.length - z.1 = j ∧ V'.cells (.slice z.2.1 z.2.2.1 z.2.2.2.1) (u8L (ls.take z.1).flatten) ∧ (ls.take z.1).flatten.length = z.2.2.1 ∧ z.2.2.1 ≤ z.2.2.2.1) cs.length (0, (some ⟨g, 0, none⟩), 0, gcap, true) ?_ ?_ ?_ ?_
  ·repeat' (first | exact sees_nil | refine sees_cons rfl rfl rfl ?_)
  ·repeat' (first | exact keeps_nil | refine keeps_cons rfl ?_ | refine keeps_free ?_)
  ·exact ⟨(View.le_trans hV hV1), Nat.zero_le _, Nat.sub_zero _, (fun i v hv => by simp [u8L] at hv), rfl, Nat.zero_le _⟩
  rintro j ⟨i, b0, m, k0, fl⟩ V' ⟨hV, hi, hj, hxs, hm, hcap⟩
  simp only at hi hj hxs hm hcap
  cases fl with
  | true =>
   conv => whnf
   apply br <;> intro h5 <;> conv => whnf
   ·have h5 : i < cs.length := by have := of_decide_eq_true h5; omega
    obtain ⟨xb, l, xc, hl1, hx, hlc, _⟩ := hb.get h5
    obtain ⟨p, off, hpb, hh⟩ := cells_some h (fun e => by rw [e] at h5; simp at h5)
    subst hpb
    have hcell := has_one hh hx
    have hfl := flat_take hl1
    have hle := flat_le (ls := ls) (i + 1)
    rw [hfl, List.length_append] at hle
    refine IdxN.of (by omega) (by omega) ?_; conv => whnf
    refine LoadN.of (hcell.mono le_auto) 0 (by show off + i * 1 = off + i + 0; omega) rfl ?_; conv => whnf
    repeat' ((first | refine br_t rfl ?_ | refine br_f rfl ?_ | refine IdxN.lit rfl rfl ?_ | intro _); conv => whnf)
    refine AppN.toR (m + l.length) rfl (u8L (ls.take i).flatten) (u8L l) (hxs.mono le_auto) (by rw [u8L_len, hm]; exact (Nat.mul_one _).symm) (hlc.imp id fun hh => hh.mono le_auto) (by rw [u8L_len]; exact (Nat.mul_one _).symm) (one_u8L _) (by omega) (by decide) fun base' cap' V5 hV5 hc5 hcap5 => ?_; conv => whnf
    repeat' ((first | refine br_t rfl ?_ | refine br_f rfl ?_ | refine IdxN.lit rfl rfl ?_ | intro _); conv => whnf)
    have hwr := wrap_nat (i := i) (by omega)
    rw [hwr]
    refine ⟨j - 1, (i + 1, base', m + l.length, cap', false), by omega, ?_, ?_, le_auto, by show i + 1 ≤ _; omega, by show cs.length - (i + 1) = _; omega, ?_, by show (ls.take (i + 1)).flatten.length = m + l.length; rw [hfl, List.length_append, hm], hcap5⟩
    ·repeat' (first | exact sees_nil | refine sees_cons rfl rfl rfl ?_)
    ·repeat' (first | exact keeps_nil | refine keeps_cons rfl ?_ | refine keeps_free ?_)
    ·show V5.cells (.slice base' (m + l.length) cap') (u8L (ls.take (i + 1)).flatten)
     rw [hfl, u8L_app]
     exact hc5
   ·have h5 : ¬ i < cs.length := by have := of_decide_eq_false h5; omega
    have hie : i = cs.length := by omega
    subst hie
    rw [hb.len, List.take_length] at hm hxs
    subst hm
    repeat' ((first | refine br_t rfl ?_ | refine br_f rfl ?_ | refine IdxN.lit rfl rfl ?_ | intro _); conv => whnf)
    exact ret_pure ⟨_, _, rfl, hxs, hcap⟩
  | false =>
   conv => whnf
   apply br <;> intro h5 <;> conv => whnf
   ·have h5 : i < cs.length := by have := of_decide_eq_true h5; omega
    obtain ⟨xb, l, xc, hl1, hx, hlc, _⟩ := hb.get h5
    obtain ⟨p, off, hpb, hh⟩ := cells_some h (fun e => by rw [e] at h5; simp at h5)
    subst hpb
    have hcell := has_one hh hx
    have hfl := flat_take hl1
    have hle := flat_le (ls := ls) (i + 1)
    rw [hfl, List.length_append] at hle
    refine IdxN.of (by omega) (by omega) ?_; conv => whnf
    refine LoadN.of (hcell.mono le_auto) 0 (by show off + i * 1 = off + i + 0; omega) rfl ?_; conv => whnf
    repeat' ((first | refine br_t rfl ?_ | refine br_f rfl ?_ | refine IdxN.lit rfl rfl ?_ | intro _); conv => whnf)
    refine AppN.toR (m + l.length) rfl (u8L (ls.take i).flatten) (u8L l) (hxs.mono le_auto) (by rw [u8L_len, hm]; exact (Nat.mul_one _).symm) (hlc.imp id fun hh => hh.mono le_auto) (by rw [u8L_len]; exact (Nat.mul_one _).symm) (one_u8L _) (by omega) (by decide) fun base' cap' V5 hV5 hc5 hcap5 => ?_; conv => whnf
    repeat' ((first | refine br_t rfl ?_ | refine br_f rfl ?_ | refine IdxN.lit rfl rfl ?_ | intro _); conv => whnf)
    have hwr := wrap_nat (i := i) (by omega)
    rw [hwr]
    refine ⟨j - 1, (i + 1, base', m + l.length, cap', false), by omega, ?_, ?_, le_auto, by show i + 1 ≤ _; omega, by show cs.length - (i + 1) = _; omega, ?_, by show (ls.take (i + 1)).flatten.length = m + l.length; rw [hfl, List.length_append, hm], hcap5⟩
    ·repeat' (first | exact sees_nil | refine sees_cons rfl rfl rfl ?_)
    ·repeat' (first | exact keeps_nil | refine keeps_cons rfl ?_ | refine keeps_free ?_)
    ·show V5.cells (.slice base' (m + l.length) cap') (u8L (ls.take (i + 1)).flatten)
     rw [hfl, u8L_app]
     exact hc5
   ·have h5 : ¬ i < cs.length := by have := of_decide_eq_false h5; omega
    have hie : i = cs.length := by omega
    subst hie
    rw [hb.len, List.take_length] at hm hxs
    subst hm
    repeat' ((first | refine br_t rfl ?_ | refine br_f rfl ?_ | refine IdxN.lit rfl rfl ?_ | intro _); conv => whnf)
    exact ret_pure ⟨_, _, rfl, hxs, hcap⟩
end Go.Proofs.LB
end
