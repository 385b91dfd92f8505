/- One part of a proof: an evaluator of the model, shown right, and contracts that it yields. No condition beyond those that each theorem names. -/
import Derived.Test.YtepojdlgfmmjgaaGreatJA
import Derived.Shelf.Spec.SlicesGrow
import Derived.Ground.Names8Prog
set_option linter.unusedSimpArgs false
set_option linter.unusedVariables false
set_option linter.unusedSectionVars false
set_option linter.deprecated false
section
namespace Go.Proofs.LB
open Go.X Go.Shelf
set_option maxRecDepth 100000
def RowOf (R : List Int → Prop) (v : Value) (V' : View) (bs : List Res) : Prop := ∃ r : Lab, v = r.slice ∧ (bs = [.row v 68 1 r.l.length] ∨ (bs = [] ∧ v = .slice none 0 0)) ∧ r.at V' ∧ R r.l
theorem lab_nil (b : Option Addr) (c : Nat) (V : View) : (Lab.mk b c []).at V := ⟨fun h => absurd rfl h, fun x h => by cases h⟩
theorem NewRow.to {l : List Int} {v : Value} {V' : View} {bs : List Res} (h : NewRow l v V' bs) : RowOf (NormOf l) v V' bs := by
 obtain ⟨r, hv, hb, hr, hn, hz⟩ := h
 exact ⟨r, hv, .inl hb, hr, hn⟩
theorem clone_spec (a : Lab) (V : View) (h : a.at V) (h8 : a.l.length ≤ 1000) : Does Tryz.prog 108 [a.slice] V [] (RowOf fun r => r = a.l) := by
 obtain ⟨base, cap, l⟩ := a
 show Does _ _ [.slice base l.length cap] V [] (RowOf fun r => r = l)
 replace h8 : l.length ≤ 1000 := h8
 have l1 := len_u16 l
 cases base with
 | none =>
  have hl : l = [] := Classical.byContradiction fun hn => by
   obtain ⟨p, off, hb, _⟩ := h.has hn
   cases hb
  subst hl
  refine does_of_zfun [] mixed (args := [.v _]) (ms := []) Tryz.func108 (by kernel_rfl) rfl ?_; conv => whnf
  repeat' ((first | refine br_t rfl ?_ | refine br_f rfl ?_ | refine IdxN.lit rfl rfl ?_ | intro _); conv => whnf)
  exact ⟨[], by simp, [], rfl, ⟨none, 0, []⟩, rfl, .inr ⟨rfl, rfl⟩, lab_nil _ _ _, rfl⟩
 | some p =>
  refine does_of_zfun [] mixed (args := [.v _]) (ms := []) Tryz.func108 (by kernel_rfl) rfl ?_; conv => whnf
  repeat' ((first | refine br_t rfl ?_ | refine br_f rfl ?_ | refine IdxN.lit rfl rfl ?_ | intro _); conv => whnf)
  rename_i b1 V1 hV1 hb1
  refine AppN.toR l.length (Nat.zero_add _) [] (u16s l) hb1 rfl (news_u16 h le_auto) l1 (one_u16 _) (by omega) (by decide) fun b5 c5 V5 hV5 hc5 hcap5 => ?_; conv => whnf
  repeat' ((first | refine br_t rfl ?_ | refine br_f rfl ?_ | refine IdxN.lit rfl rfl ?_ | intro _); conv => whnf)
  exact ⟨[7], by simp, [_], rfl, ⟨b5, c5, l⟩, rfl, .inl rfl, Lab.of_cells hc5 h.num, rfl⟩
theorem cloneL_spec (a : Lab) (V : View) (h : a.at V) (h8 : a.l.length ≤ 1000) : Does Tryz.prog 34 [a.slice] V [] (RowOf fun r => r = a.l) := by
 obtain ⟨base, cap, l⟩ := a
 show Does _ _ [.slice base l.length cap] V [] (RowOf fun r => r = l)
 replace h8 : l.length ≤ 1000 := h8
 have l1 := len_u16 l
 cases base with
 | none =>
  have hl : l = [] := Classical.byContradiction fun hn => by
   obtain ⟨p, off, hb, _⟩ := h.has hn
   cases hb
  subst hl
  refine does_of_zfun [] mixed (args := [.v _]) (ms := []) Tryz.func34 (by kernel_rfl) rfl ?_; conv => whnf
  repeat' ((first | refine br_t rfl ?_ | refine br_f rfl ?_ | refine IdxN.lit rfl rfl ?_ | intro _); conv => whnf)
  exact ⟨[], by simp, [], rfl, ⟨none, 0, []⟩, rfl, .inr ⟨rfl, rfl⟩, lab_nil _ _ _, rfl⟩
 | some p =>
  refine does_of_zfun [] mixed (args := [.v _]) (ms := []) Tryz.func34 (by kernel_rfl) rfl ?_; conv => whnf
  repeat' ((first | refine br_t rfl ?_ | refine br_f rfl ?_ | refine IdxN.lit rfl rfl ?_ | intro _); conv => whnf)
  rename_i b1 V1 hV1 hb1
  refine AppN.toR l.length (Nat.zero_add _) [] (u16s l) hb1 rfl (news_u16 h le_auto) l1 (one_u16 _) (by omega) (by decide) fun b5 c5 V5 hV5 hc5 hcap5 => ?_; conv => whnf
  repeat' ((first | refine br_t rfl ?_ | refine br_f rfl ?_ | refine IdxN.lit rfl rfl ?_ | intro _); conv => whnf)
  exact ⟨[7], by simp, [_], rfl, ⟨b5, c5, l⟩, rfl, .inl rfl, Lab.of_cells hc5 h.num, rfl⟩
def growU_ren : Go.Shelf.Ren := ⟨fun | 4 => 111 | n => n, fun | 22 => 23 | 25 => 68 | 3 => 3 | 4 => 4 | 9 => 9 | 20 => 20 | 0 => 0 | n => n, fun | n => n⟩
theorem growU : Go.Proofs.Lays8.n4 Tryz.prog growU_ren := {
 mixed := by kernel_rfl
 f4 := ⟨Tryz.f111.name, by decide, Tryz.func111.trans (congrArg some (by kernel_rfl))⟩
 t0 := Tryz.underlying0
 a0 := Tryz.isAgg0
 z0 := Tryz.sizeOf0
 v0 := Tryz.zeroValue0
 t3 := Tryz.underlying3
 a3 := Tryz.isAgg3
 z3 := Tryz.sizeOf3
 v3 := Tryz.zeroValue3
 t4 := Tryz.underlying4
 a4 := Tryz.isAgg4
 z4 := Tryz.sizeOf4
 v4 := Tryz.zeroValue4
 t9 := Tryz.underlying9
 a9 := Tryz.isAgg9
 z9 := Tryz.sizeOf9
 v9 := Tryz.zeroValue9
 t20 := Tryz.underlying20
 a20 := Tryz.isAgg20
 z20 := Tryz.sizeOf20
 v20 := Tryz.zeroValue20
 t22 := Tryz.underlying23
 a22 := Tryz.isAgg23
 z22 := Tryz.sizeOf23
 v22 := Tryz.zeroValue23 }
def infoU (o : Option TypeInfo) : Bool := match o with
 | some i => (match i.zero with | some z => Nat.beq i.size 1 && (Nat.beq z.cells.size 1 && Nat.ble i.bytes 1000) | none => false)
 | none => false
theorem infoG : ∃ i z, Tryz.prog.info? (growU_ren.t 25) = some i ∧ i.zero = some z ∧ i.size = 1 ∧ z.cells.size = 1 ∧ i.bytes ≤ 1000 ∧ growU_ren.t 25 = 68 := by
 have h : infoU (Tryz.prog.info? (growU_ren.t 25)) = true := by kernel_rfl
 have e : growU_ren.t 25 = 68 := by kernel_rfl
 unfold infoU at h
 split at h
 ·rename_i i hi
  split at h
  ·rename_i z hz
   simp only [Bool.and_eq_true] at h
   exact ⟨i, z, hi, hz, Nat.eq_of_beq_eq_true h.1, Nat.eq_of_beq_eq_true h.2.1, Nat.le_of_ble_eq_true h.2.2, e⟩
  ·cases h
 ·cases h
theorem grow_spec (m : Int) (n : Nat) (hm : m = n) (hn : 0 < n ∧ n ≤ 10000) (V : View) :
  Does Tryz.prog 111 [.slice none 0 0, .int .i64 m] V [] (fun v V' bs => ∃ g cap, v = .slice (some ⟨g, 0, none⟩) 0 cap ∧ bs = [.row (.slice (some ⟨g, 0, none⟩) 0 cap) 68 1 0] ∧ ∀ k, V g k = none) := by
 subst hm
 obtain ⟨i, z, hi, hz, hs, hzs, hb, ht⟩ := infoG
 intro w hw
 have h := Any8.slices_Grow_grow growU i z hi hz (by omega) none 0 0 n [] w (Nat.le_refl _) (by omega) (by
  rw [Nat.zero_add]
  exact Nat.le_trans (Nat.mul_le_mul hn.2 hb) (by decide)) (by omega) (by simp) (fun _ => rfl) (fun a ha => by cases ha)
 have hge := grownCap_ge w (0 + n) 0 (growU_ren.t 25)
 have hle := grownCap_le_maxLen w (0 + n) 0 (growU_ren.t 25) (by unfold maxLen; omega)
 rw [ht] at h hge hle
 generalize grownCap w (0 + n) 0 68 = cap at *
 refine Calls.mono (show Calls Tryz.prog 111 _ _ _ from h) fun e w' ⟨he, hw'⟩ => ?_
 subst hw'
 have hcur := heap_alloc_new w.drew (.cells ((#[] : Array Value) ++ Builtin.zeroCells z.cells (0 + n - 0) ++ Builtin.zeroCells z.cells (cap - (0 + n))) 68)
 refine ⟨_, V, [.row (.slice (some ⟨w.heap.size, 0, none⟩) 0 cap) 68 1 0], he, ⟨_, _, rfl, rfl, newBlk_none hw.sub⟩, ⟨?_, ?_, ?_⟩, ?_, ?_, ?_⟩
 ·exact fun b k v hv => by rw [cell_keep (alloc_old w.drew _ (sub_lt hw.sub hv))]; exact hw.sub b k v hv
 ·intro j r hj
  cases j with
  | zero =>
   simp only [List.getElem?_cons_zero, Option.some.injEq] at hj
   subst hj
   refine .inr ⟨w.heap.size, cap, _, rfl, by omega, hcur, Nat.zero_le _, hle, ?_, fun o _ => newBlk_none hw.sub o⟩
   simp only [Array.size_append, size_zeroCells, hzs]
   simp only [List.size_toArray, List.length_nil]
   omega
  | succ j => simp at hj
 ·intro a b r r' g hab ha hb _ _
  have e1 : a = 0 := by have := (List.getElem?_eq_some_iff.1 ha).1; simp only [List.length_cons, List.length_nil] at this; omega
  have e2 : b = 0 := by have := (List.getElem?_eq_some_iff.1 hb).1; simp only [List.length_cons, List.length_nil] at this; omega
  exact absurd (e1.trans e2.symm) hab
 ·have hk : Kept (blksOf []) w w.drew := ⟨rfl, rfl, rfl, Nat.le_succ _, Nat.le_refl _, fun _ _ _ => rfl, (Kept.refl (blksOf []) w).thaw⟩
  exact hk.alloc _
 ·exact ⟨View.le_refl _, fun _ _ _ h => .inl h⟩
 ·rintro b ⟨r, hr, hb⟩
  right
  rw [List.mem_singleton.1 hr] at hb
  simp only [Res.blk, rowBlk] at hb
  split at hb
  ·cases hb
  ·simp only [Option.some.injEq] at hb; omega
theorem grow0_spec (m : Int) (hm : m = 0) (V : View) : PSpec 111 [.slice none 0 0, .int .i64 m] V (fun v _ => v = .slice none 0 0) := by
 subst hm
 refine does_of_zfun [] mixed (args := [.v _, .v _]) (ms := []) Tryz.func111 (by kernel_rfl) rfl ?_; conv => whnf
 repeat' ((first | refine br_t rfl ?_ | refine br_f rfl ?_ | refine IdxN.lit rfl rfl ?_ | intro _); conv => whnf)
 exact ret_pure rfl
theorem concat_spec (a c : Lab) (p : Nat) (V : View) (hp : V.has p 0 [a.slice, c.slice]) (h : a.at V) (hc : c.at V) (h8 : a.l.length + c.l.length ≤ 1000) : Does Tryz.prog 59 [.slice (some ⟨p, 0, none⟩) 2 2] V [] (RowOf fun r => r = a.l ++ c.l) := by
 refine does_of_zfun [] mixed (args := [.v _]) (ms := []) Tryz.func59 (by kernel_rfl) rfl ?_
 have w1 : IntKind.i64.wrap ((0 : Int) + (a.l.length : Int)) = (a.l.length : Int) := by rw [wrapE]; omega
 have w2 : IntKind.i64.wrap ((a.l.length : Int) + (c.l.length : Int)) = ((a.l.length + c.l.length : Nat) : Int) := by rw [wrapE]; omega
 have d1 : decide (IntKind.i64.wrap ((0 : Int) + (a.l.length : Int)) < 0) = false := decide_eq_false (by rw [w1]; omega)
 have d2 : decide (IntKind.i64.wrap (IntKind.i64.wrap ((0 : Int) + (a.l.length : Int)) + (c.l.length : Int)) < 0) = false := decide_eq_false (by rw [w1, w2]; omega)
 conv => whnf
 repeat' ((first | refine br_t rfl ?_ | refine br_f rfl ?_ | refine IdxN.lit rfl rfl ?_ | intro _); conv => whnf)
 refine unrollz 3 ?_; conv => whnf
 repeat' ((first | refine br_t rfl ?_ | refine br_f rfl ?_ | refine IdxN.lit rfl rfl ?_ | intro _); conv => whnf)
 refine LoadN.of (hp.mono le_auto) 0 rfl rfl ?_; conv => whnf
 refine br_f d1 ?_; conv => whnf
 repeat' ((first | refine br_t rfl ?_ | refine br_f rfl ?_ | refine IdxN.lit rfl rfl ?_ | intro _); conv => whnf)
 refine LoadN.of (hp.mono le_auto) 1 rfl rfl ?_; conv => whnf
 refine br_f d2 ?_; conv => whnf
 repeat' ((first | refine br_t rfl ?_ | refine br_f rfl ?_ | refine IdxN.lit rfl rfl ?_ | intro _); conv => whnf)
 have l1 := len_u16 a.l
 have l2 := len_u16 c.l
 have e1 : a.l.length + c.l.length = (a.l ++ c.l).length := (List.length_append ..).symm
 have e2 : u16s a.l ++ u16s c.l = u16s (a.l ++ c.l) := (List.map_append ..).symm
 by_cases hz : a.l.length + c.l.length = 0
 ·refine CallN.pure (grow0_spec _ (by rw [w1, w2, hz]; rfl) _) fun v V1 _ hV1 hv => ?_
  subst hv; conv => whnf
  repeat' ((first | refine br_t rfl ?_ | refine br_f rfl ?_ | refine IdxN.lit rfl rfl ?_ | intro _); conv => whnf)
  refine unrollz 3 ?_; conv => whnf
  repeat' ((first | refine br_t rfl ?_ | refine br_f rfl ?_ | refine IdxN.lit rfl rfl ?_ | intro _); conv => whnf)
  refine LoadN.of (hp.mono le_auto) 0 rfl rfl ?_; conv => whnf
  refine AppN.toR a.l.length (Nat.zero_add _) [] (u16s a.l) (show View.cells _ (.slice none 0 0) [] from rfl) rfl (news_u16 h le_auto) l1 (one_u16 _) (by omega) (by decide) fun b5 c5 V5 hV5 hc5 hcap5 => ?_; conv => whnf
  repeat' ((first | refine br_t rfl ?_ | refine br_f rfl ?_ | refine IdxN.lit rfl rfl ?_ | intro _); conv => whnf)
  refine LoadN.of (hp.mono le_auto) 1 rfl rfl ?_; conv => whnf
  refine AppN.toR (a.l.length + c.l.length) rfl (u16s a.l) (u16s c.l) (hc5.mono le_auto) l1 (news_u16 hc le_auto) l2 (one_u16 _) (by omega) (by decide) fun b6 c6 V6 hV6 hc6 hcap6 => ?_; conv => whnf
  repeat' ((first | refine br_t rfl ?_ | refine br_f rfl ?_ | refine IdxN.lit rfl rfl ?_ | intro _); conv => whnf)
  rw [e1, e2] at hc6
  rw [e1]
  exact ⟨[33], by simp, [_], rfl, ⟨b6, c6, a.l ++ c.l⟩, rfl, .inl rfl, Lab.of_cells hc6 fun x hx => (List.mem_append.1 hx).elim (h.num x) (hc.num x), rfl⟩
 ·refine CallN.new 24 rfl (grow_spec _ (a.l.length + c.l.length) (by rw [w1, w2]) ⟨by omega, by omega⟩ _) fun v V1 bs hV1 ⟨g, cap, hv, hb, hg⟩ => ⟨_, .row 24, hb, by subst hv; rfl, ?_⟩
  subst hv; conv => whnf
  repeat' ((first | refine br_t rfl ?_ | refine br_f rfl ?_ | refine IdxN.lit rfl rfl ?_ | intro _); conv => whnf)
  refine unrollz 3 ?_; conv => whnf
  repeat' ((first | refine br_t rfl ?_ | refine br_f rfl ?_ | refine IdxN.lit rfl rfl ?_ | intro _); conv => whnf)
  refine LoadN.of (hp.mono le_auto) 0 rfl rfl ?_; conv => whnf
  refine AppN.toR a.l.length (Nat.zero_add _) [] (u16s a.l) (fun i v hv => by simp at hv) rfl (news_u16 h le_auto) l1 (one_u16 _) (by omega) (by decide) fun b5 c5 V5 hV5 hc5 hcap5 => ?_; conv => whnf
  repeat' ((first | refine br_t rfl ?_ | refine br_f rfl ?_ | refine IdxN.lit rfl rfl ?_ | intro _); conv => whnf)
  refine LoadN.of (hp.mono le_auto) 1 rfl rfl ?_; conv => whnf
  refine AppN.toR (a.l.length + c.l.length) rfl (u16s a.l) (u16s c.l) (hc5.mono le_auto) l1 (news_u16 hc le_auto) l2 (one_u16 _) (by omega) (by decide) fun b6 c6 V6 hV6 hc6 hcap6 => ?_; conv => whnf
  repeat' ((first | refine br_t rfl ?_ | refine br_f rfl ?_ | refine IdxN.lit rfl rfl ?_ | intro _); conv => whnf)
  rw [e1, e2] at hc6
  rw [e1]
  exact ⟨[33], by simp, [_], rfl, ⟨b6, c6, a.l ++ c.l⟩, rfl, .inl rfl, Lab.of_cells hc6 fun x hx => (List.mem_append.1 hx).elim (h.num x) (hc.num x), rfl⟩
end Go.Proofs.LB
end
