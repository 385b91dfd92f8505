/- One part of a proof: an evaluator of the model, shown right, and contracts that it yields. No condition beyond those that each theorem names. -/
import Derived.Test.YtenpginanhnkbaaCM
import Derived.Shelf.Spec.SlicesGrow
import Derived.Ground.Names8Prog
section
set_option linter.unusedSimpArgs false
set_option linter.unusedVariables false
namespace Go.Proofs.Ytenpginanhnkbaa
open Go.X Go.Shelf
set_option maxRecDepth 100000

def Try.growL_ren : Go.Shelf.Ren := ⟨fun | 4 => 116 | n => n, fun | 22 => 45 | 25 => 38 | 3 => 3 | 4 => 4 | 9 => 9 | 20 => 20 | 0 => 0 | n => n, fun | n => n⟩
theorem Try.growL : Go.Proofs.Lays8.n4 Try.prog Try.growL_ren := {
  mixed := by kernel_rfl
  f4 := ⟨Try.f116.name, by decide, Try.func116.trans (congrArg some (by kernel_rfl))⟩
  t0 := Try.underlying0
  a0 := Try.isAgg0
  z0 := Try.sizeOf0
  v0 := Try.zeroValue0
  t3 := Try.underlying3
  a3 := Try.isAgg3
  z3 := Try.sizeOf3
  v3 := Try.zeroValue3
  t4 := Try.underlying4
  a4 := Try.isAgg4
  z4 := Try.sizeOf4
  v4 := Try.zeroValue4
  t9 := Try.underlying9
  a9 := Try.isAgg9
  z9 := Try.sizeOf9
  v9 := Try.zeroValue9
  t20 := Try.underlying20
  a20 := Try.isAgg20
  z20 := Try.sizeOf20
  v20 := Try.zeroValue20
  t22 := Try.underlying45
  a22 := Try.isAgg45
  z22 := Try.sizeOf45
  v22 := Try.zeroValue45 }
def infoB (o : Option TypeInfo) : Bool := match o with
  | some i => (match i.zero with | some z => Nat.beq i.size 3 && (Nat.beq z.cells.size 3 && Nat.ble i.bytes 1000) | none => false)
  | none => false
theorem info38 : ∃ i z, Try.prog.info? (Try.growL_ren.t 25) = some i ∧ i.zero = some z ∧ i.size = 3 ∧ z.cells.size = 3 ∧ i.bytes ≤ 1000 ∧ Try.growL_ren.t 25 = 38 := by
  have h : infoB (Try.prog.info? (Try.growL_ren.t 25)) = true := by kernel_rfl
  have e : Try.growL_ren.t 25 = 38 := by kernel_rfl
  unfold infoB at h
  split at h
  · rename_i i hi
    split at h
    · rename_i z hz
      simp only [Bool.and_eq_true] at h
      exact ⟨i, z, hi, hz, Nat.eq_of_beq_eq_true h.1, Nat.eq_of_beq_eq_true h.2.1, Nat.le_of_ble_eq_true h.2.2, e⟩
    · cases h
  · cases h
theorem grow_spec (m : Int) (n : Nat) (hm : m = n) (hn : 0 < n ∧ n ≤ 10000) (V : View) :
    Does Try.prog 116 [.slice none 0 0, .int .i64 m] V [] (fun v V' bs => ∃ g cap, v = .slice (some ⟨g, 0, none⟩) 0 cap ∧ bs = [.row (.slice (some ⟨g, 0, none⟩) 0 cap) 38 3 0]) := by
  subst hm
  obtain ⟨i, z, hi, hz, hs, hzs, hb, ht⟩ := info38
  intro w hw
  have h := Any8.slices_Grow_grow Try.growL i z hi hz (by omega) none 0 0 n [] w (Nat.le_refl _) (by omega) (by
    rw [Nat.zero_add]
    exact Nat.le_trans (Nat.mul_le_mul hn.2 hb) (by decide)) (by omega) (by simp) (fun _ => rfl) (fun a ha => by cases ha)
  have hge := grownCap_ge w (0 + n) 0 (Try.growL_ren.t 25)
  have hle := grownCap_le_maxLen w (0 + n) 0 (Try.growL_ren.t 25) (by unfold maxLen; omega)
  rw [ht] at h hge hle
  generalize grownCap w (0 + n) 0 38 = cap at *
  refine Calls.mono (show Calls Try.prog 116 _ _ _ from h) fun e w' ⟨he, hw'⟩ => ?_
  subst hw'
  have hcur := heap_alloc_new w.drew (.cells ((#[] : Array Value) ++ Builtin.zeroCells z.cells (0 + n - 0) ++ Builtin.zeroCells z.cells (cap - (0 + n))) 38)
  refine ⟨_, V, [.row (.slice (some ⟨w.heap.size, 0, none⟩) 0 cap) 38 3 0], he, ⟨_, _, rfl, rfl⟩, ⟨?_, ?_, ?_⟩, ?_, ?_, ?_⟩
  · exact fun b k v hv => by rw [cell_keep (alloc_old w.drew _ (sub_lt hw.sub hv))]; exact hw.sub b k v hv
  · intro j r hj
    cases j with
    | zero =>
      simp only [List.getElem?_cons_zero, Option.some.injEq] at hj
      subst hj
      refine .inr ⟨w.heap.size, cap, _, rfl, by omega, hcur, Nat.zero_le _, hle, ?_, fun o _ => newBlk_none hw.sub o⟩
      simp only [Array.size_append, size_zeroCells, hzs]
      simp only [List.size_toArray, List.length_nil]
      omega
    | succ j => simp at hj
  · intro a b r r' g hab ha hb _ _
    have e1 : a = 0 := by have := (List.getElem?_eq_some_iff.1 ha).1; simp only [List.length_cons, List.length_nil] at this; omega
    have e2 : b = 0 := by have := (List.getElem?_eq_some_iff.1 hb).1; simp only [List.length_cons, List.length_nil] at this; omega
    exact absurd (e1.trans e2.symm) hab
  · have hk : Kept (blksOf []) w w.drew := ⟨rfl, rfl, rfl, Nat.le_succ _, Nat.le_refl _, fun _ _ _ => rfl⟩
    exact hk.alloc _
  · exact ⟨View.le_refl _, fun _ _ _ h => .inl h⟩
  · rintro b ⟨r, hr, hb⟩
    right
    rw [List.mem_singleton.1 hr] at hb
    simp only [Res.blk, rowBlk] at hb
    split at hb
    · cases hb
    · simp only [Option.some.injEq] at hb; omega
end Go.Proofs.Ytenpginanhnkbaa
end

section
set_option linter.unusedSimpArgs false
set_option linter.unusedVariables false
namespace Go.Proofs.Ytenpginanhnkbaa
open Go.X
set_option maxRecDepth 100000

theorem concat_spec (r1 r2 : List Val) (b1 b2 : Option Addr) (c1 c2 p : Nat) (V : View) (hp : V.has p 0 [.slice b1 r1.length c1, .slice b2 r2.length c2]) (p1 : PlainR r1 b1) (p2 : PlainR r2 b2) (h1 : ValsAt V r1 b1) (h2 : ValsAt V r2 b2) (hn : r1 ≠ []) (hl1 : r1.length ≤ 1000) (hl2 : r2.length ≤ 1000) :
    PSpec 108 [.slice (some ⟨p, 0, none⟩) 2 2] V (fun v V' => RowAt V' (r1 ++ r2) v) := by
  have hpos : 0 < r1.length := List.length_pos_iff.2 hn
  refine does_of_zfun [] mixed (args := [.v _]) (ms := []) Try.func108 (by kernel_rfl) rfl ?_
  have w1 : IntKind.i64.wrap ((0 : Int) + (r1.length : Int)) = (r1.length : Int) := by rw [wrapE]; omega
  have w2 : IntKind.i64.wrap ((r1.length : Int) + (r2.length : Int)) = ((r1.length + r2.length : Nat) : Int) := by rw [wrapE]; omega
  have d1 : decide (IntKind.i64.wrap ((0 : Int) + (r1.length : Int)) < 0) = false := decide_eq_false (by rw [w1]; omega)
  have d2 : decide (IntKind.i64.wrap (IntKind.i64.wrap ((0 : Int) + (r1.length : Int)) + (r2.length : Int)) < 0) = false := decide_eq_false (by rw [w1, w2]; omega)
  conv => whnf
  repeat' first
    | (refine br_t rfl ?_; conv => whnf)
    | (refine br_f rfl ?_; conv => whnf)
    | (refine IdxN.lit rfl rfl ?_; conv => whnf)
    | (intro _; conv => whnf)
  refine unrollz 3 ?_
  conv => whnf
  repeat' first
    | (refine br_t rfl ?_; conv => whnf)
    | (refine br_f rfl ?_; conv => whnf)
    | (refine IdxN.lit rfl rfl ?_; conv => whnf)
    | (intro _; conv => whnf)
  refine LoadN.of (hp.mono (by repeat (first | exact View.le_refl _ | assumption | exact View.addU_le _ _ _ | refine View.le_trans ?_ (by assumption) | refine View.le_trans ?_ (View.addU_le _ _ _)))) 0 rfl rfl ?_
  conv => whnf
  refine br_f d1 ?_
  conv => whnf
  repeat' first
    | (refine br_t rfl ?_; conv => whnf)
    | (refine br_f rfl ?_; conv => whnf)
    | (refine IdxN.lit rfl rfl ?_; conv => whnf)
    | (intro _; conv => whnf)
  refine LoadN.of (hp.mono (by repeat (first | exact View.le_refl _ | assumption | exact View.addU_le _ _ _ | refine View.le_trans ?_ (by assumption) | refine View.le_trans ?_ (View.addU_le _ _ _)))) 1 rfl rfl ?_
  conv => whnf
  refine br_f d2 ?_
  conv => whnf
  repeat' first
    | (refine br_t rfl ?_; conv => whnf)
    | (refine br_f rfl ?_; conv => whnf)
    | (refine IdxN.lit rfl rfl ?_; conv => whnf)
    | (intro _; conv => whnf)
  refine CallN.new 24 rfl (grow_spec _ (r1.length + r2.length) (by rw [w1, w2]) ⟨by omega, by omega⟩ _) fun v V1 bs hV1 ⟨g, cap, hv, hb⟩ => ⟨_, .row 24, hb, by subst hv; rfl, ?_⟩
  subst hv
  conv => whnf
  repeat' first
    | (refine br_t rfl ?_; conv => whnf)
    | (refine br_f rfl ?_; conv => whnf)
    | (refine IdxN.lit rfl rfl ?_; conv => whnf)
    | (intro _; conv => whnf)
  refine unrollz 3 ?_
  conv => whnf
  repeat' first
    | (refine br_t rfl ?_; conv => whnf)
    | (refine br_f rfl ?_; conv => whnf)
    | (refine IdxN.lit rfl rfl ?_; conv => whnf)
    | (intro _; conv => whnf)
  refine LoadN.of (hp.mono (by repeat (first | exact View.le_refl _ | assumption | exact View.addU_le _ _ _ | refine View.le_trans ?_ (by assumption) | refine View.le_trans ?_ (View.addU_le _ _ _)))) 0 rfl rfl ?_
  conv => whnf
  refine AppN.toR r1.length (Nat.zero_add _) [] (r1.flatMap vcells) (fun i v hv => by simp at hv) rfl (row_news p1 (h1.mono (by repeat (first | exact View.le_refl _ | assumption | exact View.addU_le _ _ _ | refine View.le_trans ?_ (by assumption) | refine View.le_trans ?_ (View.addU_le _ _ _))))) (flat_len (f := vcells) (n := 3) (fun _ => rfl) _) (allOne_flat r1) (by omega) (by decide) fun base' cap' V2 hV2 hc2 _ => ?_
  conv => whnf
  repeat' first
    | (refine br_t rfl ?_; conv => whnf)
    | (refine br_f rfl ?_; conv => whnf)
    | (refine IdxN.lit rfl rfl ?_; conv => whnf)
    | (intro _; conv => whnf)
  refine LoadN.of (hp.mono (by repeat (first | exact View.le_refl _ | assumption | exact View.addU_le _ _ _ | refine View.le_trans ?_ (by assumption) | refine View.le_trans ?_ (View.addU_le _ _ _)))) 1 rfl rfl ?_
  conv => whnf
  refine AppN.toR (r1.length + r2.length) rfl (r1.flatMap vcells) (r2.flatMap vcells) hc2 (flat_len (f := vcells) (n := 3) (fun _ => rfl) _) (row_news p2 (h2.mono (by repeat (first | exact View.le_refl _ | assumption | exact View.addU_le _ _ _ | refine View.le_trans ?_ (by assumption) | refine View.le_trans ?_ (View.addU_le _ _ _))))) (flat_len (f := vcells) (n := 3) (fun _ => rfl) _) (allOne_flat r2) (by omega) (by decide) fun base3 cap3 V3 hV3 hc3 _ => ?_
  conv => whnf
  repeat' first
    | (refine br_t rfl ?_; conv => whnf)
    | (refine br_f rfl ?_; conv => whnf)
    | (refine IdxN.lit rfl rfl ?_; conv => whnf)
    | (intro _; conv => whnf)
  have hc4 : V3.cells (.slice base3 (r1 ++ r2).length cap3) ((r1 ++ r2).flatMap vcells) := by rw [List.length_append, List.flatMap_append]; exact hc3
  exact ret_pure ⟨base3, cap3, by rw [List.length_append]; rfl, (.inr (plain_cells hc4)), ValsAt.of_cells hc4 (by rw [List.length_append]; omega)⟩
end Go.Proofs.Ytenpginanhnkbaa
end
