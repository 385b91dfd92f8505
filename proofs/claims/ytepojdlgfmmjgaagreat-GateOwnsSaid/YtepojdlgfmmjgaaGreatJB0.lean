/- One part of a proof: an evaluator of the model, shown right, and contracts that it yields. No condition beyond those that each theorem names. -/
import Derived.Test.YtepojdlgfmmjgaaGreatJA
import Derived.Shelf.Spec.SlicesGrow
import Derived.Ground.Names8Prog
set_option linter.unusedSimpArgs false
set_option linter.unusedVariables false
set_option linter.unusedSectionVars false
set_option linter.deprecated false
section
namespace Go.Proofs.LB
open Go.X Go.Shelf
set_option maxRecDepth 100000
def RowOf (R : List Int → Prop) (v : Value) (V' : View) (bs : List Res) : Prop := ∃ r : Lab, v = r.slice ∧ (bs = [.row v 68 1 r.l.length] ∨ (bs = [] ∧ v = .slice none 0 0)) ∧ r.at V' ∧ R r.l
theorem lab_nil (b : Option Addr) (c : Nat) (V : View) : (Lab.mk b c []).at V := ⟨fun h => absurd rfl h, fun x h => by cases h⟩
theorem clone_spec (a : Lab) (V : View) (h : a.at V) (h8 : a.l.length ≤ 1000) : Does Tryz.prog 108 [a.slice] V [] (RowOf fun r => r = a.l) := by
 obtain ⟨base, cap, l⟩ := a
 show Does _ _ [.slice base l.length cap] V [] (RowOf fun r => r = l)
 replace h8 : l.length ≤ 1000 := h8
 have l1 := len_u16 l
 cases base with
 | none =>
  have hl : l = [] := Classical.byContradiction fun hn => by
   obtain ⟨p, off, hb, _⟩ := h.has hn
   cases hb
  subst hl
  refine does_of_zfun [] mixed (args := [.v _]) (ms := []) Tryz.func108 (by kernel_rfl) rfl ?_; conv => whnf
  repeat' ((first | refine br_t rfl ?_ | refine br_f rfl ?_ | refine IdxN.lit rfl rfl ?_ | intro _); conv => whnf)
  exact ⟨[], by simp, [], rfl, ⟨none, 0, []⟩, rfl, .inr ⟨rfl, rfl⟩, lab_nil _ _ _, rfl⟩
 | some p =>
  refine does_of_zfun [] mixed (args := [.v _]) (ms := []) Tryz.func108 (by kernel_rfl) rfl ?_; conv => whnf
  repeat' ((first | refine br_t rfl ?_ | refine br_f rfl ?_ | refine IdxN.lit rfl rfl ?_ | intro _); conv => whnf)
  rename_i b1 V1 hV1 hb1
  refine AppN.toR l.length (Nat.zero_add _) [] (u16s l) hb1 rfl (news_u16 h le_auto) l1 (one_u16 _) (by omega) (by decide) fun b5 c5 V5 hV5 hc5 hcap5 => ?_; conv => whnf
  repeat' ((first | refine br_t rfl ?_ | refine br_f rfl ?_ | refine IdxN.lit rfl rfl ?_ | intro _); conv => whnf)
  exact ⟨[7], by simp, [_], rfl, ⟨b5, c5, l⟩, rfl, .inl rfl, Lab.of_cells hc5 h.num, rfl⟩
theorem cloneL_spec (a : Lab) (V : View) (h : a.at V) (h8 : a.l.length ≤ 1000) : Does Tryz.prog 34 [a.slice] V [] (RowOf fun r => r = a.l) := by
 obtain ⟨base, cap, l⟩ := a
 show Does _ _ [.slice base l.length cap] V [] (RowOf fun r => r = l)
 replace h8 : l.length ≤ 1000 := h8
 have l1 := len_u16 l
 cases base with
 | none =>
  have hl : l = [] := Classical.byContradiction fun hn => by
   obtain ⟨p, off, hb, _⟩ := h.has hn
   cases hb
  subst hl
  refine does_of_zfun [] mixed (args := [.v _]) (ms := []) Tryz.func34 (by kernel_rfl) rfl ?_; conv => whnf
  repeat' ((first | refine br_t rfl ?_ | refine br_f rfl ?_ | refine IdxN.lit rfl rfl ?_ | intro _); conv => whnf)
  exact ⟨[], by simp, [], rfl, ⟨none, 0, []⟩, rfl, .inr ⟨rfl, rfl⟩, lab_nil _ _ _, rfl⟩
 | some p =>
  refine does_of_zfun [] mixed (args := [.v _]) (ms := []) Tryz.func34 (by kernel_rfl) rfl ?_; conv => whnf
  repeat' ((first | refine br_t rfl ?_ | refine br_f rfl ?_ | refine IdxN.lit rfl rfl ?_ | intro _); conv => whnf)
  rename_i b1 V1 hV1 hb1
  refine AppN.toR l.length (Nat.zero_add _) [] (u16s l) hb1 rfl (news_u16 h le_auto) l1 (one_u16 _) (by omega) (by decide) fun b5 c5 V5 hV5 hc5 hcap5 => ?_; conv => whnf
  repeat' ((first | refine br_t rfl ?_ | refine br_f rfl ?_ | refine IdxN.lit rfl rfl ?_ | intro _); conv => whnf)
  exact ⟨[7], by simp, [_], rfl, ⟨b5, c5, l⟩, rfl, .inl rfl, Lab.of_cells hc5 h.num, rfl⟩
def growU_ren : Go.Shelf.Ren := ⟨fun | 4 => 111 | n => n, fun | 22 => 23 | 25 => 68 | 3 => 3 | 4 => 4 | 9 => 9 | 20 => 20 | 0 => 0 | n => n, fun | n => n⟩
theorem growU : Go.Proofs.Lays8.n4 Tryz.prog growU_ren := {
 mixed := by kernel_rfl
 f4 := ⟨Tryz.f111.name, by decide, Tryz.func111.trans (congrArg some (by kernel_rfl))⟩
 t0 := Tryz.underlying0
 a0 := Tryz.isAgg0
 z0 := Tryz.sizeOf0
 v0 := Tryz.zeroValue0
 t3 := Tryz.underlying3
 a3 := Tryz.isAgg3
 z3 := Tryz.sizeOf3
 v3 := Tryz.zeroValue3
 t4 := Tryz.underlying4
 a4 := Tryz.isAgg4
 z4 := Tryz.sizeOf4
 v4 := Tryz.zeroValue4
 t9 := Tryz.underlying9
 a9 := Tryz.isAgg9
 z9 := Tryz.sizeOf9
 v9 := Tryz.zeroValue9
 t20 := Tryz.underlying20
 a20 := Tryz.isAgg20
 z20 := Tryz.sizeOf20
 v20 := Tryz.zeroValue20
 t22 := Tryz.underlying23
 a22 := Tryz.isAgg23
 z22 := Tryz.sizeOf23
 v22 := Tryz.zeroValue23 }
def infoU (o : Option TypeInfo) : Bool := match o with
 | some i => (match i.zero with | some z => Nat.beq i.size 1 && (Nat.beq z.cells.size 1 && Nat.ble i.bytes 1000) | none => false)
 | none => false
theorem infoG : ∃ i z, Tryz.prog.info? (growU_ren.t 25) = some i ∧ i.zero = some z ∧ i.size = 1 ∧ z.cells.size = 1 ∧ i.bytes ≤ 1000 ∧ growU_ren.t 25 = 68 := by
 have h : infoU (Tryz.prog.info? (growU_ren.t 25)) = true := by kernel_rfl
 have e : growU_ren.t 25 = 68 := by kernel_rfl
 unfold infoU at h
 split at h
 ·rename_i i hi
  split at h
  ·rename_i z hz
   simp only [Bool.and_eq_true] at h
   exact ⟨i, z, hi, hz, Nat.eq_of_beq_eq_true h.1, Nat.eq_of_beq_eq_true h.2.1, Nat.le_of_ble_eq_true h.2.2, e⟩
  ·cases h
 ·cases h
end Go.Proofs.LB
end
