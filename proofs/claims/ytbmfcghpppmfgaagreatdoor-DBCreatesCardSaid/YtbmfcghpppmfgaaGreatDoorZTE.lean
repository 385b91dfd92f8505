/- One part of a proof: an evaluator of the model, shown right, and contracts that it yields. No condition beyond those that each theorem names. -/
import Derived.Test.YtbmfcghpppmfgaaGreatDoorZTD
import Derived.Test.YtbmfcghpppmfgaaGreatDoorZKA
section
set_option linter.unusedSimpArgs false
set_option linter.unusedVariables false
set_option linter.unusedSectionVars false
set_option linter.deprecated false
namespace Go.Z
open Go.X Go.RowKit Go.Proofs Go.Proofs.LB
set_option linter.unusedVariables false
set_option linter.unusedSectionVars false
noncomputable section
def Kof2 (k0 k1 : Int) (i : Nat) : Int := if i = 784 then k0 else if i = 785 then k1 else (i % 16 : Nat)
def sigOf2 (a : List Int) (k0 k1 : Int) (i j : Nat) : Value := sval (Tof a [] i) (Kof2 k0 k1 i) j
theorem sigOf2_ok {a : List Int} {k0 k1 : Int} (ha : Tags a) (h0 : -9223372036854775808 ≤ k0 ∧ k0 < 9223372036854775808) (h1 : -9223372036854775808 ≤ k1 ∧ k1 < 9223372036854775808) : SigOk (sigOf2 a k0 k1) := ⟨Tof a [], Kof2 k0 k1, fun i => by
  unfold Tof
  split
  ·exact tagAt_lt ha _
  ·split
   ·exact tagAt_lt tags_nil _
   ·omega, fun i => by
  unfold Kof2
  split
  ·exact h0
  ·split
   ·exact h1
   ·omega, fun _ _ => rfl, fun i j h1 h2 h3 => by
  have hla := ha.len
  constructor
  ·unfold Tof
   rw [← h1]
   split
   ·exact tagAt_rise ha h2 (by omega)
   ·split
    ·exact tagAt_rise tags_nil h2 (by simp at *; omega)
    ·exact h2
  ·unfold Kof2
   rw [if_neg (by omega), if_neg (by omega), if_neg (by omega), if_neg (by omega)]
   omega, fun i h h2 => by
  have e1 : Kof2 k0 k1 i = ((i % 16 : Nat) : Int) := by unfold Kof2; rw [if_neg (by omega), if_neg (by omega)]
  have e2 : Kof2 k0 k1 (mate i) = ((mate i % 16 : Nat) : Int) := by
   unfold Kof2
   rw [if_neg, if_neg]
   ·unfold mate
    split <;> omega
   ·unfold mate
    split <;> omega
  rw [e1, e2]
  unfold mate xor1
  split <;> split <;> omega⟩
theorem repA2 {a : List Int} {k0 k1 : Int} (ha : Tags a) : RepTs (sigOf2 a k0 k1) (symL (16 + a.length) a.length 0) a := by
 refine symL_reps a 0 fun j x hj => ?_
 have hlt := (List.getElem?_eq_some_iff.1 hj).1
 have hla := ha.len
 refine ⟨?_, ha.num x (List.mem_of_getElem? hj)⟩
 show sval (Tof a [] _) _ 0 = _
 have : Tof a [] ((16 + a.length) * 16 + (0 + j)) = tagAt a j := by
  unfold Tof
  rw [if_pos (by omega)]
  congr 1
  omega
 rw [this]
 show Value.int .u16 (tagAt a j : Nat) = _
 rw [tagAt_eq ha hj]
section
variable {E : Env} {σ : Nat → Nat → Value} [SigOk σ]
/-- one value in other words -/
theorem Goes.swap {fn : Func} {v : Value} {c : Code} {e1 e2 : List (Nat × Value)} {h : Heap} {nx k : Nat} {x y : Value} (hxy : ∀ (ρ : Ren) (u : Value), Rep σ ρ x u → Rep σ ρ y u) (hin : ∀ p ∈ e2, p ∈ e1 ∨ p = (k, y)) (hu : ∀ p ∈ e1, (initT e1 .nil).get p.1 = some p.2) (hk : (k, x) ∈ e1)
  (hG : Goes E σ fn v c ⟨initT e2 .nil, h, nx⟩) : Goes E σ fn v c ⟨initT e1 .nil, h, nx⟩ := by
 intro w0 ρ0 nx0 ρ a w K
 refine hG w0 ρ0 nx0 ρ a w ⟨K.defers, K.size, fun i z hz => ?_, K.fresh, K.wi, K.le0, K.new0, K.nx0⟩
 rcases initT_get hz with hm | hm
 ·rcases hin _ hm with hm | hm
  ·exact K.env i z (hu _ hm)
  ·cases hm
   exact hxy _ _ (K.env k x (hu _ hk))
 ·rw [Tr.get_nil] at hm; cases hm
end
end
end Go.Z
end
