/- One part of a proof: an evaluator of the model, shown right, and contracts that it yields. No condition beyond those that each theorem names. -/
import Derived.Test.YtnhllgedoimhkaaGreatDoorFB
import Derived.Test.YtnhllgedoimhkaaGreatDoorSF
set_option linter.unusedSimpArgs false
set_option linter.unusedVariables false
set_option linter.unusedSectionVars false
set_option linter.deprecated false
section
namespace Go.Proofs.LB
open Go.X Go.ChangeShapes Go.WideShapes Go.RowKit
set_option maxRecDepth 100000
section
variable {H : Type} {enc : TypeId × Value → H} {w : World}
theorem u8_of_ints : ∀ {l : List Int}, (∀ x ∈ l, 0 ≤ x ∧ x < 256) → l.map (Value.int .u8) = u8L (l.map fun x => UInt8.ofNat x.toNat)
 | [], _ => rfl
 | x :: l, h => by
  obtain ⟨h0, h1⟩ := h x List.mem_cons_self
  have e : ((UInt8.ofNat x.toNat).toNat : Int) = x := by rw [ofNat_toNat (by omega)]; omega
  show Value.int .u8 x :: _ = Value.int .u8 ((UInt8.ofNat x.toNat).toNat : Int) :: _
  rw [e, u8_of_ints fun y hy => h y (List.mem_cons_of_mem _ hy)]
  rfl
theorem open_bytes {r : Reach} {b0 : Nat} {v : Value} {d : DataW H} {ps : List MemPlace} (hval : Value.okWide Tryz.prog w r b0 37 v) (h : DataW.Trod enc Tryz.prog w 0 (fun _ => true) true 37 v d ps) :
  ∃ (b : Option Addr) (cap : Nat) (l : List UInt8), v = .slice b l.length cap ∧ (l.length = 0 ∨ (entryV w).cells (.slice b l.length cap) (u8L l)) ∧ l.length ≤ cap := by
 obtain ⟨a, n, cp, hv⟩ := okWide_slice Tryz.underlying37 hval
 obtain ⟨base, cap, l, hv2, hc, hwf, _⟩ := open_nums Tryz.underlying37 Tryz.underlying5 (by kernel_rfl) (fun c x hc hx => by
  subst hv
  rw [hx] at hc
  simpa [Value.cells] using hc) h
 have hnum : ∀ x ∈ l, 0 ≤ x ∧ x < 256 := fun x hx => by
  have h2 : (decide ((0 : Int) ≤ x) && decide (x ≤ 255)) = true := hwf x hx
  rw [Bool.and_eq_true, decide_eq_true_iff, decide_eq_true_iff] at h2
  omega
 have hle : l.length ≤ cap := by
  obtain ⟨fuel, h⟩ := h
  rw [hv2] at h
  rcases DataW.trod_slice Tryz.underlying37 h with ⟨h1, _⟩ | ⟨a, len, cap', _, _, _, _, h1, _, _, hlc, _⟩
  ·have h1 : [Value.slice base l.length cap] = [.slice none 0 0] := h1
   simp only [List.cons.injEq, Value.slice.injEq, and_true] at h1
   omega
  ·have h1 : [Value.slice base l.length cap] = [.slice (some a) len cap'] := h1
   simp only [List.cons.injEq, Value.slice.injEq, and_true] at h1
   omega
 refine ⟨base, cap, l.map fun x => UInt8.ofNat x.toNat, by rw [List.length_map]; exact hv2, ?_, by rw [List.length_map]; exact hle⟩
 by_cases hl : l = []
 ·subst hl; exact .inl rfl
 ·obtain ⟨p, off, hb, hh⟩ := hc hl
  subst hb
  right
  rw [← u8_of_ints hnum]
  exact hh
end
end Go.Proofs.LB
end
