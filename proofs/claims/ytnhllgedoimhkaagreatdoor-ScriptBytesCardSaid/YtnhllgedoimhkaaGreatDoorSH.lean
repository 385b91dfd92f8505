/- One part of a proof: an evaluator of the model, shown right, and contracts that it yields. No condition beyond those that each theorem names. -/
import Derived.Test.YtnhllgedoimhkaaGreatDoorFB
import Derived.Test.YtnhllgedoimhkaaGreatDoorSF
set_option linter.unusedSimpArgs false
set_option linter.unusedVariables false
set_option linter.unusedSectionVars false
set_option linter.deprecated false
section
namespace Go.Proofs.LB
open Go.X Go.ChangeShapes Go.WideShapes Go.RowKit
set_option maxRecDepth 100000
section
variable {H : Type} {enc : TypeId × Value → H} {w : World}
theorem cellsOf_s : Tryz.prog.cellsOf 56 = 3 := by kernel_rfl
theorem open_scells {fuel : Nat} {cs : List Value} {y : DataW H × List MemPlace} (h : DataW.trod enc Tryz.prog w 0 (fun _ => true) true fuel 56 cs = some y) : ∃ x : Val, cs = vcells x ∧ FitV x := by
 obtain ⟨xs, n, rfl, _, hl, hx, hf⟩ := DataW.trod_struct Tryz.underlying56 h
 rw [cellsOf_s] at hl
 have hx : xs.length = 3 := hx
 obtain ⟨c0, c1, c2, rfl⟩ : ∃ c0 c1 c2, cs = [c0, c1, c2] := by
  match cs, hl with
  | [a, b, c], _ => exact ⟨a, b, c, rfl⟩
 obtain ⟨y0, y1, y2, rfl⟩ : ∃ a b c, xs = [a, b, c] := by
  match xs, hx with
  | [a, b, c], _ => exact ⟨a, b, c, rfl⟩
 have h0 : DataW.trod enc Tryz.prog w 0 (fun _ => true) true n 3 (([c0, c1, c2].drop 0).take (Tryz.prog.cellsOf 3)) = some y0 := hf 0 _ rfl
 have h1 : DataW.trod enc Tryz.prog w 0 (fun _ => true) true n 3 (([c0, c1, c2].drop 1).take (Tryz.prog.cellsOf 3)) = some y1 := hf 1 _ rfl
 have h2 : DataW.trod enc Tryz.prog w 0 (fun _ => true) true n 9 (([c0, c1, c2].drop 2).take (Tryz.prog.cellsOf 9)) = some y2 := hf 2 _ rfl
 rw [cellsOf_3] at h0 h1
 rw [cellsOf_9] at h2
 obtain ⟨k, hk, _, wk⟩ := DataW.trod_int Tryz.underlying3 h0
 obtain ⟨m, hm, _, wm⟩ := DataW.trod_int Tryz.underlying3 h1
 obtain ⟨s, hs, _, ws⟩ := DataW.trod_string Tryz.underlying9 h2
 simp only [List.drop_zero, List.take_succ_cons, List.take_zero, List.drop_succ_cons, List.cons.injEq, and_true] at hk hm hs
 subst hk; subst hm; subst hs
 exact ⟨⟨k, m, s⟩, rfl, in_i64 wk, in_i64 wm, ws⟩
theorem open_slist {fuel : Nat} {cs : List Value} {y : DataW H × List MemPlace} (h : DataW.trod enc Tryz.prog w 0 (fun _ => true) true fuel 38 cs = some y) :
  ∃ (b : Option Addr) (cap : Nat) (l : List Val), cs = [.slice b l.length cap] ∧ ValsAt (entryV w) l b ∧ ∀ x ∈ l, FitV x := by
 rcases DataW.trod_slice Tryz.underlying38 h with ⟨h1, _⟩ | ⟨a, len, cap, elems, rest, n, _, h1, _, _, hlc, hcm, hel, heach, _, _⟩
 ·exact ⟨none, 0, [], h1, ⟨fun h => absurd rfl h, Nat.zero_le _⟩, fun x hx => by cases hx⟩
 ·obtain ⟨l, hl, hp⟩ := exists_list (P := fun i x => w.cells? 0 (a.add (i * 3)) 3 = some (vcells x) ∧ FitV x) len (fun i hi => by
   have he := heach i hi
   rw [cellsOf_s] at he
   obtain ⟨z, hz⟩ : ∃ z, elems[i]? = some z := ⟨_, List.getElem?_eq_getElem (by omega)⟩
   rw [hz, Option.bind_eq_some_iff] at he
   obtain ⟨cs', hc, ht⟩ := he
   obtain ⟨x, rfl, hx⟩ := open_scells ht
   exact ⟨x, hc, hx⟩)
  have hcell : ∀ (i : Nat) (x : Val), l[i]? = some x → ∀ (j : Nat) (v : Value), (vcells x)[j]? = some v → w.cell? ((a.add (i * 3)).add j) = some v := fun i x hx j v hj => by
   obtain ⟨_, hlen, hall⟩ := World.cells?_some (hp i x hx).1
   have := hall j (by have := (List.getElem?_eq_some_iff.1 hj).1; exact this)
   rw [this]; exact hj
  have hmax : maxLen = 9223372036854775807 := by decide
  have hlen : l.length ≤ 9223372036854775807 := by rw [hl]; omega
  refine ⟨some a, cap, l, by rw [hl]; exact h1, ⟨fun hne => ?_, hlen⟩, fun x hx => ?_⟩
  ·obtain ⟨x, l', rfl⟩ := List.exists_cons_of_ne_nil hne
   obtain ⟨b, o, ha⟩ := none_spot (hcell 0 x rfl 0 _ rfl)
   have ha : a = ⟨b, o, none⟩ := by simpa [Addr.add] using ha
   subst ha
   refine ⟨b, o, rfl, has_of_each fun i y hy j v hj => ?_⟩
   have := hcell i y hy j v hj
   rw [add_lit, add_lit] at this
   exact this
  ·obtain ⟨i, hi⟩ := List.mem_iff_getElem?.1 hx
   exact (hp i x hi).2
theorem open_steps {r : Reach} {b0 : Nat} {v : Value} {d : DataW H} {ps : List MemPlace} (hval : Value.okWide Tryz.prog w r b0 38 v) (h : DataW.Trod enc Tryz.prog w 0 (fun _ => true) true 38 v d ps) :
  ∃ (b : Option Addr) (cap : Nat) (l : List Val), v = .slice b l.length cap ∧ ValsAt (entryV w) l b := by
 obtain ⟨fuel, h⟩ := h
 obtain ⟨b, cap, l, h1, h2, h3⟩ := open_slist h
 refine ⟨b, cap, l, ?_, h2⟩
 obtain ⟨a, n, cp, rfl⟩ := okWide_slice Tryz.underlying38 hval
 simpa [Value.cells] using h1
theorem u8_of_ints : ∀ {l : List Int}, (∀ x ∈ l, 0 ≤ x ∧ x < 256) → l.map (Value.int .u8) = u8L (l.map fun x => UInt8.ofNat x.toNat)
 | [], _ => rfl
 | x :: l, h => by
  obtain ⟨h0, h1⟩ := h x List.mem_cons_self
  have e : ((UInt8.ofNat x.toNat).toNat : Int) = x := by rw [ofNat_toNat (by omega)]; omega
  show Value.int .u8 x :: _ = Value.int .u8 ((UInt8.ofNat x.toNat).toNat : Int) :: _
  rw [e, u8_of_ints fun y hy => h y (List.mem_cons_of_mem _ hy)]
  rfl
theorem open_bytes {r : Reach} {b0 : Nat} {v : Value} {d : DataW H} {ps : List MemPlace} (hval : Value.okWide Tryz.prog w r b0 37 v) (h : DataW.Trod enc Tryz.prog w 0 (fun _ => true) true 37 v d ps) :
  ∃ (b : Option Addr) (cap : Nat) (l : List UInt8), v = .slice b l.length cap ∧ (l.length = 0 ∨ (entryV w).cells (.slice b l.length cap) (u8L l)) ∧ l.length ≤ cap := by
 obtain ⟨a, n, cp, hv⟩ := okWide_slice Tryz.underlying37 hval
 obtain ⟨base, cap, l, hv2, hc, hwf, _⟩ := open_nums Tryz.underlying37 Tryz.underlying5 (by kernel_rfl) (fun c x hc hx => by
  subst hv
  rw [hx] at hc
  simpa [Value.cells] using hc) h
 have hnum : ∀ x ∈ l, 0 ≤ x ∧ x < 256 := fun x hx => by
  have h2 : (decide ((0 : Int) ≤ x) && decide (x ≤ 255)) = true := hwf x hx
  rw [Bool.and_eq_true, decide_eq_true_iff, decide_eq_true_iff] at h2
  omega
 have hle : l.length ≤ cap := by
  obtain ⟨fuel, h⟩ := h
  rw [hv2] at h
  rcases DataW.trod_slice Tryz.underlying37 h with ⟨h1, _⟩ | ⟨a, len, cap', _, _, _, _, h1, _, _, hlc, _⟩
  ·have h1 : [Value.slice base l.length cap] = [.slice none 0 0] := h1
   simp only [List.cons.injEq, Value.slice.injEq, and_true] at h1
   omega
  ·have h1 : [Value.slice base l.length cap] = [.slice (some a) len cap'] := h1
   simp only [List.cons.injEq, Value.slice.injEq, and_true] at h1
   omega
 refine ⟨base, cap, l.map fun x => UInt8.ofNat x.toNat, by rw [List.length_map]; exact hv2, ?_, by rw [List.length_map]; exact hle⟩
 by_cases hl : l = []
 ·subst hl; exact .inl rfl
 ·obtain ⟨p, off, hb, hh⟩ := hc hl
  subst hb
  right
  rw [← u8_of_ints hnum]
  exact hh
theorem open_bytesP {r : Reach} {b0 : Nat} {v : Value} {d : DataW H} {ps : List MemPlace} (hval : Value.okWide Tryz.prog w r b0 37 v) (h : DataW.Trod enc Tryz.prog w 0 (fun _ => true) true 37 v d ps) :
  ∃ (b : Option Addr) (cap : Nat) (l : List UInt8), v = .slice b l.length cap ∧ (entryV w).cells (.slice b l.length cap) (u8L l) ∧ l.length ≤ cap := by
 obtain ⟨b, cap, l, rfl, h1, h2⟩ := open_bytes hval h
 refine ⟨b, cap, l, rfl, ?_, h2⟩
 rcases h1 with h1 | h1
 ·have hl : l = [] := List.eq_nil_of_length_eq_zero h1
  subst hl
  simp only [Value.okWide, Tryz.underlying37, Cell.okWide] at hval
  cases b with
  | none => rfl
  | some a =>
   have hh : w.has Tryz.prog r b0 a 5 cap := by
    simp [Cell.ok, Tryz.underlying37] at hval
    exact hval.2
   obtain ⟨_, hs, _⟩ := hh
   obtain ⟨b, off, spot⟩ := a
   simp only at hs
   subst hs
   intro i v hi
   simp [u8L] at hi
 ·exact h1
end
end Go.Proofs.LB
end
