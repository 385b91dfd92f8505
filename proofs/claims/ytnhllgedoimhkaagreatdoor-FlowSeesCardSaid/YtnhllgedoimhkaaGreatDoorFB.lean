/- One part of a proof: an evaluator of the model, shown right, and contracts that it yields. No condition beyond those that each theorem names. -/
import Derived.Test.YtnhllgedoimhkaaGreatDoorFA
import Derived.Test.YtnhllgedoimhkaaGreatDoorXZ
import Derived.WalkKit
import Derived.OpenShut
set_option linter.unusedSimpArgs false
set_option linter.unusedVariables false
set_option linter.unusedSectionVars false
set_option linter.deprecated false
section
namespace Go.Proofs.LB
open Go.X Go.ChangeShapes Go.WideShapes Go.RowKit
set_option maxRecDepth 100000
section
variable {H : Type} {enc : TypeId × Value → H} {w : World}
structure FitV (x : Val) : Prop where
 k : InR x.k
 n : InR x.n
 t : x.t.size ≤ maxLen
theorem cellsOf_v : Tryz.prog.cellsOf 138 = 3 := by kernel_rfl
theorem cellsOf_3 : Tryz.prog.cellsOf 3 = 1 := by kernel_rfl
theorem cellsOf_2 : Tryz.prog.cellsOf 2 = 1 := by kernel_rfl
theorem cellsOf_9 : Tryz.prog.cellsOf 9 = 1 := by kernel_rfl
theorem open_vcells {fuel : Nat} {cs : List Value} {y : DataW H × List MemPlace} (h : DataW.trod enc Tryz.prog w 0 (fun _ => true) true fuel 138 cs = some y) : ∃ x : Val, cs = vcells x ∧ FitV x := by
 obtain ⟨xs, n, rfl, _, hl, hx, hf⟩ := DataW.trod_struct Tryz.underlying138 h
 rw [cellsOf_v] at hl
 have hx : xs.length = 3 := hx
 obtain ⟨c0, c1, c2, rfl⟩ : ∃ c0 c1 c2, cs = [c0, c1, c2] := by
  match cs, hl with
  | [a, b, c], _ => exact ⟨a, b, c, rfl⟩
 obtain ⟨y0, y1, y2, rfl⟩ : ∃ a b c, xs = [a, b, c] := by
  match xs, hx with
  | [a, b, c], _ => exact ⟨a, b, c, rfl⟩
 have h0 : DataW.trod enc Tryz.prog w 0 (fun _ => true) true n 3 (([c0, c1, c2].drop 0).take (Tryz.prog.cellsOf 3)) = some y0 := hf 0 _ rfl
 have h1 : DataW.trod enc Tryz.prog w 0 (fun _ => true) true n 2 (([c0, c1, c2].drop 1).take (Tryz.prog.cellsOf 2)) = some y1 := hf 1 _ rfl
 have h2 : DataW.trod enc Tryz.prog w 0 (fun _ => true) true n 9 (([c0, c1, c2].drop 2).take (Tryz.prog.cellsOf 9)) = some y2 := hf 2 _ rfl
 rw [cellsOf_3] at h0
 rw [cellsOf_2] at h1
 rw [cellsOf_9] at h2
 obtain ⟨k, hk, _, wk⟩ := DataW.trod_int Tryz.underlying3 h0
 obtain ⟨m, hm, _, wm⟩ := DataW.trod_int Tryz.underlying2 h1
 obtain ⟨s, hs, _, ws⟩ := DataW.trod_string Tryz.underlying9 h2
 simp only [List.drop_zero, List.take_succ_cons, List.take_zero, List.drop_succ_cons, List.cons.injEq, and_true] at hk hm hs
 subst hk; subst hm; subst hs
 exact ⟨⟨k, m, s⟩, rfl, in_i64 wk, in_i64 wm, ws⟩
theorem exists_list {α : Type} {P : Nat → α → Prop} : ∀ (n : Nat), (∀ i, i < n → ∃ x, P i x) → ∃ l : List α, l.length = n ∧ ∀ (i : Nat) (x : α), l[i]? = some x → P i x
 | 0, _ => ⟨[], rfl, fun i x h => by simp at h⟩
 | n + 1, h => by
  obtain ⟨l, hl, hp⟩ := exists_list n (fun i hi => h i (by omega))
  obtain ⟨x, hx⟩ := h n (by omega)
  refine ⟨l ++ [x], by simp [hl], fun i y hi => ?_⟩
  by_cases hin : i < n
  ·rw [List.getElem?_append_left (by omega)] at hi
   exact hp i y hi
  ·rw [List.getElem?_append_right (by omega)] at hi
   have : i - l.length = 0 := by
    cases hd : i - l.length with
    | zero => rfl
    | succ d => rw [hd] at hi; simp at hi
   rw [this] at hi
   simp only [List.getElem?_cons_zero, Option.some.injEq] at hi
   subst hi
   have : i = n := by omega
   rw [this]; exact hx
theorem has_of_each {V : View} {p off : Nat} {l : List Val} (h : ∀ (i : Nat) (x : Val), l[i]? = some x → V.has p (off + i * 3) (vcells x)) : V.has p off (l.flatMap vcells) := by
 intro j v hj
 have : ∀ (l : List Val) (off : Nat), (∀ (i : Nat) (x : Val), l[i]? = some x → V.has p (off + i * 3) (vcells x)) → V.has p off (l.flatMap vcells) := fun l => by
  induction l with
  | nil => intro off _ j v hj; simp at hj
  | cons x l ih =>
   intro off h j v hj
   rw [List.flatMap_cons] at hj
   by_cases hj3 : j < 3
   ·rw [List.getElem?_append_left (show j < (vcells x).length from hj3)] at hj
    have := h 0 x rfl j v hj
    simpa using this
   ·rw [List.getElem?_append_right (show (vcells x).length ≤ j from by show 3 ≤ j; omega)] at hj
    have := ih (off + 3) (fun i y hy => by
     have := h (i + 1) y (by simpa using hy)
     rw [show off + (i + 1) * 3 = off + 3 + i * 3 from by omega] at this
     exact this) (j - 3) v hj
    rw [show off + 3 + (j - 3) = off + j from by omega] at this
    exact this
 exact this l off h j v hj
theorem none_spot {a : Addr} {v : Value} (h : w.cell? a = some v) : ∃ b o, a = ⟨b, o, none⟩ := by
 obtain ⟨b, off, spot⟩ := a
 cases spot with
 | none => exact ⟨b, off, rfl⟩
 | some s =>
  simp only [World.cell?] at h
  split at h
  ·simp at h
  ·cases h
theorem open_vlist {fuel : Nat} {cs : List Value} {y : DataW H × List MemPlace} (h : DataW.trod enc Tryz.prog w 0 (fun _ => true) true fuel 101 cs = some y) :
  ∃ (b : Option Addr) (cap : Nat) (l : List Val), cs = [.slice b l.length cap] ∧ ValsAt (entryV w) l b ∧ ∀ x ∈ l, FitV x := by
 rcases DataW.trod_slice Tryz.underlying101 h with ⟨h1, _⟩ | ⟨a, len, cap, elems, rest, n, _, h1, _, _, hlc, hcm, hel, heach, _, _⟩
 ·exact ⟨none, 0, [], h1, ⟨fun h => absurd rfl h, Nat.zero_le _⟩, fun x hx => by cases hx⟩
 ·obtain ⟨l, hl, hp⟩ := exists_list (P := fun i x => w.cells? 0 (a.add (i * 3)) 3 = some (vcells x) ∧ FitV x) len (fun i hi => by
   have he := heach i hi
   rw [cellsOf_v] at he
   obtain ⟨z, hz⟩ : ∃ z, elems[i]? = some z := ⟨_, List.getElem?_eq_getElem (by omega)⟩
   rw [hz, Option.bind_eq_some_iff] at he
   obtain ⟨cs', hc, ht⟩ := he
   obtain ⟨x, rfl, hx⟩ := open_vcells ht
   exact ⟨x, hc, hx⟩)
  have hcell : ∀ (i : Nat) (x : Val), l[i]? = some x → ∀ (j : Nat) (v : Value), (vcells x)[j]? = some v → w.cell? ((a.add (i * 3)).add j) = some v := fun i x hx j v hj => by
   obtain ⟨_, hlen, hall⟩ := World.cells?_some (hp i x hx).1
   have := hall j (by have := (List.getElem?_eq_some_iff.1 hj).1; exact this)
   rw [this]; exact hj
  have hmax : maxLen = 9223372036854775807 := by decide
  have hlen : l.length ≤ 9223372036854775807 := by rw [hl]; omega
  refine ⟨some a, cap, l, by rw [hl]; exact h1, ⟨fun hne => ?_, hlen⟩, fun x hx => ?_⟩
  ·obtain ⟨x, l', rfl⟩ := List.exists_cons_of_ne_nil hne
   obtain ⟨b, o, ha⟩ := none_spot (hcell 0 x rfl 0 _ rfl)
   have ha : a = ⟨b, o, none⟩ := by simpa [Addr.add] using ha
   subst ha
   refine ⟨b, o, rfl, has_of_each fun i y hy j v hj => ?_⟩
   have := hcell i y hy j v hj
   rw [add_lit, add_lit] at this
   exact this
  ·obtain ⟨i, hi⟩ := List.mem_iff_getElem?.1 hx
   exact (hp i x hi).2
theorem cellsOf_r : Tryz.prog.cellsOf 101 = 1 := by kernel_rfl
theorem ValsAt.plain {V : View} {l : List Val} {b : Option Addr} (h : ValsAt V l b) : PlainR l b := by
 by_cases hl : l = []
 ·exact .inl hl
 ·obtain ⟨p, off, hb, _⟩ := h.has hl
  exact .inr (.inr ⟨p, off, hb⟩)
theorem open_rlist {fuel : Nat} {cs : List Value} {y : DataW H × List MemPlace} (h : DataW.trod enc Tryz.prog w 0 (fun _ => true) true fuel 28 cs = some y) :
  ∃ (b : Option Addr) (cap : Nat) (rows : List (List Val)), cs = [.slice b rows.length cap] ∧ RowsAt (entryV w) rows b ∧ ∀ r ∈ rows, ∀ x ∈ r, FitV x := by
 rcases DataW.trod_slice Tryz.underlying28 h with ⟨h1, _⟩ | ⟨a, len, cap, elems, rest, n, _, h1, _, _, hlc, hcm, hel, heach, _, _⟩
 ·exact ⟨none, 0, [], h1, ⟨⟨[], CellsAt.nil, fun h => absurd rfl h⟩, Nat.zero_le _⟩, fun x hx => by cases hx⟩
 ·obtain ⟨l, hl, hp⟩ := exists_list (P := fun i (x : List Val × Value) => w.cells? 0 (a.add i) 1 = some [x.2] ∧ RowAt (entryV w) x.1 x.2 ∧ ∀ y ∈ x.1, FitV y) len (fun i hi => by
   have he := heach i hi
   rw [cellsOf_r, Nat.mul_one] at he
   obtain ⟨z, hz⟩ : ∃ z, elems[i]? = some z := ⟨_, List.getElem?_eq_getElem (by omega)⟩
   rw [hz, Option.bind_eq_some_iff] at he
   obtain ⟨cs', hc, ht⟩ := he
   obtain ⟨b, cp, r, rfl, hva, hfit⟩ := open_vlist ht
   exact ⟨(r, .slice b r.length cp), hc, ⟨b, cp, rfl, hva.plain, hva⟩, hfit⟩)
  have hmax : maxLen = 9223372036854775807 := by decide
  have hcell : ∀ (i : Nat) (x : List Val × Value), l[i]? = some x → w.cell? (a.add i) = some x.2 := fun i x hx => by
   obtain ⟨_, hlen, hall⟩ := World.cells?_some (hp i x hx).1
   have := hall 0 (by decide)
   rw [show (a.add i).add 0 = a.add i by unfold Addr.add; simp] at this
   rw [this]; rfl
  refine ⟨some a, cap, l.map (·.1), by rw [List.length_map, hl]; exact h1, ⟨⟨l.map (·.2), ⟨by rw [List.length_map, List.length_map], fun i r c hr hc => ?_⟩, fun hne => ?_⟩, by rw [List.length_map, hl]; omega⟩, fun r hr => ?_⟩
  ·rw [List.getElem?_map] at hr hc
   cases hx : l[i]? with
   | none => rw [hx] at hr; cases hr
   | some x =>
    rw [hx] at hr hc
    simp only [Option.map_some, Option.some.injEq] at hr hc
    subst hr; subst hc
    exact (hp i x hx).2.1
  ·obtain ⟨x, l', rfl⟩ := List.exists_cons_of_ne_nil (show l ≠ [] from fun e => hne (by rw [e]; rfl))
   obtain ⟨b, o, ha⟩ := none_spot (hcell 0 x rfl)
   have ha : a = ⟨b, o, none⟩ := by simpa [Addr.add] using ha
   subst ha
   refine ⟨b, o, rfl, fun i v hi => ?_⟩
   rw [List.getElem?_map] at hi
   cases hx : (x :: l')[i]? with
   | none => rw [hx] at hi; cases hi
   | some y =>
    rw [hx] at hi
    simp only [Option.map_some, Option.some.injEq] at hi
    subst hi
    have := hcell i y hx
    rw [add_lit] at this
    exact this
  ·obtain ⟨x, hx, rfl⟩ := List.mem_map.1 hr
   obtain ⟨i, hi⟩ := List.mem_iff_getElem?.1 hx
   exact (hp i x hi).2.2
theorem cellsOf_lab : Tryz.prog.cellsOf 23 = 1 := by kernel_rfl
theorem cellsOf_err : Tryz.prog.cellsOf 27 = 1 := by kernel_rfl
theorem cellsOf_u64 : Tryz.prog.cellsOf 29 = 1 := by kernel_rfl
theorem cellsOf_rr : Tryz.prog.cellsOf 28 = 1 := by kernel_rfl
theorem cellsOf_rep : Tryz.prog.cellsOf 31 = 7 := by kernel_rfl
theorem open_labc {fuel : Nat} {cs : List Value} {y : DataW H × List MemPlace} (h : DataW.trod enc Tryz.prog w 0 (fun _ => true) true fuel 23 cs = some y) : ∃ a : Lab, cs = [a.slice] ∧ a.at (entryV w) := by
 have hs : ∃ b n c, cs = [.slice b n c] := by
  rcases DataW.trod_slice Tryz.underlying23 h with ⟨h1, _⟩ | ⟨a, len, cap, _, _, _, _, h1, _⟩
  ·exact ⟨_, _, _, h1⟩
  ·exact ⟨_, _, _, h1⟩
 obtain ⟨b, n, c, rfl⟩ := hs
 obtain ⟨base, cap, l, hv, hc, hwf, _⟩ := open_nums (v := .slice b n c) (d := y.1) (ps := y.2) Tryz.underlying23 Tryz.underlying50 (by kernel_rfl) (fun c' x hc hx => by
  rw [hx] at hc
  simpa [Value.cells] using hc) ⟨fuel, h⟩
 have hnum : ∀ x ∈ l, 0 ≤ x ∧ x < 65536 := fun x hx => by
  have h2 : (decide ((0 : Int) ≤ x) && decide (x ≤ 65535)) = true := hwf x hx
  rw [Bool.and_eq_true, decide_eq_true_iff, decide_eq_true_iff] at h2
  omega
 rw [hv]
 exact ⟨⟨base, cap, l⟩, rfl, hc, hnum⟩
theorem open_labv {r : Reach} {b0 : Nat} {v : Value} {d : DataW H} {ps : List MemPlace} (hval : Value.okWide Tryz.prog w r b0 23 v) (h : DataW.Trod enc Tryz.prog w 0 (fun _ => true) true 23 v d ps) :
  ∃ a : Lab, v = a.slice ∧ a.at (entryV w) := by
 obtain ⟨fuel, h⟩ := h
 obtain ⟨a, h1, h2⟩ := open_labc h
 refine ⟨a, ?_, h2⟩
 obtain ⟨b, n, cp, rfl⟩ := okWide_slice Tryz.underlying23 hval
 simpa [Value.cells] using h1
theorem open_repc {fuel : Nat} {cs : List Value} {y : DataW H × List MemPlace} (h : DataW.trod enc Tryz.prog w 0 (fun _ => true) true fuel 31 cs = some y) : ∃ x : Rp, cs = x.cells ∧ x.ok (entryV w) := by
 obtain ⟨xs, n, rfl, _, hl, hx, hf⟩ := DataW.trod_struct Tryz.underlying31 h
 rw [cellsOf_rep] at hl
 have hx : xs.length = 7 := hx
 obtain ⟨c0, c1, c2, c3, c4, c5, c6, rfl⟩ : ∃ c0 c1 c2 c3 c4 c5 c6, cs = [c0, c1, c2, c3, c4, c5, c6] := by
  match cs, hl with
  | [a, b, c, d, e, f, g], _ => exact ⟨a, b, c, d, e, f, g, rfl⟩
 obtain ⟨y0, y1, y2, y3, y4, y5, y6, rfl⟩ : ∃ a b c d e f g, xs = [a, b, c, d, e, f, g] := by
  match xs, hx with
  | [a, b, c, d, e, f, g], _ => exact ⟨a, b, c, d, e, f, g, rfl⟩
 have h0 : DataW.trod enc Tryz.prog w 0 (fun _ => true) true n 3 (([c0, c1, c2, c3, c4, c5, c6].drop 0).take (Tryz.prog.cellsOf 3)) = some y0 := hf 0 _ rfl
 have h1 : DataW.trod enc Tryz.prog w 0 (fun _ => true) true n 23 (([c0, c1, c2, c3, c4, c5, c6].drop 1).take (Tryz.prog.cellsOf 23)) = some y1 := hf 1 _ rfl
 have h2 : DataW.trod enc Tryz.prog w 0 (fun _ => true) true n 27 (([c0, c1, c2, c3, c4, c5, c6].drop 2).take (Tryz.prog.cellsOf 27)) = some y2 := hf 2 _ rfl
 have h3 : DataW.trod enc Tryz.prog w 0 (fun _ => true) true n 3 (([c0, c1, c2, c3, c4, c5, c6].drop 3).take (Tryz.prog.cellsOf 3)) = some y3 := hf 3 _ rfl
 have h4 : DataW.trod enc Tryz.prog w 0 (fun _ => true) true n 28 (([c0, c1, c2, c3, c4, c5, c6].drop 4).take (Tryz.prog.cellsOf 28)) = some y4 := hf 4 _ rfl
 have h5 : DataW.trod enc Tryz.prog w 0 (fun _ => true) true n 3 (([c0, c1, c2, c3, c4, c5, c6].drop 5).take (Tryz.prog.cellsOf 3)) = some y5 := hf 5 _ rfl
 have h6 : DataW.trod enc Tryz.prog w 0 (fun _ => true) true n 29 (([c0, c1, c2, c3, c4, c5, c6].drop 6).take (Tryz.prog.cellsOf 29)) = some y6 := hf 6 _ rfl
 rw [cellsOf_3] at h0 h3 h5
 rw [cellsOf_lab] at h1
 rw [cellsOf_err] at h2
 rw [cellsOf_rr] at h4
 rw [cellsOf_u64] at h6
 obtain ⟨k0, e0, _⟩ := DataW.trod_int Tryz.underlying3 h0
 obtain ⟨k2, e2, _⟩ := DataW.trod_int Tryz.underlying27 h2
 obtain ⟨k3, e3, _⟩ := DataW.trod_int Tryz.underlying3 h3
 obtain ⟨k5, e5, _⟩ := DataW.trod_int Tryz.underlying3 h5
 obtain ⟨k6, e6, _⟩ := DataW.trod_int Tryz.underlying29 h6
 obtain ⟨a, e1, ha⟩ := open_labc h1
 obtain ⟨b, cap, rows, e4, hr, _⟩ := open_rlist h4
 simp only [List.drop_zero, List.take_succ_cons, List.take_zero, List.drop_succ_cons, List.cons.injEq, and_true] at e0 e1 e2 e3 e4 e5 e6
 subst e0; subst e1; subst e2; subst e3; subst e4; subst e5; subst e6
 exact ⟨⟨k0, a, k2, k3, b, cap, rows, k5, k6⟩, rfl, ha, hr⟩
theorem reps_each {V : View} {p off : Nat} {l : List Rp} (h : ∀ (i : Nat) (x : Rp), l[i]? = some x → V.has p (off + i * 7) x.cells) : V.has p off (l.flatMap Rp.cells) := by
 have : ∀ (l : List Rp) (off : Nat), (∀ (i : Nat) (x : Rp), l[i]? = some x → V.has p (off + i * 7) x.cells) → V.has p off (l.flatMap Rp.cells) := fun l => by
  induction l with
  | nil => intro off _ j v hj; simp at hj
  | cons x l ih =>
   intro off h j v hj
   rw [List.flatMap_cons] at hj
   by_cases hj3 : j < 7
   ·rw [List.getElem?_append_left (show j < x.cells.length from hj3)] at hj
    have := h 0 x rfl j v hj
    simpa using this
   ·rw [List.getElem?_append_right (show x.cells.length ≤ j from by show 7 ≤ j; omega)] at hj
    have := ih (off + 7) (fun i y hy => by
     have := h (i + 1) y (by simpa using hy)
     rw [show off + (i + 1) * 7 = off + 7 + i * 7 from by omega] at this
     exact this) (j - 7) v hj
    rw [show off + 7 + (j - 7) = off + j from by omega] at this
    exact this
 exact this l off h
theorem open_replist {fuel : Nat} {cs : List Value} {y : DataW H × List MemPlace} (h : DataW.trod enc Tryz.prog w 0 (fun _ => true) true fuel 24 cs = some y) :
  ∃ (b : Option Addr) (cap : Nat) (l : List Rp), cs = [.slice b l.length cap] ∧ RpsAt (entryV w) l b := by
 rcases DataW.trod_slice Tryz.underlying24 h with ⟨h1, _⟩ | ⟨a, len, cap, elems, rest, n, _, h1, _, _, hlc, hcm, hel, heach, _, _⟩
 ·exact ⟨none, 0, [], h1, ⟨fun h => absurd rfl h, Nat.zero_le _, fun x hx => by cases hx⟩⟩
 ·obtain ⟨l, hl, hp⟩ := exists_list (P := fun i (x : Rp) => w.cells? 0 (a.add (i * 7)) 7 = some x.cells ∧ x.ok (entryV w)) len (fun i hi => by
   have he := heach i hi
   rw [cellsOf_rep] at he
   obtain ⟨z, hz⟩ : ∃ z, elems[i]? = some z := ⟨_, List.getElem?_eq_getElem (by omega)⟩
   rw [hz, Option.bind_eq_some_iff] at he
   obtain ⟨cs', hc, ht⟩ := he
   obtain ⟨x, rfl, hx⟩ := open_repc ht
   exact ⟨x, hc, hx⟩)
  have hcell : ∀ (i : Nat) (x : Rp), l[i]? = some x → ∀ (j : Nat) (v : Value), x.cells[j]? = some v → w.cell? ((a.add (i * 7)).add j) = some v := fun i x hx j v hj => by
   obtain ⟨_, hlen, hall⟩ := World.cells?_some (hp i x hx).1
   have := hall j (by have := (List.getElem?_eq_some_iff.1 hj).1; exact this)
   rw [this]; exact hj
  have hmax : maxLen = 9223372036854775807 := by decide
  have hlen : l.length ≤ 9223372036854775807 := by rw [hl]; omega
  refine ⟨some a, cap, l, by rw [hl]; exact h1, ⟨fun hne => ?_, hlen, fun x hx => ?_⟩⟩
  ·obtain ⟨x, l', rfl⟩ := List.exists_cons_of_ne_nil hne
   obtain ⟨b, o, ha⟩ := none_spot (hcell 0 x rfl 0 _ rfl)
   have ha : a = ⟨b, o, none⟩ := by simpa [Addr.add] using ha
   subst ha
   refine ⟨b, o, rfl, reps_each fun i y hy j v hj => ?_⟩
   have := hcell i y hy j v hj
   rw [add_lit, add_lit] at this
   exact this
  ·obtain ⟨i, hi⟩ := List.mem_iff_getElem?.1 hx
   exact (hp i x hi).2
theorem open_reps {r : Reach} {b0 : Nat} {v : Value} {d : DataW H} {ps : List MemPlace} (hval : Value.okWide Tryz.prog w r b0 24 v) (h : DataW.Trod enc Tryz.prog w 0 (fun _ => true) true 24 v d ps) :
  ∃ (b : Option Addr) (cap : Nat) (l : List Rp), v = .slice b l.length cap ∧ RpsAt (entryV w) l b := by
 obtain ⟨fuel, h⟩ := h
 obtain ⟨b, cap, l, h1, h2⟩ := open_replist h
 refine ⟨b, cap, l, ?_, h2⟩
 obtain ⟨a, n, cp, rfl⟩ := okWide_slice Tryz.underlying24 hval
 simpa [Value.cells] using h1
end
end Go.Proofs.LB
end
