/- One part of a proof: an evaluator of the model, shown right, and contracts that it yields. No condition beyond those that each theorem names. -/
import Derived.Test.YtenpginanhnkbaaCS
section
set_option linter.unusedSimpArgs false
set_option linter.unusedVariables false
namespace Go.Proofs.Ytenpginanhnkbaa
open Go.X Go.ChangeShapes Go.WideShapes Go.RowKit
set_option maxRecDepth 100000

/-! ## rows, as an argument -/
section
variable {H : Type} {enc : TypeId × Value → H} {w : World} {base : Nat} {sp : Nat → Bool} {held : Bool}
theorem cellsOf_r : Try.prog.cellsOf 45 = 1 := by kernel_rfl
theorem ValsAt.plain {V : View} {l : List Val} {b : Option Addr} (h : ValsAt V l b) : PlainR l b := by
  by_cases hl : l = []
  · exact .inl hl
  · obtain ⟨p, off, hb, _⟩ := h.has hl
    exact .inr (.inr ⟨p, off, hb⟩)
theorem open_rlist {fuel : Nat} {cs : List Value} {y : DataW H × List MemPlace} (h : DataW.trod enc Try.prog w 0 sp held fuel 63 cs = some y) :
    ∃ (b : Option Addr) (cap : Nat) (rows : List (List Val)), cs = [.slice b rows.length cap] ∧ RowsAt (entryV w) rows b ∧ ∀ r ∈ rows, ∀ x ∈ r, FitV x := by
  rcases DataW.trod_slice Try.underlying63 h with ⟨h1, _⟩ | ⟨a, len, cap, elems, rest, n, _, h1, _, _, hlc, hcm, hel, heach, _, _⟩
  · exact ⟨none, 0, [], h1, ⟨⟨[], CellsAt.nil, fun h => absurd rfl h⟩, Nat.zero_le _⟩, fun x hx => by cases hx⟩
  · obtain ⟨l, hl, hp⟩ := exists_list (P := fun i (x : List Val × Value) => w.cells? 0 (a.add i) 1 = some [x.2] ∧ RowAt (entryV w) x.1 x.2 ∧ ∀ y ∈ x.1, FitV y) len (fun i hi => by
      have he := heach i hi
      rw [cellsOf_r, Nat.mul_one] at he
      obtain ⟨z, hz⟩ : ∃ z, elems[i]? = some z := ⟨_, List.getElem?_eq_getElem (by omega)⟩
      rw [hz, Option.bind_eq_some_iff] at he
      obtain ⟨cs', hc, ht⟩ := he
      obtain ⟨b, cp, r, rfl, hva, hfit⟩ := open_vlist ht
      exact ⟨(r, .slice b r.length cp), hc, ⟨b, cp, rfl, hva.plain, hva⟩, hfit⟩)
    have hmax : maxLen = 9223372036854775807 := by decide
    have hcell : ∀ (i : Nat) (x : List Val × Value), l[i]? = some x → w.cell? (a.add i) = some x.2 := fun i x hx => by
      obtain ⟨_, hlen, hall⟩ := World.cells?_some (hp i x hx).1
      have := hall 0 (by decide)
      rw [show (a.add i).add 0 = a.add i by unfold Addr.add; simp] at this
      rw [this]; rfl
    refine ⟨some a, cap, l.map (·.1), by rw [List.length_map, hl]; exact h1, ⟨⟨l.map (·.2), ⟨by rw [List.length_map, List.length_map], fun i r c hr hc => ?_⟩, fun hne => ?_⟩, by rw [List.length_map, hl]; omega⟩, fun r hr => ?_⟩
    · rw [List.getElem?_map] at hr hc
      cases hx : l[i]? with
      | none => rw [hx] at hr; cases hr
      | some x =>
        rw [hx] at hr hc
        simp only [Option.map_some, Option.some.injEq] at hr hc
        subst hr; subst hc
        exact (hp i x hx).2.1
    · obtain ⟨x, l', rfl⟩ := List.exists_cons_of_ne_nil (show l ≠ [] from fun e => hne (by rw [e]; rfl))
      obtain ⟨b, o, ha⟩ := none_spot (hcell 0 x rfl)
      have ha : a = ⟨b, o, none⟩ := by simpa [Addr.add] using ha
      subst ha
      refine ⟨b, o, rfl, fun i v hi => ?_⟩
      rw [List.getElem?_map] at hi
      cases hx : (x :: l')[i]? with
      | none => rw [hx] at hi; cases hi
      | some y =>
        rw [hx] at hi
        simp only [Option.map_some, Option.some.injEq] at hi
        subst hi
        have := hcell i y hx
        rw [add_lit] at this
        exact this
    · obtain ⟨x, hx, rfl⟩ := List.mem_map.1 hr
      obtain ⟨i, hi⟩ := List.mem_iff_getElem?.1 hx
      exact (hp i x hi).2.2
theorem open_rows {r : Reach} {b0 : Nat} {v : Value} {d : DataW H} {ps : List MemPlace} (hval : Value.okWide Try.prog w r b0 63 v) (h : DataW.Trod enc Try.prog w 0 (fun _ => true) true 63 v d ps) :
    ∃ (b : Option Addr) (cap : Nat) (rows : List (List Val)), v = .slice b rows.length cap ∧ RowsAt (entryV w) rows b ∧ ∀ r ∈ rows, ∀ x ∈ r, FitV x := by
  obtain ⟨fuel, h⟩ := h
  obtain ⟨b, cap, l, h1, h2, h3⟩ := open_rlist h
  refine ⟨b, cap, l, ?_, h2, h3⟩
  obtain ⟨a, n, cp, rfl⟩ := okWide_slice Try.underlying63 hval
  simpa [Value.cells] using h1
end
end Go.Proofs.Ytenpginanhnkbaa
end

section
set_option linter.unusedSimpArgs false
set_option linter.unusedVariables false
namespace Go.Proofs.Ytenpginanhnkbaa
open Go.X
set_option maxRecDepth 100000

theorem max_run (a b : Int) (t : Array TypeId) (u : TypeId) (w : World) : (Builtin.max_ t u #[.int .i64 a, .int .i64 b]).run Try.prog w = .ok (.int .i64 (if a < b then b else a)) w := by
  simp [Builtin.max_, Builtin.max2]
/-- of one sort: numbers without a text, or texts without a number -/
def Tidy (x : Val) : Prop := (x.k = 1 → x.t.toList = []) ∧ (x.k ≠ 1 → x.n = 0)
theorem May.tidy {x : Val} (h : May x) : Tidy x := by
  rcases h with ⟨h1, h2⟩ | ⟨h1, h2⟩
  · exact ⟨fun _ => h2, fun h => absurd h1 h⟩
  · exact ⟨fun h => by omega, fun _ => h2⟩
theorem tidy_cmp {x y : Val} (hx : Tidy x) (hy : Tidy y) : cmpR x y = cmpV x y := by
  unfold cmpR cmpV
  by_cases h1 : x.k < y.k
  · rw [if_pos h1]
    have : cmpI x.k y.k = -1 := by unfold cmpI; rw [if_pos h1]
    rw [this]; rfl
  · rw [if_neg h1]
    by_cases h2 : y.k < x.k
    · rw [if_pos h2]
      have : cmpI x.k y.k = 1 := by unfold cmpI; rw [if_neg h1, if_pos h2]
      rw [this]; rfl
    · rw [if_neg h2]
      have hk : x.k = y.k := by omega
      have : cmpI x.k y.k = 0 := by rw [hk, cmpI_self]
      rw [this, zero_orI]
      by_cases h3 : x.k = 1
      · rw [if_pos h3, cmpS_empty (hx.1 h3) (hy.1 (hk ▸ h3)), orI_zero]
      · rw [if_neg h3, hx.2 h3, hy.2 (hk ▸ h3), cmpI_self, zero_orI]
theorem key_tidy {k : Nat} {r : List Val} (h : ∀ x ∈ r, May x) : Tidy (keyX k r) := by
  unfold keyX
  split
  · rename_i v hv
    exact (h v (List.mem_of_getElem? hv)).tidy
  · exact ⟨fun h => (by cases h), fun _ => rfl⟩
theorem fit_size {v : Val} (h : FitV v) : (v.t.size : Int) ≤ 9223372036854775807 := by
  have h := h.t
  have e : maxLen = 9223372036854775807 := by decide
  omega
theorem sorts_all (rows : List (List Val)) (rb : Option Addr) (rc : Nat) (k : Int) (d : Bool) (V : View) (hr : RowsAt V rows rb) (hf : ∀ r ∈ rows, ∀ x ∈ r, FitV x) (hk : InR k) :
    PSpec 8 [.slice rb rows.length rc, .int .i64 k, .bool d] V (fun v _ => v = .bool true) := by
  refine does_of_zfun [] mixed (args := [.v _, .v _, .v _]) (ms := []) Try.func8 (by kernel_rfl) rfl ?_
  conv => whnf
  refine CallN.pure (begun12_spec _) fun v V1 _ hV1 hv => ?_
  subst hv
  conv => whnf
  repeat' first
    | (refine br_t rfl ?_; conv => whnf)
    | (refine br_f rfl ?_; conv => whnf)
    | (refine IdxN.lit rfl rfl ?_; conv => whnf)
    | (intro _; conv => whnf)
  apply br <;> intro g1 <;> conv => whnf
  · exact ret_pure rfl
  have g1 : rows.length ≤ 20 := by have := of_decide_eq_false g1; omega
  refine loopz (σ := Nat × Int) (fun x => [(0, .v (.slice rb rows.length rc)), (1, .v (.int .i64 k)), (2, .v (.bool d)), (7, .v (.int .i64 x.2)), (8, .v (.int .i64 x.1))]) (fun _ => [])
    (fun j x V' => V1.le V' ∧ x.1 ≤ rows.length ∧ rows.length - x.1 = j ∧ x.2 ≤ 8 ∧ ∀ r ∈ rows.take x.1, r.length ≤ 8 ∧ ∀ x ∈ r, May x) rows.length (0, -1) ?_ ?_ ?_ ?_
  · repeat' (first | exact sees_nil | refine sees_cons rfl rfl rfl ?_)
  · exact keeps_nil
  · exact ⟨View.le_refl _, Nat.zero_le _, rfl, by show (-1 : Int) ≤ 8; decide, fun r hr => by simp at hr⟩
  rintro j ⟨i, n⟩ V' ⟨hV, hi, hj, hn8, hm⟩
  simp only at hi hj hn8 hm
  conv => whnf
  apply br <;> intro g2 <;> conv => whnf
  · have hi1 : i < rows.length := by have := of_decide_eq_true g2; omega
    obtain ⟨r, hr1⟩ : ∃ r, rows[i]? = some r := ⟨_, List.getElem?_eq_getElem hi1⟩
    obtain ⟨p, off, cv, rfl, hcell, hrow⟩ := hr.at hr1
    obtain ⟨rbase, rcap, hrv, hrp, hrva⟩ := hrow
    subst hrv
    refine IdxN.of (by omega) (by omega) ?_
    conv => whnf
    refine LoadN.of (hcell.mono (by repeat (first | exact View.le_refl _ | assumption | exact View.addU_le _ _ _ | refine View.le_trans ?_ (by assumption) | refine View.le_trans ?_ (View.addU_le _ _ _)))) 0 (by show off + i * 1 = off + i + 0; omega) rfl ?_
    conv => whnf
    apply br <;> intro g3 <;> conv => whnf
    · exact ret_pure rfl
    have g3 : r.length ≤ 8 := by have := of_decide_eq_false g3; omega
    refine IdxN.of (by omega) (by omega) ?_
    conv => whnf
    refine LoadN.of (hcell.mono (by repeat (first | exact View.le_refl _ | assumption | exact View.addU_le _ _ _ | refine View.le_trans ?_ (by assumption) | refine View.le_trans ?_ (View.addU_le _ _ _)))) 0 (by show off + i * 1 = off + i + 0; omega) rfl ?_
    conv => whnf
    refine ⟨⟨_, fun w => max_run _ _ _ _ w, ?_⟩⟩
    conv => whnf
    have hn8' : (if n < (r.length : Int) then (r.length : Int) else n) ≤ 8 := by split <;> omega
    generalize (if n < (r.length : Int) then (r.length : Int) else n) = n' at *
    repeat' first
      | (refine br_t rfl ?_; conv => whnf)
      | (refine br_f rfl ?_; conv => whnf)
      | (refine IdxN.lit rfl rfl ?_; conv => whnf)
      | (intro _; conv => whnf)
    refine loopz (σ := Nat) (fun k2 => [(0, .v (.slice (some ⟨p, off, none⟩) rows.length rc)), (1, .v (.int .i64 k)), (2, .v (.bool d)), (7, .v (.int .i64 n')), (8, .v (.int .i64 i)), (9, .v (.int .i64 k2))]) (fun _ => [])
      (fun j k2 V2 => V'.le V2 ∧ k2 ≤ r.length ∧ r.length - k2 = j ∧ ∀ x ∈ r.take k2, May x) r.length 0 ?_ ?_ ?_ ?_
    · repeat' (first | exact sees_nil | refine sees_cons rfl rfl rfl ?_)
    · exact keeps_nil
    · exact ⟨View.le_refl _, Nat.zero_le _, rfl, fun r hr => by simp at hr⟩
    rintro j2 k2 V2 ⟨hV2, hk2, hj2, hm2⟩
    conv => whnf
    refine IdxN.of (by omega) (by omega) ?_
    conv => whnf
    refine LoadN.of (hcell.mono (by repeat (first | exact View.le_refl _ | assumption | exact View.addU_le _ _ _ | refine View.le_trans ?_ (by assumption) | refine View.le_trans ?_ (View.addU_le _ _ _)))) 0 (by show off + i * 1 = off + i + 0; omega) rfl ?_
    conv => whnf
    apply br <;> intro g4 <;> conv => whnf
    · have hk3 : k2 < r.length := by have := of_decide_eq_true g4; omega
      obtain ⟨x, hx⟩ : ∃ x, r[k2]? = some x := ⟨_, List.getElem?_eq_getElem hk3⟩
      obtain ⟨p2, o2, hb2, hx2⟩ := hrva.at hx
      subst hb2
      refine IdxN.of (by omega) (by omega) ?_
      conv => whnf
      refine LoadN.of (hcell.mono (by repeat (first | exact View.le_refl _ | assumption | exact View.addU_le _ _ _ | refine View.le_trans ?_ (by assumption) | refine View.le_trans ?_ (View.addU_le _ _ _)))) 0 (by show off + i * 1 = off + i + 0; omega) rfl ?_
      conv => whnf
      refine IdxN.of (by omega) (by omega) ?_
      conv => whnf
      refine LoadN.of (hx2.mono (by repeat (first | exact View.le_refl _ | assumption | exact View.addU_le _ _ _ | refine View.le_trans ?_ (by assumption) | refine View.le_trans ?_ (View.addU_le _ _ _)))) 0 rfl rfl ?_
      conv => whnf
      refine CallN.pure (may_spec x _) fun v V3 _ hV3 ⟨b, hv, hmay⟩ => ?_
      subst hv
      conv => whnf
      apply br <;> intro g5 <;> conv => whnf
      · exact ret_pure rfl
      have g5 : b = true := by simpa using g5
      have hwk := wrap_nat (i := k2) (by omega)
      refine ⟨j2 - 1, k2 + 1, by omega, ?_, keeps_nil, View.le_trans hV2 hV3, hk3, by omega, fun y hy => ?_⟩
      · repeat' (first | exact sees_nil | refine sees_cons rfl rfl rfl ?_ | refine sees_cons rfl rfl (by rw [← hwk]; rfl) ?_)
      · rw [List.take_add_one, hx] at hy
        rcases List.mem_append.1 hy with h | h
        · exact hm2 y h
        · rw [List.mem_singleton.1 h]; exact hmay g5
    · have hk3 : ¬ k2 < r.length := by have := of_decide_eq_false g4; omega
      rw [List.take_of_length_le (by omega)] at hm2
      have hwi := wrap_nat (i := i) (by omega)
      repeat' first
        | (refine br_t rfl ?_; conv => whnf)
        | (refine br_f rfl ?_; conv => whnf)
        | (refine IdxN.lit rfl rfl ?_; conv => whnf)
        | (intro _; conv => whnf)
      refine ⟨j - 1, (i + 1, n'), by omega, ?_, keeps_nil, View.le_trans hV hV2, hi1, by show _ - (i + 1) = _; omega, hn8', fun s hs => ?_⟩
      · repeat' (first | exact sees_nil | refine sees_cons rfl rfl rfl ?_ | refine sees_cons rfl rfl (by rw [← hwi]; rfl) ?_)
      · have hs : s ∈ rows.take (i + 1) := hs
        rw [List.take_add_one, hr1] at hs
        rcases List.mem_append.1 hs with h | h
        · exact hm s h
        · rw [List.mem_singleton.1 h]; exact ⟨g3, hm2⟩
  · have hi1 : ¬ i < rows.length := by have := of_decide_eq_false g2; omega
    rw [List.take_of_length_le (by omega)] at hm
    have hlen : (sortX k d rows).length ≤ 9223372036854775807 := by
      unfold sortX
      split
      · omega
      · rw [sortR_len]; omega
    refine br_t (decide_eq_true (by show n < 9; omega)) ?_
    conv => whnf
    refine CallN.pure (sort_spec rows rb rc k d _ (hr.mono (by repeat (first | exact View.le_refl _ | assumption | exact View.addU_le _ _ _ | refine View.le_trans ?_ (by assumption) | refine View.le_trans ?_ (View.addU_le _ _ _)))) g1 (fun r h => by have := (hm r h).1; omega)) fun v V3 _ hV3 ⟨b1, c1, hv, _, h1⟩ => ?_
    subst hv
    conv => whnf
    repeat' first
      | (refine br_t rfl ?_; conv => whnf)
      | (refine br_f rfl ?_; conv => whnf)
      | (refine IdxN.lit rfl rfl ?_; conv => whnf)
      | (intro _; conv => whnf)
    refine CallN.pure (rsort_spec rows rb rc k d _ (hr.mono (by repeat (first | exact View.le_refl _ | assumption | exact View.addU_le _ _ _ | refine View.le_trans ?_ (by assumption) | refine View.le_trans ?_ (View.addU_le _ _ _)))) g1 (fun r h => by have := (hm r h).1; omega) hk (fun r hr s hs => tidy_cmp (key_tidy (hm s hs).2) (key_tidy (hm r hr).2)) (fun r hr v hv => fit_size (hf r hr v hv))) fun v V4 _ hV4 ⟨b2, c2, hv, _, h2⟩ => ?_
    subst hv
    conv => whnf
    repeat' first
      | (refine br_t rfl ?_; conv => whnf)
      | (refine br_f rfl ?_; conv => whnf)
      | (refine IdxN.lit rfl rfl ?_; conv => whnf)
      | (intro _; conv => whnf)
    refine CallN.pure (samerows_spec (sortX k d rows) b1 b2 c1 c2 _ (h1.mono (by repeat (first | exact View.le_refl _ | assumption | exact View.addU_le _ _ _ | refine View.le_trans ?_ (by assumption) | refine View.le_trans ?_ (View.addU_le _ _ _)))) (h2.mono (by repeat (first | exact View.le_refl _ | assumption | exact View.addU_le _ _ _ | refine View.le_trans ?_ (by assumption) | refine View.le_trans ?_ (View.addU_le _ _ _))))) fun v V5 _ hV5 hv => ?_
    subst hv
    conv => whnf
    repeat' first
      | (refine br_t rfl ?_; conv => whnf)
      | (refine br_f rfl ?_; conv => whnf)
      | (refine IdxN.lit rfl rfl ?_; conv => whnf)
      | (intro _; conv => whnf)
    exact ret_pure rfl
end Go.Proofs.Ytenpginanhnkbaa
end
