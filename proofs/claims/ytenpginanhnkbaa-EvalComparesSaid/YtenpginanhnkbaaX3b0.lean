/- One part of a proof: an evaluator of the model, shown right, and contracts that it yields. No condition beyond those that each theorem names. -/
import Derived.Test.YtenpginanhnkbaaX3
namespace Go.X
set_option linter.unusedSimpArgs false

theorem setAt_step : ∀ (l : List Value) (n : Nat) (x : Value) (xs : List Value), setAt l n (x :: xs) = setAt (l.set n x) (n + 1) xs
  | [], n, x, xs => by cases xs <;> simp [setAt]
  | y :: r, 0, x, xs => by
    cases xs with
    | nil => simp [setAt]
    | cons z zs => simp [setAt]
  | y :: r, n + 1, x, xs => by
    have := setAt_step r n x xs
    cases xs with
    | nil => simp only [setAt, List.set_cons_succ] at this ⊢; rw [this]
    | cons z zs => simp only [setAt, List.set_cons_succ] at this ⊢; rw [this]

theorem foldl_set (off : Nat) : ∀ (vs : List Value) (k : Nat) (arr : List Value),
    (vs.zipIdx k).foldl (fun cs (x : Value × Nat) => cs.setIfInBounds (off + x.2) x.1) arr.toArray = (setAt arr (off + k) vs).toArray
  | [], k, arr => by cases arr <;> simp [setAt]
  | v :: vs, k, arr => by
    rw [List.zipIdx_cons, List.foldl_cons, setAt_step]
    have := foldl_set off vs (k + 1) (arr.set (off + k) v)
    rw [show off + k + 1 = off + (k + 1) by omega, ← this]
    simp

theorem fill_eq {place : Nat → Option (Nat × Nat)} : ∀ (l : List (Nat × Value)) {cells r : List Value}, fillB place cells l = some r → Instr.fill place cells.toArray l = some r.toArray
  | [], cells, r, h => by simp only [fillB, Option.some.injEq] at h; subst h; rfl
  | (i, v) :: l, cells, r, h => by
    unfold fillB at h
    unfold Instr.fill
    split at h
    · cases h
    · rename_i off size hp
      split at h
      · rename_i h1 h2
        have h1 := Nat.eq_of_beq_eq_true h1
        have h2 := Nat.le_of_ble_eq_true h2
        rw [hp]
        simp only
        rw [if_neg (by
          simp only [List.size_toArray, ne_eq, Bool.or_eq_true, decide_eq_true_eq, not_or, Bool.not_eq_true', decide_not, Bool.not_eq_eq_eq_not, Bool.not_true, decide_eq_false_iff_not, Decidable.not_not]
          exact ⟨h1, by omega⟩)]
        have := foldl_set off v.cells.toList 0 cells
        rw [← Array.foldl_toList, Array.toList_zipIdx]
        rw [Nat.add_zero] at this
        rw [this]
        exact fill_eq l h
      · cases h

section
variable {P : Program}
theorem run_zero {t : TypeId} {i : TypeInfo} {z : Value} (hi : P.info? t = some i) (hz : i.zero = some z) (w : World) : (zeroValue t).run P w = .ok z w := by
  simp only [zeroValue, typeInfo, program, Sem.run_bind]
  simp [Sem.run, hi, hz]
theorem run_places : ∀ {l : List Field} {r : List (Nat × Nat)}, placesB P l = some r → ∀ w, (l.mapM fun f => do pure (f.offset, ← sizeOf f.type) : Sem (List (Nat × Nat))).run P w = .ok r w
  | [], r, h, w => by simp only [placesB, Option.some.injEq] at h; subst h; rfl
  | f :: l, r, h, w => by
    unfold placesB at h
    split at h
    · rename_i z r' hz hr
      simp only [Option.some.injEq] at h; subst h
      rw [List.mapM_cons, Sem.run_bind, Sem.run_bind, run_sizeOf hz w]
      simp only [Result.andThen_ok, Sem.run_pure]
      rw [Sem.run_bind, run_places hr w]
      rfl
    · cases h

theorem run_build {t : TypeId} {l : List (Nat × Value)} {cells : List Value} (h : buildB P t l = some cells) (w : World) : (Instr.build t l.toArray).run P w = .ok (.agg cells.toArray) w := by
  unfold buildB at h
  split at h
  · rename_i i hi
    split at h
    · rename_i z hz
      unfold Instr.build
      rw [Sem.run_bind, run_zero hi hz w]
      simp only [Result.andThen_ok]
      split at h
      · rename_i fs hf
        split at h
        · rename_i ps hp
          rw [Sem.run_bind, run_underlying hf]
          simp only [Result.andThen_ok]
          rw [Sem.run_bind, Array.mapM_eq_mapM_toList, map_eq_pure_bind, Sem.run_bind, run_places hp w]
          simp only [Result.andThen_ok, Sem.run_pure]
          have := fill_eq l h
          rw [show (fun x => ps.toArray[x]?) = (fun k => ps[k]?) from funext fun x => by simp]
          simp only [this]
          rfl
        · cases h
      · rename_i n e hf
        split at h
        · rename_i s hs
          rw [Sem.run_bind, run_underlying hf]
          simp only [Result.andThen_ok]
          rw [Sem.run_bind, run_sizeOf hs w]
          simp only [Result.andThen_ok]
          have := fill_eq l h
          simp only [this]
          rfl
        · cases h
      · cases h
    · cases h
  · cases h

theorem repB_length (z : List Value) : ∀ n, (repB z n).length = n * z.length
  | 0 => by simp [repB]
  | n + 1 => by simp [repB, repB_length z n, Nat.succ_mul, Nat.add_comm]
theorem repB_get (z : List Value) (hz : 0 < z.length) : ∀ n i, i < n * z.length → (repB z n)[i]? = z[i % z.length]?
  | 0, i, h => by omega
  | n + 1, i, h => by
    unfold repB
    rw [List.getElem?_append]
    split
    · rename_i hlt; rw [Nat.mod_eq_of_lt hlt]
    · rename_i hge
      rw [repB_get z hz n (i - z.length) (by rw [Nat.succ_mul] at h; omega)]
      congr 1
      obtain ⟨j, rfl⟩ : ∃ j, i = j + z.length := ⟨i - z.length, by omega⟩
      rw [Nat.add_mod_right, Nat.add_sub_cancel]
theorem rep_eq (z : Value) (len : Nat) (h : 0 < len * z.cells.size) : ((Array.range (len * z.cells.size)).map (z.cells[· % z.cells.size]!)) = (repB z.cells.toList len).toArray := by
  have hz : 0 < z.cells.size := by
    rcases Nat.eq_zero_or_pos z.cells.size with h0 | h0
    · rw [h0] at h; omega
    · exact h0
  apply Array.ext'
  apply List.ext_getElem?
  intro i
  by_cases hi : i < len * z.cells.size
  · have h2 := repB_get z.cells.toList (by simpa using hz) len i (by simpa using hi)
    simp only [Array.length_toList] at h2
    rw [h2]
    have hm : i % z.cells.size < z.cells.size := Nat.mod_lt _ hz
    simp [hi, hm]
  · rw [List.getElem?_eq_none (by simpa using hi), List.getElem?_eq_none (by rw [repB_length]; simpa using hi)]

theorem run_litSem {t : TypeId} {len : Nat} {l : List (Nat × Value)} {e : TypeId} {cells : List Value} (h : litB P t len l = some (e, cells)) (w : World) : (litSem t len l.toArray).run P w = .ok (e, cells.toArray) w := by
  unfold litB at h
  split at h
  · rename_i e' he
    split at h
    · rename_i i hi
      split at h
      · rename_i z hz
        split at h
        · rename_i h1 h2
          have h1 := Nat.eq_of_beq_eq_true h1
          have h2 := Nat.le_of_ble_eq_true h2
          split at h
          · rename_i cells' hc
            simp only [Option.some.injEq, Prod.mk.injEq] at h
            obtain ⟨rfl, rfl⟩ := h
            have hs : sizeB P e' = some i.size := by simp [sizeB, hi]
            have hf := fill_eq l hc
            unfold litSem
            rw [Sem.run_bind, run_underlying he]
            simp only [Result.andThen_ok]
            rw [Sem.run_bind, run_sizeOf hs w]
            simp only [Result.andThen_ok]
            rw [if_neg (by omega)]
            by_cases h0 : len * i.size = 0
            · simp only [h0, if_true, pure_bind]
              have hr : repB z.cells.toList len = [] := by
                apply List.eq_nil_of_length_eq_zero
                rw [repB_length]; simpa [h1] using h0
              rw [hr] at hf
              have e0 : (Array.range 0).map (fun x => (#[] : Array Value)[x % (#[] : Array Value).size]!) = ([] : List Value).toArray := by
                apply Array.ext'; simp
              simp only [e0, hf]
              simp
            · simp only [h0, if_false, bind_assoc, pure_bind]
              have := rep_eq z len (by rw [h1]; omega)
              rw [h1] at this
              rw [Sem.run_bind, run_zero hi hz w]
              simp only [Result.andThen_ok, h1, this, hf]
              rfl
          · cases h
        · cases h
      · cases h
    · cases h
  · cases h
end
end Go.X
