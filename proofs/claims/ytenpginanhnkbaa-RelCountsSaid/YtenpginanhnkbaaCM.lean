/- One part of a proof: an evaluator of the model, shown right, and contracts that it yields. No condition beyond those that each theorem names. -/
import Derived.Test.YtenpginanhnkbaaCL
section
set_option linter.unusedSimpArgs false
set_option linter.unusedVariables false
namespace Go.Proofs.Ytenpginanhnkbaa
open Go.X
set_option maxRecDepth 100000

/-! ## the order of values -/
theorem bless_eq : ∀ (x y : List UInt8), Op.bytesLess x y = decide (x < y)
  | [], [] => by simp [Op.bytesLess]
  | _ :: _, [] => by simp [Op.bytesLess]
  | [], _ :: _ => by simp [Op.bytesLess]
  | a :: x, b :: y => by
    rw [Op.bytesLess, bless_eq x y]
    simp only [List.cons_lt_cons_iff]
    by_cases h1 : a < b <;> by_cases h2 : a = b <;> by_cases h3 : x < y <;> simp [h1, h2, h3]
theorem cmpS_le {a b : ByteArray} : cmpS a b ≤ 0 ↔ a.toList ≤ b.toList := by
  rw [List.le_iff_lt_or_eq]
  unfold cmpS
  rw [bless_eq]
  by_cases h : a.toList < b.toList
  · rw [if_pos (decide_eq_true h)]; simp [h]
  · rw [if_neg (by simpa using h)]
    by_cases h2 : a.toList = b.toList
    · rw [if_pos h2]; simp [h2]
    · rw [if_neg h2]; simp [h, h2]
theorem cmpS_ge {a b : ByteArray} : 0 ≤ cmpS a b ↔ b.toList ≤ a.toList := by
  show _ ↔ ¬ a.toList < b.toList
  unfold cmpS
  rw [bless_eq]
  by_cases h : a.toList < b.toList
  · rw [if_pos (decide_eq_true h)]; simp [h]
  · rw [if_neg (by simpa using h)]
    by_cases h2 : a.toList = b.toList
    · rw [if_pos h2]; simp [h]
    · rw [if_neg h2]; simp [h]
theorem cmpS_trans {a b c : ByteArray} (h : cmpS a b ≤ 0) (k : cmpS b c ≤ 0) : cmpS a c ≤ 0 := by
  rw [cmpS_le] at *
  exact List.le_trans h k
theorem cmpS_three (a b : ByteArray) : cmpS a b = -1 ∨ cmpS a b = 0 ∨ cmpS a b = 1 := by
  unfold cmpS; split
  · exact .inl rfl
  · split
    · exact .inr (.inl rfl)
    · exact .inr (.inr rfl)
theorem cmpS_neg (a b : ByteArray) : cmpS b a = - cmpS a b := by
  have h1 := cmpS_le (a := a) (b := b)
  have h2 := cmpS_ge (a := a) (b := b)
  have h3 := cmpS_le (a := b) (b := a)
  have h4 := cmpS_ge (a := b) (b := a)
  have h5 := cmpS_three a b
  have h6 := cmpS_three b a
  rcases h5 with e | e | e <;> rcases h6 with f | f | f <;> rw [e] at h1 h2 <;> rw [f] at h3 h4 <;> first | omega | (simp at h1 h2 h3 h4; first | exact absurd h1 h4 | exact absurd h4 h1 | exact absurd h2 h3 | exact absurd h3 h2 | skip)
theorem cmpV_le {a b : Val} : cmpV a b ≤ 0 ↔ a.k < b.k ∨ (a.k = b.k ∧ (a.n < b.n ∨ (a.n = b.n ∧ cmpS a.t b.t ≤ 0))) := by
  unfold cmpV orI cmpI
  by_cases h1 : a.k < b.k
  · simp [h1]
  · by_cases h2 : b.k < a.k
    · simp [h1, h2]; omega
    · have h3 : a.k = b.k := by omega
      by_cases h4 : a.n < b.n
      · simp [h1, h2, h3, h4]
      · by_cases h5 : b.n < a.n
        · simp [h1, h2, h3, h4, h5]; omega
        · have h6 : a.n = b.n := by omega
          simp [h1, h2, h3, h4, h5, h6]
theorem cmpV_neg (a b : Val) : cmpV b a = - cmpV a b := by
  unfold cmpV orI cmpI
  rw [cmpS_neg a.t b.t]
  repeat' split
  all_goals omega
theorem cmpV_trans {a b c : Val} (h : cmpV a b ≤ 0) (k : cmpV b c ≤ 0) : cmpV a c ≤ 0 := by
  rw [cmpV_le] at *
  rcases h with h | ⟨h, h | ⟨h', h⟩⟩ <;> rcases k with k | ⟨k, k | ⟨k', k⟩⟩
  · left; omega
  · left; omega
  · left; omega
  · left; omega
  · right; exact ⟨by omega, .inl (by omega)⟩
  · right; exact ⟨by omega, .inl (by omega)⟩
  · left; omega
  · right; exact ⟨by omega, .inl (by omega)⟩
  · right; exact ⟨by omega, .inr ⟨by omega, cmpS_trans h k⟩⟩
/-- what stands ahead of all -/
theorem maxF_mem (s : Int) : ∀ (l : List Val) (m : Val), maxF s m l ∈ m :: l
  | [], m => by simp [maxF]
  | y :: l, m => by
    rw [maxF]
    have := maxF_mem s l (if 0 < s * cmpV y m then y else m)
    rcases List.mem_cons.1 this with h | h
    · rw [h]; split <;> simp
    · simp [h]
theorem maxF_top {s : Int} (hs : s = 1 ∨ s = -1) : ∀ (l : List Val) (m : Val), ∀ y ∈ m :: l, s * cmpV y (maxF s m l) ≤ 0 := by
  have tr : ∀ a b c, s * cmpV a b ≤ 0 → s * cmpV b c ≤ 0 → s * cmpV a c ≤ 0 := fun a b c h k => by
    rcases hs with rfl | rfl
    · have := cmpV_trans (a := a) (b := b) (c := c) (by omega) (by omega); omega
    · have := cmpV_trans (a := c) (b := b) (c := a) (by rw [cmpV_neg b c]; omega) (by rw [cmpV_neg a b]; omega)
      rw [cmpV_neg a c] at this; omega
  have re : ∀ a, s * cmpV a a ≤ 0 := fun a => by
    have := cmpV_neg a a
    have h0 : cmpV a a = 0 := by omega
    rw [h0]; omega
  intro l
  induction l with
  | nil =>
    intro m y hy
    rw [List.mem_singleton.1 hy]
    exact re m
  | cons z l ih =>
    intro m y hy
    rw [maxF]
    have h0 := ih (if 0 < s * cmpV z m then z else m)
    rcases List.mem_cons.1 hy with rfl | hy
    · refine tr _ (if 0 < s * cmpV z y then z else y) _ ?_ (h0 _ (by simp))
      split
      · rename_i h
        rw [cmpV_neg z y, Int.mul_neg]
        omega
      · exact re y
    · rcases List.mem_cons.1 hy with rfl | hy
      · refine tr _ (if 0 < s * cmpV y m then y else m) _ ?_ (h0 _ (by simp))
        split
        · exact re y
        · omega
      · exact h0 _ (by simp [hy])
end Go.Proofs.Ytenpginanhnkbaa
end

section
set_option linter.unusedSimpArgs false
set_option linter.unusedVariables false
namespace Go.Proofs.Ytenpginanhnkbaa
open Go.X
set_option maxRecDepth 100000

/-! ## sums -/
def nsum : List Val → Int
  | [] => 0
  | v :: l => v.n + nsum l
theorem fits_cases (x : Int) : (InR x ∧ fits x = (x, 0)) ∨ fits x = (0, 8) := by
  unfold fits
  split
  · exact .inl ⟨by assumption, rfl⟩
  · exact .inr rfl
theorem sumX_ok : ∀ (l : List Val) (a : Int), (sumX a l).2 = 0 ∨ (sumX a l).2 = 8
  | [], a => .inl rfl
  | v :: l, a => by
    rw [sumX]
    rcases fits_cases (a + v.n) with ⟨_, h⟩ | h
    · rw [h, if_neg (by simp)]; exact sumX_ok l _
    · rw [h, if_pos (by decide)]; exact .inr rfl
theorem sumX_val : ∀ (l : List Val) (a : Int), InR a → (sumX a l).2 = 0 → (sumX a l).1 = ⟨1, a + nsum l, noText⟩ ∧ InR (a + nsum l)
  | [], a, ha, _ => by simp only [sumX, nsum, Int.add_zero]; exact ⟨trivial, ha⟩
  | v :: l, a, ha, h => by
    rw [sumX] at h ⊢
    rcases fits_cases (a + v.n) with ⟨hr, h1⟩ | h1
    · rw [h1, if_neg (by simp)] at h ⊢
      have := sumX_val l _ hr h
      rw [nsum, ← Int.add_assoc]; exact this
    · rw [h1, if_pos (by decide)] at h
      exact absurd h (by decide)
theorem sumX_front : ∀ (l k : List Val) (a : Int), (sumX a (l ++ k)).2 = 0 → (sumX a l).2 = 0
  | [], k, a, _ => rfl
  | v :: l, k, a, h => by
    rw [List.cons_append, sumX] at h
    rw [sumX]
    rcases fits_cases (a + v.n) with ⟨_, h1⟩ | h1
    · rw [h1, if_neg (by simp)] at h ⊢
      exact sumX_front l k _ h
    · rw [h1, if_pos (by decide)] at h
      exact absurd h (by decide)
theorem nsum_append : ∀ l k, nsum (l ++ k) = nsum l + nsum k
  | [], k => by simp [nsum]
  | v :: l, k => by rw [List.cons_append, nsum, nsum, nsum_append l k]; omega
/-! ## slices of slices -/
theorem slice_hi (t : TypeId) (p off n cap k : Nat) (ht : Try.prog.underlying t = some (.slice (Try.prog.elem t))) (hz : ∀ w, (sizeOf (Try.prog.elem t)).run Try.prog w = .ok 1 w) (h : k ≤ cap) (w : World) :
    (Instr.sliceAt t (.slice (some ⟨p, off, none⟩) n cap) none (some (.int .i64 k)) none).run Try.prog w = .ok (.slice (some ⟨p, off, none⟩) k cap) w := by
  rw [run_sliceAt_slice (h := ht), run_slice_h (ht := ht) (h0 := by omega) (h2 := by omega), hz]
  simp [sliced, add_lit]
theorem slice_lo (t : TypeId) (p off n cap k : Nat) (ht : Try.prog.underlying t = some (.slice (Try.prog.elem t))) (hz : ∀ w, (sizeOf (Try.prog.elem t)).run Try.prog w = .ok 1 w) (h : k ≤ n) (w : World) :
    (Instr.sliceAt t (.slice (some ⟨p, off, none⟩) n cap) (some (.int .i64 k)) none none).run Try.prog w = .ok (.slice (some ⟨p, if cap = k then off else off + k, none⟩) (n - k) (cap - k)) w := by
  rw [run_sliceAt_slice (h := ht), run_slice_l (ht := ht) (h0 := by omega) (h1 := by omega), hz]
  simp only [Result.andThen_ok, sliced, Int.toNat_natCast, Nat.mul_one, Option.map_some, add_lit]
  by_cases hk : cap = k
  · simp [hk]
  · simp [hk]
theorem under63 : Try.prog.underlying 63 = some (.slice (Try.prog.elem 63)) := by kernel_rfl
theorem size63 (w : World) : (sizeOf (Try.prog.elem 63)).run Try.prog w = .ok 1 w := by
  have e : sizeB Try.prog (Try.prog.elem 63) = some 1 := by kernel_rfl
  exact X.run_sizeOf e w
/-! ## rows of rows -/
theorem RowsAt.take {V : View} {rows : List (List Val)} {p off : Nat} (h : RowsAt V rows (some ⟨p, off, none⟩)) (k : Nat) : RowsAt V (rows.take k) (some ⟨p, off, none⟩) := by
  obtain ⟨cells, hc, hp⟩ := h.get
  refine ⟨⟨cells.take k, ⟨by rw [List.length_take, List.length_take, hc.len], fun i r c h1 h2 => ?_⟩, fun hn => ?_⟩, Nat.le_trans (by rw [List.length_take]; omega) h.len⟩
  · rw [List.getElem?_take] at h1 h2
    split at h1
    · rename_i hi; rw [if_pos hi] at h2; exact hc.at' i r c h1 h2
    · cases h1
  · obtain ⟨p', off', he, hh⟩ := hp (fun e => hn (by rw [e]; simp))
    refine ⟨p', off', he, fun i v hi => hh i v ?_⟩
    rw [List.getElem?_take] at hi
    split at hi
    · exact hi
    · cases hi
theorem RowsAt.drop {V : View} {rows : List (List Val)} {p off : Nat} (h : RowsAt V rows (some ⟨p, off, none⟩)) (k o : Nat) (ho : k < rows.length → o = off + k) : RowsAt V (rows.drop k) (some ⟨p, o, none⟩) := by
  obtain ⟨cells, hc, hp⟩ := h.get
  refine ⟨⟨cells.drop k, ⟨by rw [List.length_drop, List.length_drop, hc.len], fun i r c h1 h2 => ?_⟩, fun hn => ?_⟩, Nat.le_trans (by rw [List.length_drop]; omega) h.len⟩
  · rw [List.getElem?_drop] at h1 h2
    exact hc.at' (k + i) r c h1 h2
  · have hk : k < rows.length := by
      rcases Nat.lt_or_ge k rows.length with h1 | h1
      · exact h1
      · exact absurd (List.drop_eq_nil_of_le h1) hn
    obtain ⟨p', off', he, hh⟩ := hp (fun e => by rw [e] at hk; simp at hk)
    simp only [Option.some.injEq, Addr.mk.injEq] at he
    obtain ⟨rfl, rfl, _⟩ := he
    refine ⟨p, o, rfl, fun i v hi => ?_⟩
    rw [List.getElem?_drop] at hi
    have := hh (k + i) v hi
    rw [ho hk, Nat.add_assoc]; exact this
/-! ## columns -/
theorem valsOf_take (c : Int) (rows : List (List Val)) (k : Nat) : valsOf c rows = valsOf c (rows.take k) ++ valsOf c (rows.drop k) := by rw [← valsOf_append, List.take_append_drop]
theorem valsOf_at {c : Nat} : ∀ {rows : List (List Val)} {r : List Val} {v : Val}, r ∈ rows → r[c]? = some v → v ∈ valsOf c rows
  | [], r, v, h, _ => by cases h
  | x :: rows, r, v, h, hv => by
    rw [valsOf, List.mem_append]
    rcases List.mem_cons.1 h with rfl | h
    · left
      rw [if_pos (by omega), Int.toNat_natCast, hv]; simp
    · exact .inr (valsOf_at h hv)
theorem valsOf_from {c : Nat} : ∀ {rows : List (List Val)} {v : Val}, v ∈ valsOf c rows → ∃ r ∈ rows, r[c]? = some v
  | [], v, h => by cases h
  | x :: rows, v, h => by
    rw [valsOf, List.mem_append, if_pos (by omega), Int.toNat_natCast] at h
    rcases h with h | h
    · split at h
      · rename_i u hu
        rw [List.mem_singleton.1 h]
        exact ⟨x, by simp, hu⟩
      · cases h
    · obtain ⟨r, h1, h2⟩ := valsOf_from h
      exact ⟨r, by simp [h1], h2⟩
end Go.Proofs.Ytenpginanhnkbaa
end
