/- One part of a proof: an evaluator of the model, shown right, and contracts that it yields. No condition beyond those that each theorem names. -/
import Derived.Test.YtenpginanhnkbaaCL
section
set_option linter.unusedSimpArgs false
set_option linter.unusedVariables false
namespace Go.Proofs.Ytenpginanhnkbaa
open Go.X
set_option maxRecDepth 100000

/-! ## the order of values -/
theorem bless_eq : ∀ (x y : List UInt8), Op.bytesLess x y = decide (x < y)
  | [], [] => by simp [Op.bytesLess]
  | _ :: _, [] => by simp [Op.bytesLess]
  | [], _ :: _ => by simp [Op.bytesLess]
  | a :: x, b :: y => by
    rw [Op.bytesLess, bless_eq x y]
    simp only [List.cons_lt_cons_iff]
    by_cases h1 : a < b <;> by_cases h2 : a = b <;> by_cases h3 : x < y <;> simp [h1, h2, h3]
theorem cmpS_le {a b : ByteArray} : cmpS a b ≤ 0 ↔ a.toList ≤ b.toList := by
  rw [List.le_iff_lt_or_eq]
  unfold cmpS
  rw [bless_eq]
  by_cases h : a.toList < b.toList
  · rw [if_pos (decide_eq_true h)]; simp [h]
  · rw [if_neg (by simpa using h)]
    by_cases h2 : a.toList = b.toList
    · rw [if_pos h2]; simp [h2]
    · rw [if_neg h2]; simp [h, h2]
theorem cmpS_ge {a b : ByteArray} : 0 ≤ cmpS a b ↔ b.toList ≤ a.toList := by
  show _ ↔ ¬ a.toList < b.toList
  unfold cmpS
  rw [bless_eq]
  by_cases h : a.toList < b.toList
  · rw [if_pos (decide_eq_true h)]; simp [h]
  · rw [if_neg (by simpa using h)]
    by_cases h2 : a.toList = b.toList
    · rw [if_pos h2]; simp [h]
    · rw [if_neg h2]; simp [h]
theorem cmpS_trans {a b c : ByteArray} (h : cmpS a b ≤ 0) (k : cmpS b c ≤ 0) : cmpS a c ≤ 0 := by
  rw [cmpS_le] at *
  exact List.le_trans h k
theorem cmpS_three (a b : ByteArray) : cmpS a b = -1 ∨ cmpS a b = 0 ∨ cmpS a b = 1 := by
  unfold cmpS; split
  · exact .inl rfl
  · split
    · exact .inr (.inl rfl)
    · exact .inr (.inr rfl)
theorem cmpS_neg (a b : ByteArray) : cmpS b a = - cmpS a b := by
  have h1 := cmpS_le (a := a) (b := b)
  have h2 := cmpS_ge (a := a) (b := b)
  have h3 := cmpS_le (a := b) (b := a)
  have h4 := cmpS_ge (a := b) (b := a)
  have h5 := cmpS_three a b
  have h6 := cmpS_three b a
  rcases h5 with e | e | e <;> rcases h6 with f | f | f <;> rw [e] at h1 h2 <;> rw [f] at h3 h4 <;> first | omega | (simp at h1 h2 h3 h4; first | exact absurd h1 h4 | exact absurd h4 h1 | exact absurd h2 h3 | exact absurd h3 h2 | skip)
theorem cmpV_le {a b : Val} : cmpV a b ≤ 0 ↔ a.k < b.k ∨ (a.k = b.k ∧ (a.n < b.n ∨ (a.n = b.n ∧ cmpS a.t b.t ≤ 0))) := by
  unfold cmpV orI cmpI
  by_cases h1 : a.k < b.k
  · simp [h1]
  · by_cases h2 : b.k < a.k
    · simp [h1, h2]; omega
    · have h3 : a.k = b.k := by omega
      by_cases h4 : a.n < b.n
      · simp [h1, h2, h3, h4]
      · by_cases h5 : b.n < a.n
        · simp [h1, h2, h3, h4, h5]; omega
        · have h6 : a.n = b.n := by omega
          simp [h1, h2, h3, h4, h5, h6]
theorem cmpV_neg (a b : Val) : cmpV b a = - cmpV a b := by
  unfold cmpV orI cmpI
  rw [cmpS_neg a.t b.t]
  repeat' split
  all_goals omega
theorem cmpV_trans {a b c : Val} (h : cmpV a b ≤ 0) (k : cmpV b c ≤ 0) : cmpV a c ≤ 0 := by
  rw [cmpV_le] at *
  rcases h with h | ⟨h, h | ⟨h', h⟩⟩ <;> rcases k with k | ⟨k, k | ⟨k', k⟩⟩
  · left; omega
  · left; omega
  · left; omega
  · left; omega
  · right; exact ⟨by omega, .inl (by omega)⟩
  · right; exact ⟨by omega, .inl (by omega)⟩
  · left; omega
  · right; exact ⟨by omega, .inl (by omega)⟩
  · right; exact ⟨by omega, .inr ⟨by omega, cmpS_trans h k⟩⟩
/-- what stands ahead of all -/
theorem maxF_mem (s : Int) : ∀ (l : List Val) (m : Val), maxF s m l ∈ m :: l
  | [], m => by simp [maxF]
  | y :: l, m => by
    rw [maxF]
    have := maxF_mem s l (if 0 < s * cmpV y m then y else m)
    rcases List.mem_cons.1 this with h | h
    · rw [h]; split <;> simp
    · simp [h]
theorem maxF_top {s : Int} (hs : s = 1 ∨ s = -1) : ∀ (l : List Val) (m : Val), ∀ y ∈ m :: l, s * cmpV y (maxF s m l) ≤ 0 := by
  have tr : ∀ a b c, s * cmpV a b ≤ 0 → s * cmpV b c ≤ 0 → s * cmpV a c ≤ 0 := fun a b c h k => by
    rcases hs with rfl | rfl
    · have := cmpV_trans (a := a) (b := b) (c := c) (by omega) (by omega); omega
    · have := cmpV_trans (a := c) (b := b) (c := a) (by rw [cmpV_neg b c]; omega) (by rw [cmpV_neg a b]; omega)
      rw [cmpV_neg a c] at this; omega
  have re : ∀ a, s * cmpV a a ≤ 0 := fun a => by
    have := cmpV_neg a a
    have h0 : cmpV a a = 0 := by omega
    rw [h0]; omega
  intro l
  induction l with
  | nil =>
    intro m y hy
    rw [List.mem_singleton.1 hy]
    exact re m
  | cons z l ih =>
    intro m y hy
    rw [maxF]
    have h0 := ih (if 0 < s * cmpV z m then z else m)
    rcases List.mem_cons.1 hy with rfl | hy
    · refine tr _ (if 0 < s * cmpV z y then z else y) _ ?_ (h0 _ (by simp))
      split
      · rename_i h
        rw [cmpV_neg z y, Int.mul_neg]
        omega
      · exact re y
    · rcases List.mem_cons.1 hy with rfl | hy
      · refine tr _ (if 0 < s * cmpV y m then y else m) _ ?_ (h0 _ (by simp))
        split
        · exact re y
        · omega
      · exact h0 _ (by simp [hy])
end Go.Proofs.Ytenpginanhnkbaa
end

section
set_option linter.unusedSimpArgs false
set_option linter.unusedVariables false
namespace Go.Proofs.Ytenpginanhnkbaa
open Go.X
set_option maxRecDepth 100000

/-! ## sums -/
def nsum : List Val → Int
  | [] => 0
  | v :: l => v.n + nsum l
theorem fits_cases (x : Int) : (InR x ∧ fits x = (x, 0)) ∨ fits x = (0, 8) := by
  unfold fits
  split
  · exact .inl ⟨by assumption, rfl⟩
  · exact .inr rfl
theorem sumX_ok : ∀ (l : List Val) (a : Int), (sumX a l).2 = 0 ∨ (sumX a l).2 = 8
  | [], a => .inl rfl
  | v :: l, a => by
    rw [sumX]
    rcases fits_cases (a + v.n) with ⟨_, h⟩ | h
    · rw [h, if_neg (by simp)]; exact sumX_ok l _
    · rw [h, if_pos (by decide)]; exact .inr rfl
theorem sumX_val : ∀ (l : List Val) (a : Int), InR a → (sumX a l).2 = 0 → (sumX a l).1 = ⟨1, a + nsum l, noText⟩ ∧ InR (a + nsum l)
  | [], a, ha, _ => by simp only [sumX, nsum, Int.add_zero]; exact ⟨trivial, ha⟩
  | v :: l, a, ha, h => by
    rw [sumX] at h ⊢
    rcases fits_cases (a + v.n) with ⟨hr, h1⟩ | h1
    · rw [h1, if_neg (by simp)] at h ⊢
      have := sumX_val l _ hr h
      rw [nsum, ← Int.add_assoc]; exact this
    · rw [h1, if_pos (by decide)] at h
      exact absurd h (by decide)
theorem sumX_front : ∀ (l k : List Val) (a : Int), (sumX a (l ++ k)).2 = 0 → (sumX a l).2 = 0
  | [], k, a, _ => rfl
  | v :: l, k, a, h => by
    rw [List.cons_append, sumX] at h
    rw [sumX]
    rcases fits_cases (a + v.n) with ⟨_, h1⟩ | h1
    · rw [h1, if_neg (by simp)] at h ⊢
      exact sumX_front l k _ h
    · rw [h1, if_pos (by decide)] at h
      exact absurd h (by decide)
theorem nsum_append : ∀ l k, nsum (l ++ k) = nsum l + nsum k
  | [], k => by simp [nsum]
  | v :: l, k => by rw [List.cons_append, nsum, nsum, nsum_append l k]; omega
/-! ## slices of slices -/
theorem slice_hi (t : TypeId) (p off n cap k : Nat) (ht : Try.prog.underlying t = some (.slice (Try.prog.elem t))) (hz : ∀ w, (sizeOf (Try.prog.elem t)).run Try.prog w = .ok 1 w) (h : k ≤ cap) (w : World) :
    (Instr.sliceAt t (.slice (some ⟨p, off, none⟩) n cap) none (some (.int .i64 k)) none).run Try.prog w = .ok (.slice (some ⟨p, off, none⟩) k cap) w := by
  rw [run_sliceAt_slice (h := ht), run_slice_h (ht := ht) (h0 := by omega) (h2 := by omega), hz]
  simp [sliced, add_lit]
theorem slice_lo (t : TypeId) (p off n cap k : Nat) (ht : Try.prog.underlying t = some (.slice (Try.prog.elem t))) (hz : ∀ w, (sizeOf (Try.prog.elem t)).run Try.prog w = .ok 1 w) (h : k ≤ n) (w : World) :
    (Instr.sliceAt t (.slice (some ⟨p, off, none⟩) n cap) (some (.int .i64 k)) none none).run Try.prog w = .ok (.slice (some ⟨p, if cap = k then off else off + k, none⟩) (n - k) (cap - k)) w := by
  rw [run_sliceAt_slice (h := ht), run_slice_l (ht := ht) (h0 := by omega) (h1 := by omega), hz]
  simp only [Result.andThen_ok, sliced, Int.toNat_natCast, Nat.mul_one, Option.map_some, add_lit]
  by_cases hk : cap = k
  · simp [hk]
  · simp [hk]
theorem under63 : Try.prog.underlying 63 = some (.slice (Try.prog.elem 63)) := by kernel_rfl
theorem size63 (w : World) : (sizeOf (Try.prog.elem 63)).run Try.prog w = .ok 1 w := by
  have e : sizeB Try.prog (Try.prog.elem 63) = some 1 := by kernel_rfl
  exact X.run_sizeOf e w
/-! ## rows of rows -/
theorem RowsAt.take {V : View} {rows : List (List Val)} {p off : Nat} (h : RowsAt V rows (some ⟨p, off, none⟩)) (k : Nat) : RowsAt V (rows.take k) (some ⟨p, off, none⟩) := by
  obtain ⟨cells, hc, hp⟩ := h.get
  refine ⟨⟨cells.take k, ⟨by rw [List.length_take, List.length_take, hc.len], fun i r c h1 h2 => ?_⟩, fun hn => ?_⟩, Nat.le_trans (by rw [List.length_take]; omega) h.len⟩
  · rw [List.getElem?_take] at h1 h2
    split at h1
    · rename_i hi; rw [if_pos hi] at h2; exact hc.at' i r c h1 h2
    · cases h1
  · obtain ⟨p', off', he, hh⟩ := hp (fun e => hn (by rw [e]; simp))
    refine ⟨p', off', he, fun i v hi => hh i v ?_⟩
    rw [List.getElem?_take] at hi
    split at hi
    · exact hi
    · cases hi
theorem RowsAt.drop {V : View} {rows : List (List Val)} {p off : Nat} (h : RowsAt V rows (some ⟨p, off, none⟩)) (k o : Nat) (ho : k < rows.length → o = off + k) : RowsAt V (rows.drop k) (some ⟨p, o, none⟩) := by
  obtain ⟨cells, hc, hp⟩ := h.get
  refine ⟨⟨cells.drop k, ⟨by rw [List.length_drop, List.length_drop, hc.len], fun i r c h1 h2 => ?_⟩, fun hn => ?_⟩, Nat.le_trans (by rw [List.length_drop]; omega) h.len⟩
  · rw [List.getElem?_drop] at h1 h2
    exact hc.at' (k + i) r c h1 h2
  · have hk : k < rows.length := by
      rcases Nat.lt_or_ge k rows.length with h1 | h1
      · exact h1
      · exact absurd (List.drop_eq_nil_of_le h1) hn
    obtain ⟨p', off', he, hh⟩ := hp (fun e => by rw [e] at hk; simp at hk)
    simp only [Option.some.injEq, Addr.mk.injEq] at he
    obtain ⟨rfl, rfl, _⟩ := he
    refine ⟨p, o, rfl, fun i v hi => ?_⟩
    rw [List.getElem?_drop] at hi
    have := hh (k + i) v hi
    rw [ho hk, Nat.add_assoc]; exact this
/-! ## columns -/
theorem valsOf_take (c : Int) (rows : List (List Val)) (k : Nat) : valsOf c rows = valsOf c (rows.take k) ++ valsOf c (rows.drop k) := by rw [← valsOf_append, List.take_append_drop]
theorem valsOf_at {c : Nat} : ∀ {rows : List (List Val)} {r : List Val} {v : Val}, r ∈ rows → r[c]? = some v → v ∈ valsOf c rows
  | [], r, v, h, _ => by cases h
  | x :: rows, r, v, h, hv => by
    rw [valsOf, List.mem_append]
    rcases List.mem_cons.1 h with rfl | h
    · left
      rw [if_pos (by omega), Int.toNat_natCast, hv]; simp
    · exact .inr (valsOf_at h hv)
theorem valsOf_from {c : Nat} : ∀ {rows : List (List Val)} {v : Val}, v ∈ valsOf c rows → ∃ r ∈ rows, r[c]? = some v
  | [], v, h => by cases h
  | x :: rows, v, h => by
    rw [valsOf, List.mem_append, if_pos (by omega), Int.toNat_natCast] at h
    rcases h with h | h
    · split at h
      · rename_i u hu
        rw [List.mem_singleton.1 h]
        exact ⟨x, by simp, hu⟩
      · cases h
    · obtain ⟨r, h1, h2⟩ := valsOf_from h
      exact ⟨r, by simp [h1], h2⟩
end Go.Proofs.Ytenpginanhnkbaa
end

section
set_option linter.unusedSimpArgs false
set_option linter.unusedVariables false
namespace Go.Proofs.Ytenpginanhnkbaa
open Go.X
set_option maxRecDepth 100000

theorem pos_T {c : Nat} {nm : ByteArray} (h : (c = 1 ∧ nm = txt [118]) ∨ (c = 2 ∧ nm = txt [110])) : placeOf (hitI noText nm) itemsT 0 = c := by
  rcases h with ⟨rfl, rfl⟩ | ⟨rfl, rfl⟩ <;> simp [placeOf, hitI, itemsT, txt, noText, ByteArray.toList_eq]
/-- the first table's rows, folded -/
theorem fold_spec (rows : List (List Val)) (rn : Nat) (hrn : rn = rows.length) (rb : Option Addr) (rc p q : Nat) (x0 : Item) (xs : List Item) (ib n ic : Nat) (V : View) (hag : x0.agg ≠ 0) (hn : n = (x0 :: xs).length) (hx : V.has ib 0 ((x0 :: xs).flatMap icells)) (hxl : n ≤ 1000)
    (ht : ColsLie V colsT p) (hr : RowsAt V rows rb) (hs : rows.length ≤ 1000) (hrowc : ∀ r ∈ rows, RowC colsT r) :
    PSpec 32 [.agg #[.int .i64 6, .string (txt [116]), .string noText, .slice none 0 0, .slice none 0 0, .slice none 0 0, .slice (some ⟨ib, 0, none⟩) n ic, .string noText, .slice none 0 0, .slice none 0 0, .slice none 0 0, .bool false, .slice none 0 0],
      .agg #[.string (txt [116]), .slice (some ⟨p, 0, none⟩) 3 3, .slice (some ⟨q, 0, none⟩) 1 1], .agg #[.string noText, .slice none 0 0, .slice none 0 0], .slice rb rn rc, .slice none 0 0] V
      (fun v V' => ∃ x e, v = .tuple #[x, .int .i64 e] ∧ e = (oneX itemsT rows (x0 :: xs)).2 ∧ (e = 0 → RowsV V' [(oneX itemsT rows (x0 :: xs)).1] x) ∧ (e ≠ 0 → x = .slice none 0 0)) := by
  subst hn
  subst hrn
  have hlen : ∀ r ∈ rows, r.length = 3 := fun r h => (hrowc r h).len
  refine (selectA_spec ⟨6, txt [116], noText, (none, 0, 0), (none, 0, 0), (none, 0, 0), (some ⟨ib, 0, none⟩, (x0 :: xs).length, ic), noText, (none, 0, 0), (none, 0, 0), (none, 0, 0), false, (none, 0, 0)⟩ (txt [116]) noText (some ⟨p, 0, none⟩, 3, 3) (some ⟨q, 0, none⟩, 1, 1) (none, 0, 0) (none, 0, 0) (.slice rb rows.length rc) (.slice none 0 0)
    itemsT rows (fun _ => (true, 0)) x0 xs ib 0 V (fun V1 hV1 => rows1_spec _ ⟨txt [116], p, colsT, 3, some ⟨q, 0, none⟩, 1, 1⟩ ⟨noText, 0, [], 0, none, 0, 0⟩ _ rfl rows rb none rc 0 0 V1 noText_list (ht.mono hV1) (hr.mono hV1) hs (fun r h => by have := hlen r h; omega))
    rfl rfl hag hx hxl (by decide) hs (fun r h v hv => ?_) (fun r h => by have := hlen r h; omega) (fun cb cc V4 hV4 hc r hr v V5 hV5 hra => by
      obtain ⟨qb, qc, hqv⟩ := row_shape hra
      subst hqv
      exact holdsN_spec _ _ _ _ _ _ _)).mono fun v V' _ _ ⟨x, e, h1, h2, h3, h4⟩ => ?_
  · obtain ⟨x, y, z, rfl, hT⟩ := rowC_T (hrowc r h)
    exact hT.inR v hv
  · rw [whereX_all (fun _ => rfl), if_pos rfl] at h2
    rw [whereX_all (fun _ => rfl)] at h3
    exact ⟨x, e, h1, h2, h3, h4⟩
theorem oneR1_spec (r : List Val) (rb : Option Addr) (rc : Nat) (V : View) (hr : RowsAt V [r] rb) (h : r.length = 1) : PSpec 35 [.slice rb 1 rc] V (fun v _ => v = .bool true) := by
  refine does_of_zfun [] mixed (args := [.v _]) (ms := []) Try.func35 (by kernel_rfl) rfl ?_
  obtain ⟨p, off, c, hb, hcell, hrow⟩ := hr.at (i := 0) rfl
  obtain ⟨qb, qc, hqv⟩ := row_shape hrow
  subst hb; subst hqv
  rw [h] at hcell
  conv => whnf
  repeat' first
    | (refine br_t rfl ?_; conv => whnf)
    | (refine br_f rfl ?_; conv => whnf)
    | (refine IdxN.lit rfl rfl ?_; conv => whnf)
    | (intro _; conv => whnf)
  refine LoadN.of (hcell.mono (by repeat (first | exact View.le_refl _ | assumption | exact View.addU_le _ _ _ | refine View.le_trans ?_ (by assumption) | refine View.le_trans ?_ (View.addU_le _ _ _)))) 0 rfl rfl ?_
  conv => whnf
  repeat' first
    | (refine br_t rfl ?_; conv => whnf)
    | (refine br_f rfl ?_; conv => whnf)
    | (refine IdxN.lit rfl rfl ?_; conv => whnf)
    | (intro _; conv => whnf)
  exact ret_pure rfl
/-- one row, as the program makes it -/
theorem one_at {V : View} {r : List Val} {v : Value} (h : RowsV V [r] v) (hn : r ≠ []) : ∃ p off c p2 off2 c2, v = .slice (some ⟨p, off, none⟩) 1 c ∧ V.has p off [.slice (some ⟨p2, off2, none⟩) r.length c2] ∧ V.has p2 off2 (r.flatMap vcells) ∧ RowsAt V [r] (some ⟨p, off, none⟩) := by
  obtain ⟨base, cap, hv, hp, hr⟩ := h
  obtain ⟨p, off, c, hb, hcell, hrow⟩ := hr.at (i := 0) rfl
  obtain ⟨b2, c2, hc, hp2, hva⟩ := hrow
  obtain ⟨p2, off2, hb2, hh⟩ := hva.has hn
  subst hb; subst hc; subst hb2
  exact ⟨p, off, cap, p2, off2, c2, hv, hcell, hh, hr⟩
theorem KindV.size {k : Int} {v : Val} (h : KindV k v) : (v.t.size : Int) ≤ 9223372036854775807 := by have := h.t; omega
theorem fold_mm {c : Nat} {nm : ByteArray} (h : (c = 1 ∧ nm = txt [118]) ∨ (c = 2 ∧ nm = txt [110])) (rows : List (List Val)) (hrowc : ∀ r ∈ rows, RowC colsT r) :
    (rows = [] → (oneX itemsT rows [⟨3, noText, nm⟩, ⟨4, noText, nm⟩]).2 = 23) ∧
    (rows ≠ [] → ∃ mn mx, oneX itemsT rows [⟨3, noText, nm⟩, ⟨4, noText, nm⟩] = ([mn, mx], 0) ∧ mn ∈ valsOf c rows ∧ mx ∈ valsOf c rows ∧ ∀ v ∈ valsOf c rows, 0 ≤ cmpV v mn ∧ cmpV v mx ≤ 0) := by
  have h3 : aggX itemsT rows ⟨3, noText, nm⟩ = bestX (-1) (valsOf c rows) := by unfold aggX; simp only [pos_T h]; rfl
  have h4 : aggX itemsT rows ⟨4, noText, nm⟩ = bestX 1 (valsOf c rows) := by unfold aggX; simp only [pos_T h]; rfl
  constructor
  · intro e
    rw [oneX, h3, e]; rfl
  · intro hn
    obtain ⟨r, hr⟩ := List.exists_mem_of_ne_nil rows hn
    have hl := (hrowc r hr).len
    obtain ⟨v, hv⟩ : ∃ v, r[c]? = some v := ⟨_, List.getElem?_eq_getElem (by rw [hl]; show c < 3; omega)⟩
    have hm := valsOf_at hr hv
    obtain ⟨x, l, hxl⟩ : ∃ x l, valsOf c rows = x :: l := by
      cases hh : valsOf c rows with
      | nil => rw [hh] at hm; cases hm
      | cons x l => exact ⟨x, l, rfl⟩
    refine ⟨maxF (-1) x l, maxF 1 x l, ?_, ?_, ?_, fun v hv => ?_⟩
    · rw [oneX, h3, hxl]; simp only [bestX, oneX, h4, hxl]; simp
    · rw [hxl]; exact maxF_mem _ _ _
    · rw [hxl]; exact maxF_mem _ _ _
    · rw [hxl] at hv
      have a := maxF_top (s := -1) (.inr rfl) l x v hv
      have b := maxF_top (s := 1) (.inl rfl) l x v hv
      omega
theorem fold_sum {c : Nat} {nm : ByteArray} (h : (c = 1 ∧ nm = txt [118]) ∨ (c = 2 ∧ nm = txt [110])) (rows : List (List Val)) :
    oneX itemsT rows [⟨2, noText, nm⟩] = (if (sumX 0 (valsOf c rows)).2 ≠ 0 then ([], (sumX 0 (valsOf c rows)).2) else ([(sumX 0 (valsOf c rows)).1], 0)) := by
  have h3 : aggX itemsT rows ⟨2, noText, nm⟩ = sumX 0 (valsOf c rows) := by unfold aggX; simp only [pos_T h]; rfl
  rw [oneX, h3]; rfl
theorem fold_e (l : List Val) : (if (sumX 0 l).2 ≠ 0 then (([] : List Val), (sumX 0 l).2) else ([(sumX 0 l).1], 0)).2 = (sumX 0 l).2 := by
  split
  · rfl
  · rename_i h
    exact (Decidable.not_not.1 h).symm
theorem kind_col {c : Nat} {kd : Int} (h : (c = 1 ∧ kd = 2) ∨ (c = 2 ∧ kd = 1)) {rows : List (List Val)} (hrowc : ∀ r ∈ rows, RowC colsT r) {v : Val} (hv : v ∈ valsOf c rows) : KindV kd v := by
  obtain ⟨r, hr, hrv⟩ := valsOf_from hv
  rcases h with ⟨rfl, rfl⟩ | ⟨rfl, rfl⟩
  · exact (hrowc r hr).kind 1 ⟨txt [118], 2, noText⟩ v rfl hrv
  · exact (hrowc r hr).kind 2 ⟨txt [110], 1, noText⟩ v rfl hrv
set_option maxHeartbeats 4000000 in
theorem folds_all (s1 : Src) (n : Int) (text : Bool) (V : View) (h1 : s1.as V) (hn : 0 ≤ n ∧ n ≤ 255) : PSpec 12 [s1.slice, .int .u8 n, .bool text] V (fun v _ => v = .bool true) := by
  cases text
  · refine does_of_zfun [(22, [(0, []), (1, []), (2, []), (3, []), (4, []), (5, []), (6, []), (7, []), (8, []), (9, []), (10, []), (11, []), (12, []), (13, []), (14, []), (15, []), (16, []), (17, [])]), (24, [(0, []), (1, []), (2, []), (3, []), (4, []), (5, []), (6, []), (7, []), (8, []), (9, []), (10, []), (11, []), (12, []), (13, []), (14, []), (15, []), (16, []), (17, []), (18, []), (19, []), (20, []), (21, [])]), (30, [(0, []), (1, []), (2, []), (3, []), (4, []), (5, []), (6, []), (7, []), (8, []), (9, []), (10, []), (11, [])]), (31, [(0, []), (1, []), (2, []), (3, []), (4, []), (5, []), (6, []), (7, []), (8, []), (9, []), (10, []), (11, [])]), (36, [(0, []), (1, []), (2, []), (3, []), (4, []), (5, []), (6, []), (7, []), (8, []), (9, []), (10, []), (11, []), (12, []), (13, []), (14, []), (15, []), (16, []), (17, [])])] mixed (args := [.v _, .v _, .v _]) (ms := []) Try.func12 (by kernel_rfl) rfl ?_
    conv => whnf
    refine CallN.pure (begun12_spec _) fun v V1 _ hV1 hv => ?_
    subst hv
    conv => whnf
    repeat' first
      | (refine br_t rfl ?_; conv => whnf)
      | (refine br_f rfl ?_; conv => whnf)
      | (refine IdxN.lit rfl rfl ?_; conv => whnf)
      | (intro _; conv => whnf)
    apply br <;> intro g1 <;> conv => whnf
    · exact ret_pure rfl
    have g1 : s1.l.length ≤ 60 := by have := of_decide_eq_false g1; omega
    have ok1 := h1.ok g1 (by decide)
    refine CallN.pure (schema_spec _) fun v V2 _ hV2 ⟨r, p, q, p2, hv, t1, t2, t3⟩ => ?_
    subst hv
    conv => whnf
    repeat' first
      | (refine br_t rfl ?_; conv => whnf)
      | (refine br_f rfl ?_; conv => whnf)
      | (refine IdxN.lit rfl rfl ?_; conv => whnf)
      | (intro _; conv => whnf)
    refine LoadN.of (t1.mono (by repeat (first | exact View.le_refl _ | assumption | exact View.addU_le _ _ _ | refine View.le_trans ?_ (by assumption) | refine View.le_trans ?_ (View.addU_le _ _ _)))) 0 rfl rfl ?_
    conv => whnf
    repeat' first
      | (refine br_t rfl ?_; conv => whnf)
      | (refine br_f rfl ?_; conv => whnf)
      | (refine IdxN.lit rfl rfl ?_; conv => whnf)
      | (intro _; conv => whnf)
    rename_i bt
    have hlie : ColsLie V2 colsT p := colsLie_T t2
    refine CallN.pure (rowsC_spec s1 colsT (txt [116]) p 3 3 (some ⟨q, 0, none⟩) 1 1 12 _ (ok1.mono (by repeat (first | exact View.le_refl _ | assumption | exact View.addU_le _ _ _ | refine View.le_trans ?_ (by assumption) | refine View.le_trans ?_ (View.addU_le _ _ _)))) (hlie.mono (by repeat (first | exact View.le_refl _ | assumption | exact View.addU_le _ _ _ | refine View.le_trans ?_ (by assumption) | refine View.le_trans ?_ (View.addU_le _ _ _)))) rfl (by decide)) fun v V3 _ hV3 ⟨rows, rb, rc, hv, hrc, hrp, hrows, hrowc, hrlen⟩ => ?_
    subst hv
    conv => whnf
    repeat' first
      | (refine br_t rfl ?_; conv => whnf)
      | (refine br_f rfl ?_; conv => whnf)
      | (refine IdxN.lit rfl rfl ?_; conv => whnf)
      | (intro _; conv => whnf)
    refine LoadN.of (t2.mono (by repeat (first | exact View.le_refl _ | assumption | exact View.addU_le _ _ _ | refine View.le_trans ?_ (by assumption) | refine View.le_trans ?_ (View.addU_le _ _ _)))) 6 rfl rfl ?_
    conv => whnf
    repeat' first
      | (refine br_t rfl ?_; conv => whnf)
      | (refine br_f rfl ?_; conv => whnf)
      | (refine IdxN.lit rfl rfl ?_; conv => whnf)
      | (intro _; conv => whnf)
    rename_i lz Vz hVz hlz bs
    have hcn : (2 = 1 ∧ (txt [110]) = txt [118]) ∨ (2 = 2 ∧ (txt [110]) = txt [110]) := by simp
    have hck : (2 = 1 ∧ (1 : Int) = 2) ∨ (2 = 2 ∧ (1 : Int) = 1) := by simp
    refine CallN.pure (fold_spec rows rows.length rfl rb rc p q ⟨3, noText, (txt [110])⟩ [⟨4, noText, (txt [110])⟩] lz 2 2 _ (by decide) rfl hlz (by decide) (hlie.mono (by repeat (first | exact View.le_refl _ | assumption | exact View.addU_le _ _ _ | refine View.le_trans ?_ (by assumption) | refine View.le_trans ?_ (View.addU_le _ _ _)))) (hrows.mono (by repeat (first | exact View.le_refl _ | assumption | exact View.addU_le _ _ _ | refine View.le_trans ?_ (by assumption) | refine View.le_trans ?_ (View.addU_le _ _ _)))) (by omega) hrowc) fun v V4 _ hV4 ⟨m, e, hv, he, hok, hbad⟩ => ?_
    subst hv
    conv => whnf
    obtain ⟨hmm1, hmm2⟩ := fold_mm hcn rows hrowc
    apply br <;> intro g2 <;> conv => whnf
    · have g2 : rows = [] := List.eq_nil_of_length_eq_zero (by have := beq_iff_eq.1 g2; omega)
      have he : e = 23 := by rw [he]; exact hmm1 g2
      subst he
      have hm := hbad (by decide)
      subst hm
      repeat' first
        | (refine br_t rfl ?_; conv => whnf)
        | (refine br_f rfl ?_; conv => whnf)
        | (refine IdxN.lit rfl rfl ?_; conv => whnf)
        | (intro _; conv => whnf)
      exact ret_pure rfl
    have g2 : rows ≠ [] := fun e => by subst e; exact absurd g2 (by decide)
    obtain ⟨mn, mx, hone, hmn, hmx, hall⟩ := hmm2 g2
    rw [hone] at he hok
    simp only at he hok
    subst he
    obtain ⟨mp, mo, mc, mp2, mo2, mc2, hm, hm1, hm2, hm3⟩ := one_at (hok rfl) (by simp)
    subst hm
    conv => whnf
    repeat' first
      | (refine br_t rfl ?_; conv => whnf)
      | (refine br_f rfl ?_; conv => whnf)
      | (refine IdxN.lit rfl rfl ?_; conv => whnf)
      | (intro _; conv => whnf)
    refine LoadN.of (hm1.mono (by repeat (first | exact View.le_refl _ | assumption | exact View.addU_le _ _ _ | refine View.le_trans ?_ (by assumption) | refine View.le_trans ?_ (View.addU_le _ _ _)))) 0 rfl rfl ?_
    conv => whnf
    repeat' first
      | (refine br_t rfl ?_; conv => whnf)
      | (refine br_f rfl ?_; conv => whnf)
      | (refine IdxN.lit rfl rfl ?_; conv => whnf)
      | (intro _; conv => whnf)
    obtain ⟨ip, io, hib⟩ : ∃ ip io, rb = some ⟨ip, io, none⟩ := by
      obtain ⟨r9, hr9⟩ := List.exists_mem_of_ne_nil rows g2
      obtain ⟨i9, h9, he9⟩ := List.getElem_of_mem hr9
      obtain ⟨ip, io, _, hb, _⟩ := hrows.at (i := i9) (r := r9) (by rw [List.getElem?_eq_getElem h9, he9])
      exact ⟨ip, io, hb⟩
    subst hib
    refine loopz (σ := Nat × Bool × Bool)
      (fun x => [(1, .v (.int .u8 n)), (2, .v (.bool false)), (7, .own 7 0), (8, .v (.slice (some ⟨ip, io, none⟩) rows.length rc)), (9, .v (.int .i64 (2 : Nat))), (10, .v (.string (txt [110]))), (12, .v (.slice (some ⟨mp, mo, none⟩) 1 mc)), (14, .v (.bool x.2.1)), (15, .v (.bool x.2.2)), (16, .v (.int .i64 x.1))])
      (fun x => [(7, .box bt 27 [.string (txt [116]), .slice (some ⟨p, 0, none⟩) 3 3, .slice (some ⟨q, 0, none⟩) 1 1])])
      (fun j x V' => V4.le V' ∧ x.1 ≤ rows.length ∧ rows.length - x.1 = j ∧ x.2.1 = (valsOf (2 : Nat) (rows.take x.1)).any (sameV · mn) ∧ x.2.2 = (valsOf (2 : Nat) (rows.take x.1)).any (sameV · mx))
      rows.length (0, false, false) ?_ ?_ ?_ ?_
    · repeat' (first | exact sees_nil | refine sees_cons rfl rfl rfl ?_)
    · repeat' (first | exact keeps_nil | refine keeps_cons rfl ?_ | refine keeps_free ?_)
    · exact ⟨View.le_refl _, Nat.zero_le _, rfl, rfl, rfl⟩
    rintro j ⟨i, least, most⟩ V' ⟨hV, hi, hj, hl, hm⟩
    simp only at hi hj hl hm
    conv => whnf
    apply br <;> intro g3 <;> conv => whnf
    · have hi0 : (i : Int) < rows.length := of_decide_eq_true g3
      have hi1 : i < rows.length := by omega
      obtain ⟨r1, hr1⟩ : ∃ r1, rows[i]? = some r1 := ⟨_, List.getElem?_eq_getElem hi1⟩
      have hrm := List.mem_of_getElem? hr1
      obtain ⟨v1, hv1⟩ : ∃ v1, r1[2]? = some v1 := ⟨_, List.getElem?_eq_getElem (by rw [(hrowc r1 hrm).len]; decide)⟩
      have hvm := valsOf_at hrm hv1
      have htake : valsOf (2 : Nat) (rows.take (i + 1)) = valsOf (2 : Nat) (rows.take i) ++ [v1] := by
        rw [List.take_add_one, hr1, valsOf_append]
        congr 1
        show (if _ then _ else _) ++ [] = _
        rw [if_pos (by decide), Int.toNat_natCast, hv1, List.append_nil]
      have hal := hall v1 hvm
      have k1 := kind_col hck hrowc hvm
      have k2 := kind_col hck hrowc hmn
      have k3 := kind_col hck hrowc hmx
      have hkd : (1 : Int) = 1 ∨ (1 : Int) = 2 := by decide
      have c1 : cmpR v1 mn = cmpV v1 mn := (cmpV_eq hkd k1 k2).symm
      have c2 : cmpR v1 mx = cmpV v1 mx := (cmpV_eq hkd k1 k3).symm
      obtain ⟨p9, off, c, hb9, hcell, hrow⟩ := hrows.at hr1
      obtain ⟨rbase, rcap, hrv, _, hrva⟩ := hrow
      obtain ⟨d9, dof, hb10, hrow9⟩ := hrva.at hv1
      simp only [Option.some.injEq, Addr.mk.injEq] at hb9
      obtain ⟨rfl, rfl, _⟩ := hb9
      subst hrv; subst hb10
      have hrl := (hrowc r1 hrm).len
      have hrl : r1.length = 3 := hrl
      rw [hrl] at hcell
      refine IdxN.of (by omega) (by omega) ?_
      conv => whnf
      refine LoadN.of (hcell.mono (by repeat (first | exact View.le_refl _ | assumption | exact View.addU_le _ _ _ | refine View.le_trans ?_ (by assumption) | refine View.le_trans ?_ (View.addU_le _ _ _)))) 0 (by show io + i * 1 = io + i + 0; omega) rfl ?_
      conv => whnf
      repeat' first
        | (refine br_t rfl ?_; conv => whnf)
        | (refine br_f rfl ?_; conv => whnf)
        | (refine IdxN.lit rfl rfl ?_; conv => whnf)
        | (intro _; conv => whnf)
      refine LoadN.of (hrow9.mono (by repeat (first | exact View.le_refl _ | assumption | exact View.addU_le _ _ _ | refine View.le_trans ?_ (by assumption) | refine View.le_trans ?_ (View.addU_le _ _ _)))) 0 rfl rfl ?_
      conv => whnf
      repeat' first
        | (refine br_t rfl ?_; conv => whnf)
        | (refine br_f rfl ?_; conv => whnf)
        | (refine IdxN.lit rfl rfl ?_; conv => whnf)
        | (intro _; conv => whnf)
      have d1 : decide (cmpR v1 mn < 0) = false := decide_eq_false (by rw [c1]; omega)
      have d2 : decide (cmpR v1 mx > 0) = false := decide_eq_false (by rw [c2]; omega)
      repeat' (first | (refine br_f d1 ?_; conv => whnf) | (refine br_f d2 ?_; conv => whnf) | (refine br_t rfl ?_; conv => whnf) | (refine br_f rfl ?_; conv => whnf) | (refine IdxN.lit rfl rfl ?_; conv => whnf) | (refine LoadN.of (hm1.mono (by repeat (first | exact View.le_refl _ | assumption | exact View.addU_le _ _ _ | refine View.le_trans ?_ (by assumption) | refine View.le_trans ?_ (View.addU_le _ _ _)))) 0 rfl rfl ?_; conv => whnf) | (refine LoadN.of (hm2.mono (by repeat (first | exact View.le_refl _ | assumption | exact View.addU_le _ _ _ | refine View.le_trans ?_ (by assumption) | refine View.le_trans ?_ (View.addU_le _ _ _)))) 0 rfl rfl ?_; conv => whnf) | (refine LoadN.of (hm2.mono (by repeat (first | exact View.le_refl _ | assumption | exact View.addU_le _ _ _ | refine View.le_trans ?_ (by assumption) | refine View.le_trans ?_ (View.addU_le _ _ _)))) 3 rfl rfl ?_; conv => whnf) | (refine ⟨⟨_, eqv_run _ _ _ _, ?_⟩⟩; conv => whnf) | (intro _; conv => whnf))
      refine CallN.pure (rcmpv_spec v1 mn k1.size _) fun v V5 _ hV5 hv => ?_
      subst hv
      refine Prot.refl ?_
      conv => whnf
      repeat' (first | (refine br_f d1 ?_; conv => whnf) | (refine br_f d2 ?_; conv => whnf) | (refine br_t rfl ?_; conv => whnf) | (refine br_f rfl ?_; conv => whnf) | (refine IdxN.lit rfl rfl ?_; conv => whnf) | (refine LoadN.of (hm1.mono (by repeat (first | exact View.le_refl _ | assumption | exact View.addU_le _ _ _ | refine View.le_trans ?_ (by assumption) | refine View.le_trans ?_ (View.addU_le _ _ _)))) 0 rfl rfl ?_; conv => whnf) | (refine LoadN.of (hm2.mono (by repeat (first | exact View.le_refl _ | assumption | exact View.addU_le _ _ _ | refine View.le_trans ?_ (by assumption) | refine View.le_trans ?_ (View.addU_le _ _ _)))) 0 rfl rfl ?_; conv => whnf) | (refine LoadN.of (hm2.mono (by repeat (first | exact View.le_refl _ | assumption | exact View.addU_le _ _ _ | refine View.le_trans ?_ (by assumption) | refine View.le_trans ?_ (View.addU_le _ _ _)))) 3 rfl rfl ?_; conv => whnf) | (refine ⟨⟨_, eqv_run _ _ _ _, ?_⟩⟩; conv => whnf) | (intro _; conv => whnf))
      refine CallN.pure (rcmpv_spec v1 mx k1.size _) fun v V6 _ hV6 hv => ?_
      subst hv
      refine Prot.refl ?_
      conv => whnf
      repeat' (first | (refine br_f d1 ?_; conv => whnf) | (refine br_f d2 ?_; conv => whnf) | (refine br_t rfl ?_; conv => whnf) | (refine br_f rfl ?_; conv => whnf) | (refine IdxN.lit rfl rfl ?_; conv => whnf) | (refine LoadN.of (hm1.mono (by repeat (first | exact View.le_refl _ | assumption | exact View.addU_le _ _ _ | refine View.le_trans ?_ (by assumption) | refine View.le_trans ?_ (View.addU_le _ _ _)))) 0 rfl rfl ?_; conv => whnf) | (refine LoadN.of (hm2.mono (by repeat (first | exact View.le_refl _ | assumption | exact View.addU_le _ _ _ | refine View.le_trans ?_ (by assumption) | refine View.le_trans ?_ (View.addU_le _ _ _)))) 0 rfl rfl ?_; conv => whnf) | (refine LoadN.of (hm2.mono (by repeat (first | exact View.le_refl _ | assumption | exact View.addU_le _ _ _ | refine View.le_trans ?_ (by assumption) | refine View.le_trans ?_ (View.addU_le _ _ _)))) 3 rfl rfl ?_; conv => whnf) | (refine ⟨⟨_, eqv_run _ _ _ _, ?_⟩⟩; conv => whnf) | (intro _; conv => whnf))
      have hwi := wrap_nat (i := i) (by omega)
      have hl' : (least || sameV v1 mn) = (valsOf (2 : Nat) (rows.take (i + 1))).any (sameV · mn) := by rw [htake, List.any_append, ← hl]; simp
      have hm' : (most || sameV v1 mx) = (valsOf (2 : Nat) (rows.take (i + 1))).any (sameV · mx) := by rw [htake, List.any_append, ← hm]; simp
      apply br <;> intro g4 <;> conv => whnf
      all_goals
        have g4 : least = _ := g4
        subst g4
        repeat' (first | (refine br_f d1 ?_; conv => whnf) | (refine br_f d2 ?_; conv => whnf) | (refine br_t rfl ?_; conv => whnf) | (refine br_f rfl ?_; conv => whnf) | (refine IdxN.lit rfl rfl ?_; conv => whnf) | (refine LoadN.of (hm1.mono (by repeat (first | exact View.le_refl _ | assumption | exact View.addU_le _ _ _ | refine View.le_trans ?_ (by assumption) | refine View.le_trans ?_ (View.addU_le _ _ _)))) 0 rfl rfl ?_; conv => whnf) | (refine LoadN.of (hm2.mono (by repeat (first | exact View.le_refl _ | assumption | exact View.addU_le _ _ _ | refine View.le_trans ?_ (by assumption) | refine View.le_trans ?_ (View.addU_le _ _ _)))) 0 rfl rfl ?_; conv => whnf) | (refine LoadN.of (hm2.mono (by repeat (first | exact View.le_refl _ | assumption | exact View.addU_le _ _ _ | refine View.le_trans ?_ (by assumption) | refine View.le_trans ?_ (View.addU_le _ _ _)))) 3 rfl rfl ?_; conv => whnf) | (refine ⟨⟨_, eqv_run _ _ _ _, ?_⟩⟩; conv => whnf) | (intro _; conv => whnf))
      all_goals
        apply br <;> intro g5 <;> conv => whnf
      all_goals
        have g5 : most = _ := g5
        subst g5
        repeat' (first | (refine br_f d1 ?_; conv => whnf) | (refine br_f d2 ?_; conv => whnf) | (refine br_t rfl ?_; conv => whnf) | (refine br_f rfl ?_; conv => whnf) | (refine IdxN.lit rfl rfl ?_; conv => whnf) | (refine LoadN.of (hm1.mono (by repeat (first | exact View.le_refl _ | assumption | exact View.addU_le _ _ _ | refine View.le_trans ?_ (by assumption) | refine View.le_trans ?_ (View.addU_le _ _ _)))) 0 rfl rfl ?_; conv => whnf) | (refine LoadN.of (hm2.mono (by repeat (first | exact View.le_refl _ | assumption | exact View.addU_le _ _ _ | refine View.le_trans ?_ (by assumption) | refine View.le_trans ?_ (View.addU_le _ _ _)))) 0 rfl rfl ?_; conv => whnf) | (refine LoadN.of (hm2.mono (by repeat (first | exact View.le_refl _ | assumption | exact View.addU_le _ _ _ | refine View.le_trans ?_ (by assumption) | refine View.le_trans ?_ (View.addU_le _ _ _)))) 3 rfl rfl ?_; conv => whnf) | (refine ⟨⟨_, eqv_run _ _ _ _, ?_⟩⟩; conv => whnf) | (intro _; conv => whnf))
        refine ⟨j - 1, (i + 1, _, _), by omega, ?_, ?_, View.le_trans hV (by repeat (first | exact View.le_refl _ | assumption | exact View.addU_le _ _ _ | refine View.le_trans ?_ (by assumption) | refine View.le_trans ?_ (View.addU_le _ _ _))), hi1, by show _ - (i + 1) = _; omega, hl', hm'⟩
        · repeat' (first | exact sees_nil | refine sees_cons rfl rfl rfl ?_ | refine sees_cons rfl rfl (by rw [← hwi]; rfl) ?_)
        · repeat' (first | exact keeps_nil | refine keeps_cons rfl ?_ | refine keeps_free ?_)
    · have hi0 : ¬ (i : Int) < rows.length := of_decide_eq_false g3
      rw [List.take_of_length_le (by omega)] at hl hm
      have hl : least = true := by rw [hl, List.any_eq_true]; exact ⟨mn, hmn, sameV_self mn⟩
      have hm : most = true := by rw [hm, List.any_eq_true]; exact ⟨mx, hmx, sameV_self mx⟩
      subst hl; subst hm
      repeat' first
        | (refine br_t rfl ?_; conv => whnf)
        | (refine br_f rfl ?_; conv => whnf)
        | (refine IdxN.lit rfl rfl ?_; conv => whnf)
        | (intro _; conv => whnf)
      rename_i lz2 Vz2 hVz2 hlz2 b18
      have hlz2 : Vz2.has lz2 0 ([⟨2, noText, txt [110]⟩].flatMap icells) := hlz2
      have hw1 : IntKind.i64.wrap ((rows.length : Int) + 1) = ((rows.length + 1 : Nat) : Int) := wrap_nat (by omega)
      have hw2 : IntKind.i64.wrap n = n := by rw [wrapE]; omega
      have hpos : IntKind.i64.wrap ((rows.length : Int) + 1) ≠ 0 := by rw [hw1]; omega
      obtain ⟨k, hk⟩ := Int.eq_ofNat_of_zero_le (Int.tmod_nonneg (a := IntKind.i64.wrap n) (IntKind.i64.wrap ((rows.length : Int) + 1)) (by rw [hw2]; exact hn.1))
      have hk1 : k ≤ rows.length := by
        have := Int.tmod_lt_of_pos (IntKind.i64.wrap n) (b := IntKind.i64.wrap ((rows.length : Int) + 1)) (by rw [hw1]; omega)
        rw [hk, hw1] at this
        omega
      refine ⟨⟨_, rem_to hpos hk _ _, ?_⟩⟩
      conv => whnf
      repeat' first
        | (refine br_t rfl ?_; conv => whnf)
        | (refine br_f rfl ?_; conv => whnf)
        | (refine IdxN.lit rfl rfl ?_; conv => whnf)
        | (intro _; conv => whnf)
      have hT := fold_sum (c := 2) (.inr ⟨rfl, rfl⟩)
      refine CallN.pure (fold_spec rows rows.length rfl (some ⟨ip, io, none⟩) rc p q ⟨2, noText, txt [110]⟩ [] lz2 1 1 _ (by decide) rfl (hlz2.mono (by repeat (first | exact View.le_refl _ | assumption | exact View.addU_le _ _ _ | refine View.le_trans ?_ (by assumption) | refine View.le_trans ?_ (View.addU_le _ _ _)))) (by decide) (hlie.mono (by repeat (first | exact View.le_refl _ | assumption | exact View.addU_le _ _ _ | refine View.le_trans ?_ (by assumption) | refine View.le_trans ?_ (View.addU_le _ _ _)))) (hrows.mono (by repeat (first | exact View.le_refl _ | assumption | exact View.addU_le _ _ _ | refine View.le_trans ?_ (by assumption) | refine View.le_trans ?_ (View.addU_le _ _ _)))) (by omega) hrowc) fun v V5 _ hV5 ⟨a, ea, hv, he1, hok1, hbad1⟩ => ?_
      subst hv
      conv => whnf
      repeat' first
        | (refine br_t rfl ?_; conv => whnf)
        | (refine br_f rfl ?_; conv => whnf)
        | (refine IdxN.lit rfl rfl ?_; conv => whnf)
        | (intro _; conv => whnf)
      refine ⟨⟨_, fun w => slice_hi _ ip io rows.length rc k under63 size63 (by omega) w, ?_⟩⟩
      conv => whnf
      repeat' first
        | (refine br_t rfl ?_; conv => whnf)
        | (refine br_f rfl ?_; conv => whnf)
        | (refine IdxN.lit rfl rfl ?_; conv => whnf)
        | (intro _; conv => whnf)
      refine CallN.pure (fold_spec (rows.take k) k (by rw [List.length_take]; omega) (some ⟨ip, io, none⟩) rc p q ⟨2, noText, txt [110]⟩ [] lz2 1 1 _ (by decide) rfl (hlz2.mono (by repeat (first | exact View.le_refl _ | assumption | exact View.addU_le _ _ _ | refine View.le_trans ?_ (by assumption) | refine View.le_trans ?_ (View.addU_le _ _ _)))) (by decide) (hlie.mono (by repeat (first | exact View.le_refl _ | assumption | exact View.addU_le _ _ _ | refine View.le_trans ?_ (by assumption) | refine View.le_trans ?_ (View.addU_le _ _ _)))) ((hrows.take k).mono (by repeat (first | exact View.le_refl _ | assumption | exact View.addU_le _ _ _ | refine View.le_trans ?_ (by assumption) | refine View.le_trans ?_ (View.addU_le _ _ _)))) (by rw [List.length_take]; omega) (fun r h => hrowc r (List.mem_of_mem_take h))) fun v V6 _ hV6 ⟨b, eb, hv, he2, hok2, hbad2⟩ => ?_
      subst hv
      refine Prot.refl ?_
      conv => whnf
      repeat' first
        | (refine br_t rfl ?_; conv => whnf)
        | (refine br_f rfl ?_; conv => whnf)
        | (refine IdxN.lit rfl rfl ?_; conv => whnf)
        | (intro _; conv => whnf)
      refine ⟨⟨_, fun w => slice_lo _ ip io rows.length rc k under63 size63 hk1 w, ?_⟩⟩
      conv => whnf
      repeat' first
        | (refine br_t rfl ?_; conv => whnf)
        | (refine br_f rfl ?_; conv => whnf)
        | (refine IdxN.lit rfl rfl ?_; conv => whnf)
        | (intro _; conv => whnf)
      refine CallN.pure (fold_spec (rows.drop k) (rows.length - k) (by rw [List.length_drop]) (some ⟨ip, if rc = k then io else io + k, none⟩) (rc - k) p q ⟨2, noText, txt [110]⟩ [] lz2 1 1 _ (by decide) rfl (hlz2.mono (by repeat (first | exact View.le_refl _ | assumption | exact View.addU_le _ _ _ | refine View.le_trans ?_ (by assumption) | refine View.le_trans ?_ (View.addU_le _ _ _)))) (by decide) (hlie.mono (by repeat (first | exact View.le_refl _ | assumption | exact View.addU_le _ _ _ | refine View.le_trans ?_ (by assumption) | refine View.le_trans ?_ (View.addU_le _ _ _)))) ((hrows.drop k _ (fun h => if_neg (by omega))).mono (by repeat (first | exact View.le_refl _ | assumption | exact View.addU_le _ _ _ | refine View.le_trans ?_ (by assumption) | refine View.le_trans ?_ (View.addU_le _ _ _)))) (by rw [List.length_drop]; omega) (fun r h => hrowc r (List.mem_of_mem_drop h))) fun v V7 _ hV7 ⟨d, ed, hv, he3, hok3, hbad3⟩ => ?_
      subst hv
      refine Prot.refl ?_
      rw [hT] at he1 hok1 he2 hok2 he3 hok3
      have hcol := valsOf_take ((2 : Nat) : Int) rows k
      generalize valsOf ((2 : Nat) : Int) rows = cA at *
      generalize valsOf ((2 : Nat) : Int) (rows.take k) = cB at *
      generalize valsOf ((2 : Nat) : Int) (rows.drop k) = cC at *
      have f1 := sumX_ok cA 0
      have f2 := sumX_ok cB 0
      have f3 := sumX_ok cC 0
      have e1 : ea = (sumX 0 cA).2 := by rw [he1, fold_e]
      have e2 : eb = (sumX 0 cB).2 := by rw [he2, fold_e]
      have e3 : ed = (sumX 0 cC).2 := by rw [he3, fold_e]
      have ff : ea = 0 → eb = 0 := fun h => by rw [e2]; exact sumX_front cB cC 0 (by rw [← hcol, ← e1, h])
      rw [← e1] at f1; rw [← e2] at f2; rw [← e3] at f3
      rcases f1 with f1 | f1
      · have f2 := ff f1
        subst f1; subst f2
        rcases f3 with f3 | f3
        · subst f3
          rw [if_neg (by rw [← e1]; simp)] at hok1
          rw [if_neg (by rw [← e2]; simp)] at hok2
          rw [if_neg (by rw [← e3]; simp)] at hok3
          have i0 : InR 0 := ⟨by decide, by decide⟩
          obtain ⟨sA, rA⟩ := sumX_val cA 0 i0 e1.symm
          obtain ⟨sB, rB⟩ := sumX_val cB 0 i0 e2.symm
          obtain ⟨sC, rC⟩ := sumX_val cC 0 i0 e3.symm
          rw [sA] at hok1; rw [sB] at hok2; rw [sC] at hok3
          obtain ⟨ap, ao, ac, ap2, ao2, ac2, ha, ha1, ha2, ha3⟩ := one_at (hok1 rfl) (by simp)
          obtain ⟨bp, bo, bc, bp2, bo2, bc2, hb, hb1, hb2, hb3⟩ := one_at (hok2 rfl) (by simp)
          obtain ⟨dp, do', dc, dp2, do2, dc2, hd, hd1, hd2, hd3⟩ := one_at (hok3 rfl) (by simp)
          subst ha; subst hb; subst hd
          conv => whnf
          repeat' first
            | (refine br_t rfl ?_; conv => whnf)
            | (refine br_f rfl ?_; conv => whnf)
            | (refine IdxN.lit rfl rfl ?_; conv => whnf)
            | (intro _; conv => whnf)
          refine CallN.pure (oneR1_spec _ _ _ _ (ha3.mono (by repeat (first | exact View.le_refl _ | assumption | exact View.addU_le _ _ _ | refine View.le_trans ?_ (by assumption) | refine View.le_trans ?_ (View.addU_le _ _ _)))) rfl) fun v V8 _ hV8 hv => ?_
          subst hv
          conv => whnf
          repeat' first
            | (refine br_t rfl ?_; conv => whnf)
            | (refine br_f rfl ?_; conv => whnf)
            | (refine IdxN.lit rfl rfl ?_; conv => whnf)
            | (intro _; conv => whnf)
          refine CallN.pure (oneR1_spec _ _ _ _ (hb3.mono (by repeat (first | exact View.le_refl _ | assumption | exact View.addU_le _ _ _ | refine View.le_trans ?_ (by assumption) | refine View.le_trans ?_ (View.addU_le _ _ _)))) rfl) fun v V9 _ hV9 hv => ?_
          subst hv
          conv => whnf
          repeat' first
            | (refine br_t rfl ?_; conv => whnf)
            | (refine br_f rfl ?_; conv => whnf)
            | (refine IdxN.lit rfl rfl ?_; conv => whnf)
            | (intro _; conv => whnf)
          refine CallN.pure (oneR1_spec _ _ _ _ (hd3.mono (by repeat (first | exact View.le_refl _ | assumption | exact View.addU_le _ _ _ | refine View.le_trans ?_ (by assumption) | refine View.le_trans ?_ (View.addU_le _ _ _)))) rfl) fun v V10 _ hV10 hv => ?_
          subst hv
          conv => whnf
          repeat' first
            | (refine br_t rfl ?_; conv => whnf)
            | (refine br_f rfl ?_; conv => whnf)
            | (refine IdxN.lit rfl rfl ?_; conv => whnf)
            | (intro _; conv => whnf)
          refine LoadN.of (hb1.mono (by repeat (first | exact View.le_refl _ | assumption | exact View.addU_le _ _ _ | refine View.le_trans ?_ (by assumption) | refine View.le_trans ?_ (View.addU_le _ _ _)))) 0 rfl rfl ?_
          conv => whnf
          repeat' first
            | (refine br_t rfl ?_; conv => whnf)
            | (refine br_f rfl ?_; conv => whnf)
            | (refine IdxN.lit rfl rfl ?_; conv => whnf)
            | (intro _; conv => whnf)
          refine LoadN.of (hb2.mono (by repeat (first | exact View.le_refl _ | assumption | exact View.addU_le _ _ _ | refine View.le_trans ?_ (by assumption) | refine View.le_trans ?_ (View.addU_le _ _ _)))) 1 rfl rfl ?_
          conv => whnf
          repeat' first
            | (refine br_t rfl ?_; conv => whnf)
            | (refine br_f rfl ?_; conv => whnf)
            | (refine IdxN.lit rfl rfl ?_; conv => whnf)
            | (intro _; conv => whnf)
          refine LoadN.of (hd1.mono (by repeat (first | exact View.le_refl _ | assumption | exact View.addU_le _ _ _ | refine View.le_trans ?_ (by assumption) | refine View.le_trans ?_ (View.addU_le _ _ _)))) 0 rfl rfl ?_
          conv => whnf
          repeat' first
            | (refine br_t rfl ?_; conv => whnf)
            | (refine br_f rfl ?_; conv => whnf)
            | (refine IdxN.lit rfl rfl ?_; conv => whnf)
            | (intro _; conv => whnf)
          refine LoadN.of (hd2.mono (by repeat (first | exact View.le_refl _ | assumption | exact View.addU_le _ _ _ | refine View.le_trans ?_ (by assumption) | refine View.le_trans ?_ (View.addU_le _ _ _)))) 1 rfl rfl ?_
          conv => whnf
          refine CallN.pure (radd_spec (0 + nsum cB) (0 + nsum cC) rB rC _) fun v V11 _ hV11 hv => ?_
          have hsum : (0 + nsum cB) + (0 + nsum cC) = 0 + nsum cA := by rw [hcol, nsum_append]; omega
          have hfit : fits (0 + nsum cB + (0 + nsum cC)) = (0 + nsum cA, 0) := by
            rw [hsum]
            unfold fits
            exact if_pos rA
          rw [hfit] at hv
          subst hv
          refine Prot.refl ?_
          conv => whnf
          repeat' first
            | (refine br_t rfl ?_; conv => whnf)
            | (refine br_f rfl ?_; conv => whnf)
            | (refine IdxN.lit rfl rfl ?_; conv => whnf)
            | (intro _; conv => whnf)
          refine LoadN.of (ha1.mono (by repeat (first | exact View.le_refl _ | assumption | exact View.addU_le _ _ _ | refine View.le_trans ?_ (by assumption) | refine View.le_trans ?_ (View.addU_le _ _ _)))) 0 rfl rfl ?_
          conv => whnf
          repeat' first
            | (refine br_t rfl ?_; conv => whnf)
            | (refine br_f rfl ?_; conv => whnf)
            | (refine IdxN.lit rfl rfl ?_; conv => whnf)
            | (intro _; conv => whnf)
          refine LoadN.of (ha2.mono (by repeat (first | exact View.le_refl _ | assumption | exact View.addU_le _ _ _ | refine View.le_trans ?_ (by assumption) | refine View.le_trans ?_ (View.addU_le _ _ _)))) 1 rfl rfl ?_
          conv => whnf
          refine ret_pure ?_
          show Value.bool ((0 + nsum cA) == (0 + nsum cA)) = _
          rw [beq_self_eq_true]
        · subst f3
          conv => whnf
          repeat' first
            | (refine br_t rfl ?_; conv => whnf)
            | (refine br_f rfl ?_; conv => whnf)
            | (refine IdxN.lit rfl rfl ?_; conv => whnf)
            | (intro _; conv => whnf)
          exact ret_pure rfl
      · subst f1
        rcases f2 with f2 | f2 <;> rcases f3 with f3 | f3 <;> subst f2 <;> subst f3 <;> conv => whnf
        all_goals
          repeat' first
            | (refine br_t rfl ?_; conv => whnf)
            | (refine br_f rfl ?_; conv => whnf)
            | (refine IdxN.lit rfl rfl ?_; conv => whnf)
            | (intro _; conv => whnf)
          exact ret_pure rfl
  · refine does_of_zfun [(22, [(0, []), (1, []), (2, []), (3, []), (4, []), (5, []), (6, []), (7, []), (8, []), (9, []), (10, []), (11, []), (12, []), (13, []), (14, []), (15, []), (16, []), (17, [])]), (24, [(0, []), (1, []), (2, []), (3, []), (4, []), (5, []), (6, []), (7, []), (8, []), (9, []), (10, []), (11, []), (12, []), (13, []), (14, []), (15, []), (16, []), (17, []), (18, []), (19, []), (20, []), (21, [])]), (30, [(0, []), (1, []), (2, []), (3, []), (4, []), (5, []), (6, []), (7, []), (8, []), (9, []), (10, []), (11, [])]), (31, [(0, []), (1, []), (2, []), (3, []), (4, []), (5, []), (6, []), (7, []), (8, []), (9, []), (10, []), (11, [])]), (36, [(0, []), (1, []), (2, []), (3, []), (4, []), (5, []), (6, []), (7, []), (8, []), (9, []), (10, []), (11, []), (12, []), (13, []), (14, []), (15, []), (16, []), (17, [])])] mixed (args := [.v _, .v _, .v _]) (ms := []) Try.func12 (by kernel_rfl) rfl ?_
    conv => whnf
    refine CallN.pure (begun12_spec _) fun v V1 _ hV1 hv => ?_
    subst hv
    conv => whnf
    repeat' first
      | (refine br_t rfl ?_; conv => whnf)
      | (refine br_f rfl ?_; conv => whnf)
      | (refine IdxN.lit rfl rfl ?_; conv => whnf)
      | (intro _; conv => whnf)
    apply br <;> intro g1 <;> conv => whnf
    · exact ret_pure rfl
    have g1 : s1.l.length ≤ 60 := by have := of_decide_eq_false g1; omega
    have ok1 := h1.ok g1 (by decide)
    refine CallN.pure (schema_spec _) fun v V2 _ hV2 ⟨r, p, q, p2, hv, t1, t2, t3⟩ => ?_
    subst hv
    conv => whnf
    repeat' first
      | (refine br_t rfl ?_; conv => whnf)
      | (refine br_f rfl ?_; conv => whnf)
      | (refine IdxN.lit rfl rfl ?_; conv => whnf)
      | (intro _; conv => whnf)
    refine LoadN.of (t1.mono (by repeat (first | exact View.le_refl _ | assumption | exact View.addU_le _ _ _ | refine View.le_trans ?_ (by assumption) | refine View.le_trans ?_ (View.addU_le _ _ _)))) 0 rfl rfl ?_
    conv => whnf
    repeat' first
      | (refine br_t rfl ?_; conv => whnf)
      | (refine br_f rfl ?_; conv => whnf)
      | (refine IdxN.lit rfl rfl ?_; conv => whnf)
      | (intro _; conv => whnf)
    rename_i bt
    have hlie : ColsLie V2 colsT p := colsLie_T t2
    refine CallN.pure (rowsC_spec s1 colsT (txt [116]) p 3 3 (some ⟨q, 0, none⟩) 1 1 12 _ (ok1.mono (by repeat (first | exact View.le_refl _ | assumption | exact View.addU_le _ _ _ | refine View.le_trans ?_ (by assumption) | refine View.le_trans ?_ (View.addU_le _ _ _)))) (hlie.mono (by repeat (first | exact View.le_refl _ | assumption | exact View.addU_le _ _ _ | refine View.le_trans ?_ (by assumption) | refine View.le_trans ?_ (View.addU_le _ _ _)))) rfl (by decide)) fun v V3 _ hV3 ⟨rows, rb, rc, hv, hrc, hrp, hrows, hrowc, hrlen⟩ => ?_
    subst hv
    conv => whnf
    repeat' first
      | (refine br_t rfl ?_; conv => whnf)
      | (refine br_f rfl ?_; conv => whnf)
      | (refine IdxN.lit rfl rfl ?_; conv => whnf)
      | (intro _; conv => whnf)
    refine LoadN.of (t2.mono (by repeat (first | exact View.le_refl _ | assumption | exact View.addU_le _ _ _ | refine View.le_trans ?_ (by assumption) | refine View.le_trans ?_ (View.addU_le _ _ _)))) 3 rfl rfl ?_
    conv => whnf
    repeat' first
      | (refine br_t rfl ?_; conv => whnf)
      | (refine br_f rfl ?_; conv => whnf)
      | (refine IdxN.lit rfl rfl ?_; conv => whnf)
      | (intro _; conv => whnf)
    rename_i lz Vz hVz hlz bs
    have hcn : (1 = 1 ∧ (txt [118]) = txt [118]) ∨ (1 = 2 ∧ (txt [118]) = txt [110]) := by simp
    have hck : (1 = 1 ∧ (2 : Int) = 2) ∨ (1 = 2 ∧ (2 : Int) = 1) := by simp
    refine CallN.pure (fold_spec rows rows.length rfl rb rc p q ⟨3, noText, (txt [118])⟩ [⟨4, noText, (txt [118])⟩] lz 2 2 _ (by decide) rfl hlz (by decide) (hlie.mono (by repeat (first | exact View.le_refl _ | assumption | exact View.addU_le _ _ _ | refine View.le_trans ?_ (by assumption) | refine View.le_trans ?_ (View.addU_le _ _ _)))) (hrows.mono (by repeat (first | exact View.le_refl _ | assumption | exact View.addU_le _ _ _ | refine View.le_trans ?_ (by assumption) | refine View.le_trans ?_ (View.addU_le _ _ _)))) (by omega) hrowc) fun v V4 _ hV4 ⟨m, e, hv, he, hok, hbad⟩ => ?_
    subst hv
    conv => whnf
    obtain ⟨hmm1, hmm2⟩ := fold_mm hcn rows hrowc
    apply br <;> intro g2 <;> conv => whnf
    · have g2 : rows = [] := List.eq_nil_of_length_eq_zero (by have := beq_iff_eq.1 g2; omega)
      have he : e = 23 := by rw [he]; exact hmm1 g2
      subst he
      have hm := hbad (by decide)
      subst hm
      repeat' first
        | (refine br_t rfl ?_; conv => whnf)
        | (refine br_f rfl ?_; conv => whnf)
        | (refine IdxN.lit rfl rfl ?_; conv => whnf)
        | (intro _; conv => whnf)
      exact ret_pure rfl
    have g2 : rows ≠ [] := fun e => by subst e; exact absurd g2 (by decide)
    obtain ⟨mn, mx, hone, hmn, hmx, hall⟩ := hmm2 g2
    rw [hone] at he hok
    simp only at he hok
    subst he
    obtain ⟨mp, mo, mc, mp2, mo2, mc2, hm, hm1, hm2, hm3⟩ := one_at (hok rfl) (by simp)
    subst hm
    conv => whnf
    repeat' first
      | (refine br_t rfl ?_; conv => whnf)
      | (refine br_f rfl ?_; conv => whnf)
      | (refine IdxN.lit rfl rfl ?_; conv => whnf)
      | (intro _; conv => whnf)
    refine LoadN.of (hm1.mono (by repeat (first | exact View.le_refl _ | assumption | exact View.addU_le _ _ _ | refine View.le_trans ?_ (by assumption) | refine View.le_trans ?_ (View.addU_le _ _ _)))) 0 rfl rfl ?_
    conv => whnf
    repeat' first
      | (refine br_t rfl ?_; conv => whnf)
      | (refine br_f rfl ?_; conv => whnf)
      | (refine IdxN.lit rfl rfl ?_; conv => whnf)
      | (intro _; conv => whnf)
    obtain ⟨ip, io, hib⟩ : ∃ ip io, rb = some ⟨ip, io, none⟩ := by
      obtain ⟨r9, hr9⟩ := List.exists_mem_of_ne_nil rows g2
      obtain ⟨i9, h9, he9⟩ := List.getElem_of_mem hr9
      obtain ⟨ip, io, _, hb, _⟩ := hrows.at (i := i9) (r := r9) (by rw [List.getElem?_eq_getElem h9, he9])
      exact ⟨ip, io, hb⟩
    subst hib
    refine loopz (σ := Nat × Bool × Bool)
      (fun x => [(1, .v (.int .u8 n)), (2, .v (.bool true)), (7, .own 7 0), (8, .v (.slice (some ⟨ip, io, none⟩) rows.length rc)), (9, .v (.int .i64 (1 : Nat))), (10, .v (.string (txt [118]))), (12, .v (.slice (some ⟨mp, mo, none⟩) 1 mc)), (14, .v (.bool x.2.1)), (15, .v (.bool x.2.2)), (16, .v (.int .i64 x.1))])
      (fun x => [(7, .box bt 27 [.string (txt [116]), .slice (some ⟨p, 0, none⟩) 3 3, .slice (some ⟨q, 0, none⟩) 1 1])])
      (fun j x V' => V4.le V' ∧ x.1 ≤ rows.length ∧ rows.length - x.1 = j ∧ x.2.1 = (valsOf (1 : Nat) (rows.take x.1)).any (sameV · mn) ∧ x.2.2 = (valsOf (1 : Nat) (rows.take x.1)).any (sameV · mx))
      rows.length (0, false, false) ?_ ?_ ?_ ?_
    · repeat' (first | exact sees_nil | refine sees_cons rfl rfl rfl ?_)
    · repeat' (first | exact keeps_nil | refine keeps_cons rfl ?_ | refine keeps_free ?_)
    · exact ⟨View.le_refl _, Nat.zero_le _, rfl, rfl, rfl⟩
    rintro j ⟨i, least, most⟩ V' ⟨hV, hi, hj, hl, hm⟩
    simp only at hi hj hl hm
    conv => whnf
    apply br <;> intro g3 <;> conv => whnf
    · have hi0 : (i : Int) < rows.length := of_decide_eq_true g3
      have hi1 : i < rows.length := by omega
      obtain ⟨r1, hr1⟩ : ∃ r1, rows[i]? = some r1 := ⟨_, List.getElem?_eq_getElem hi1⟩
      have hrm := List.mem_of_getElem? hr1
      obtain ⟨v1, hv1⟩ : ∃ v1, r1[1]? = some v1 := ⟨_, List.getElem?_eq_getElem (by rw [(hrowc r1 hrm).len]; decide)⟩
      have hvm := valsOf_at hrm hv1
      have htake : valsOf (1 : Nat) (rows.take (i + 1)) = valsOf (1 : Nat) (rows.take i) ++ [v1] := by
        rw [List.take_add_one, hr1, valsOf_append]
        congr 1
        show (if _ then _ else _) ++ [] = _
        rw [if_pos (by decide), Int.toNat_natCast, hv1, List.append_nil]
      have hal := hall v1 hvm
      have k1 := kind_col hck hrowc hvm
      have k2 := kind_col hck hrowc hmn
      have k3 := kind_col hck hrowc hmx
      have hkd : (2 : Int) = 1 ∨ (2 : Int) = 2 := by decide
      have c1 : cmpR v1 mn = cmpV v1 mn := (cmpV_eq hkd k1 k2).symm
      have c2 : cmpR v1 mx = cmpV v1 mx := (cmpV_eq hkd k1 k3).symm
      obtain ⟨p9, off, c, hb9, hcell, hrow⟩ := hrows.at hr1
      obtain ⟨rbase, rcap, hrv, _, hrva⟩ := hrow
      obtain ⟨d9, dof, hb10, hrow9⟩ := hrva.at hv1
      simp only [Option.some.injEq, Addr.mk.injEq] at hb9
      obtain ⟨rfl, rfl, _⟩ := hb9
      subst hrv; subst hb10
      have hrl := (hrowc r1 hrm).len
      have hrl : r1.length = 3 := hrl
      rw [hrl] at hcell
      refine IdxN.of (by omega) (by omega) ?_
      conv => whnf
      refine LoadN.of (hcell.mono (by repeat (first | exact View.le_refl _ | assumption | exact View.addU_le _ _ _ | refine View.le_trans ?_ (by assumption) | refine View.le_trans ?_ (View.addU_le _ _ _)))) 0 (by show io + i * 1 = io + i + 0; omega) rfl ?_
      conv => whnf
      repeat' first
        | (refine br_t rfl ?_; conv => whnf)
        | (refine br_f rfl ?_; conv => whnf)
        | (refine IdxN.lit rfl rfl ?_; conv => whnf)
        | (intro _; conv => whnf)
      refine LoadN.of (hrow9.mono (by repeat (first | exact View.le_refl _ | assumption | exact View.addU_le _ _ _ | refine View.le_trans ?_ (by assumption) | refine View.le_trans ?_ (View.addU_le _ _ _)))) 0 rfl rfl ?_
      conv => whnf
      repeat' first
        | (refine br_t rfl ?_; conv => whnf)
        | (refine br_f rfl ?_; conv => whnf)
        | (refine IdxN.lit rfl rfl ?_; conv => whnf)
        | (intro _; conv => whnf)
      have d1 : decide (cmpR v1 mn < 0) = false := decide_eq_false (by rw [c1]; omega)
      have d2 : decide (cmpR v1 mx > 0) = false := decide_eq_false (by rw [c2]; omega)
      repeat' (first | (refine br_f d1 ?_; conv => whnf) | (refine br_f d2 ?_; conv => whnf) | (refine br_t rfl ?_; conv => whnf) | (refine br_f rfl ?_; conv => whnf) | (refine IdxN.lit rfl rfl ?_; conv => whnf) | (refine LoadN.of (hm1.mono (by repeat (first | exact View.le_refl _ | assumption | exact View.addU_le _ _ _ | refine View.le_trans ?_ (by assumption) | refine View.le_trans ?_ (View.addU_le _ _ _)))) 0 rfl rfl ?_; conv => whnf) | (refine LoadN.of (hm2.mono (by repeat (first | exact View.le_refl _ | assumption | exact View.addU_le _ _ _ | refine View.le_trans ?_ (by assumption) | refine View.le_trans ?_ (View.addU_le _ _ _)))) 0 rfl rfl ?_; conv => whnf) | (refine LoadN.of (hm2.mono (by repeat (first | exact View.le_refl _ | assumption | exact View.addU_le _ _ _ | refine View.le_trans ?_ (by assumption) | refine View.le_trans ?_ (View.addU_le _ _ _)))) 3 rfl rfl ?_; conv => whnf) | (refine ⟨⟨_, eqv_run _ _ _ _, ?_⟩⟩; conv => whnf) | (intro _; conv => whnf))
      refine CallN.pure (rcmpv_spec v1 mn k1.size _) fun v V5 _ hV5 hv => ?_
      subst hv
      refine Prot.refl ?_
      conv => whnf
      repeat' (first | (refine br_f d1 ?_; conv => whnf) | (refine br_f d2 ?_; conv => whnf) | (refine br_t rfl ?_; conv => whnf) | (refine br_f rfl ?_; conv => whnf) | (refine IdxN.lit rfl rfl ?_; conv => whnf) | (refine LoadN.of (hm1.mono (by repeat (first | exact View.le_refl _ | assumption | exact View.addU_le _ _ _ | refine View.le_trans ?_ (by assumption) | refine View.le_trans ?_ (View.addU_le _ _ _)))) 0 rfl rfl ?_; conv => whnf) | (refine LoadN.of (hm2.mono (by repeat (first | exact View.le_refl _ | assumption | exact View.addU_le _ _ _ | refine View.le_trans ?_ (by assumption) | refine View.le_trans ?_ (View.addU_le _ _ _)))) 0 rfl rfl ?_; conv => whnf) | (refine LoadN.of (hm2.mono (by repeat (first | exact View.le_refl _ | assumption | exact View.addU_le _ _ _ | refine View.le_trans ?_ (by assumption) | refine View.le_trans ?_ (View.addU_le _ _ _)))) 3 rfl rfl ?_; conv => whnf) | (refine ⟨⟨_, eqv_run _ _ _ _, ?_⟩⟩; conv => whnf) | (intro _; conv => whnf))
      refine CallN.pure (rcmpv_spec v1 mx k1.size _) fun v V6 _ hV6 hv => ?_
      subst hv
      refine Prot.refl ?_
      conv => whnf
      repeat' (first | (refine br_f d1 ?_; conv => whnf) | (refine br_f d2 ?_; conv => whnf) | (refine br_t rfl ?_; conv => whnf) | (refine br_f rfl ?_; conv => whnf) | (refine IdxN.lit rfl rfl ?_; conv => whnf) | (refine LoadN.of (hm1.mono (by repeat (first | exact View.le_refl _ | assumption | exact View.addU_le _ _ _ | refine View.le_trans ?_ (by assumption) | refine View.le_trans ?_ (View.addU_le _ _ _)))) 0 rfl rfl ?_; conv => whnf) | (refine LoadN.of (hm2.mono (by repeat (first | exact View.le_refl _ | assumption | exact View.addU_le _ _ _ | refine View.le_trans ?_ (by assumption) | refine View.le_trans ?_ (View.addU_le _ _ _)))) 0 rfl rfl ?_; conv => whnf) | (refine LoadN.of (hm2.mono (by repeat (first | exact View.le_refl _ | assumption | exact View.addU_le _ _ _ | refine View.le_trans ?_ (by assumption) | refine View.le_trans ?_ (View.addU_le _ _ _)))) 3 rfl rfl ?_; conv => whnf) | (refine ⟨⟨_, eqv_run _ _ _ _, ?_⟩⟩; conv => whnf) | (intro _; conv => whnf))
      have hwi := wrap_nat (i := i) (by omega)
      have hl' : (least || sameV v1 mn) = (valsOf (1 : Nat) (rows.take (i + 1))).any (sameV · mn) := by rw [htake, List.any_append, ← hl]; simp
      have hm' : (most || sameV v1 mx) = (valsOf (1 : Nat) (rows.take (i + 1))).any (sameV · mx) := by rw [htake, List.any_append, ← hm]; simp
      apply br <;> intro g4 <;> conv => whnf
      all_goals
        have g4 : least = _ := g4
        subst g4
        repeat' (first | (refine br_f d1 ?_; conv => whnf) | (refine br_f d2 ?_; conv => whnf) | (refine br_t rfl ?_; conv => whnf) | (refine br_f rfl ?_; conv => whnf) | (refine IdxN.lit rfl rfl ?_; conv => whnf) | (refine LoadN.of (hm1.mono (by repeat (first | exact View.le_refl _ | assumption | exact View.addU_le _ _ _ | refine View.le_trans ?_ (by assumption) | refine View.le_trans ?_ (View.addU_le _ _ _)))) 0 rfl rfl ?_; conv => whnf) | (refine LoadN.of (hm2.mono (by repeat (first | exact View.le_refl _ | assumption | exact View.addU_le _ _ _ | refine View.le_trans ?_ (by assumption) | refine View.le_trans ?_ (View.addU_le _ _ _)))) 0 rfl rfl ?_; conv => whnf) | (refine LoadN.of (hm2.mono (by repeat (first | exact View.le_refl _ | assumption | exact View.addU_le _ _ _ | refine View.le_trans ?_ (by assumption) | refine View.le_trans ?_ (View.addU_le _ _ _)))) 3 rfl rfl ?_; conv => whnf) | (refine ⟨⟨_, eqv_run _ _ _ _, ?_⟩⟩; conv => whnf) | (intro _; conv => whnf))
      all_goals
        apply br <;> intro g5 <;> conv => whnf
      all_goals
        have g5 : most = _ := g5
        subst g5
        repeat' (first | (refine br_f d1 ?_; conv => whnf) | (refine br_f d2 ?_; conv => whnf) | (refine br_t rfl ?_; conv => whnf) | (refine br_f rfl ?_; conv => whnf) | (refine IdxN.lit rfl rfl ?_; conv => whnf) | (refine LoadN.of (hm1.mono (by repeat (first | exact View.le_refl _ | assumption | exact View.addU_le _ _ _ | refine View.le_trans ?_ (by assumption) | refine View.le_trans ?_ (View.addU_le _ _ _)))) 0 rfl rfl ?_; conv => whnf) | (refine LoadN.of (hm2.mono (by repeat (first | exact View.le_refl _ | assumption | exact View.addU_le _ _ _ | refine View.le_trans ?_ (by assumption) | refine View.le_trans ?_ (View.addU_le _ _ _)))) 0 rfl rfl ?_; conv => whnf) | (refine LoadN.of (hm2.mono (by repeat (first | exact View.le_refl _ | assumption | exact View.addU_le _ _ _ | refine View.le_trans ?_ (by assumption) | refine View.le_trans ?_ (View.addU_le _ _ _)))) 3 rfl rfl ?_; conv => whnf) | (refine ⟨⟨_, eqv_run _ _ _ _, ?_⟩⟩; conv => whnf) | (intro _; conv => whnf))
        refine ⟨j - 1, (i + 1, _, _), by omega, ?_, ?_, View.le_trans hV (by repeat (first | exact View.le_refl _ | assumption | exact View.addU_le _ _ _ | refine View.le_trans ?_ (by assumption) | refine View.le_trans ?_ (View.addU_le _ _ _))), hi1, by show _ - (i + 1) = _; omega, hl', hm'⟩
        · repeat' (first | exact sees_nil | refine sees_cons rfl rfl rfl ?_ | refine sees_cons rfl rfl (by rw [← hwi]; rfl) ?_)
        · repeat' (first | exact keeps_nil | refine keeps_cons rfl ?_ | refine keeps_free ?_)
    · have hi0 : ¬ (i : Int) < rows.length := of_decide_eq_false g3
      rw [List.take_of_length_le (by omega)] at hl hm
      have hl : least = true := by rw [hl, List.any_eq_true]; exact ⟨mn, hmn, sameV_self mn⟩
      have hm : most = true := by rw [hm, List.any_eq_true]; exact ⟨mx, hmx, sameV_self mx⟩
      subst hl; subst hm
      repeat' first
        | (refine br_t rfl ?_; conv => whnf)
        | (refine br_f rfl ?_; conv => whnf)
        | (refine IdxN.lit rfl rfl ?_; conv => whnf)
        | (intro _; conv => whnf)
      exact ret_pure rfl
end Go.Proofs.Ytenpginanhnkbaa
end
