/- One part of a proof: an evaluator of the model, shown right, and contracts that it yields. No condition beyond those that each theorem names. -/
import Derived.Test.YtenpginanhnkbaaCG
import Derived.Test.YtenpginanhnkbaaXY
section
set_option linter.unusedSimpArgs false
set_option linter.unusedVariables false
namespace Go.Proofs.Ytenpginanhnkbaa
open Go.X
set_option maxRecDepth 100000

/-! # Chapter 12: rows -/
/-- a slice's base, as the program makes it -/
def Plain (base : Option Addr) : Prop := base = none ∨ ∃ p off, base = some ⟨p, off, none⟩
/-- a row, as a value; one without values may lie anywhere -/
def PlainR (r : List Val) (base : Option Addr) : Prop := r = [] ∨ Plain base
def RowAt (V : View) (r : List Val) (v : Value) : Prop := ∃ base cap, v = .slice base r.length cap ∧ PlainR r base ∧ ValsAt V r base
theorem RowAt.mono {V V' : View} {r : List Val} {v : Value} (h : RowAt V r v) (hV : V.le V') : RowAt V' r v := by
  obtain ⟨base, cap, h1, hp, h2⟩ := h
  exact ⟨base, cap, h1, hp, h2.mono hV⟩
/-- rows, as cells -/
structure CellsAt (V : View) (rows : List (List Val)) (cells : List Value) : Prop where
  len : cells.length = rows.length
  at' : ∀ (i : Nat) (r : List Val) (c : Value), rows[i]? = some r → cells[i]? = some c → RowAt V r c
theorem CellsAt.mono {V V' : View} {rows : List (List Val)} {cells : List Value} (h : CellsAt V rows cells) (hV : V.le V') : CellsAt V' rows cells := ⟨h.len, fun i r c h1 h2 => (h.at' i r c h1 h2).mono hV⟩
theorem CellsAt.nil {V : View} : CellsAt V [] [] := ⟨rfl, fun i r c h => by simp at h⟩
theorem CellsAt.snoc {V : View} {rows : List (List Val)} {cells : List Value} {r : List Val} {c : Value} (h : CellsAt V rows cells) (hr : RowAt V r c) : CellsAt V (rows ++ [r]) (cells ++ [c]) := by
  refine ⟨by simp [h.len], fun i r' c' h1 h2 => ?_⟩
  by_cases hi : i < rows.length
  · rw [List.getElem?_append_left hi] at h1
    rw [List.getElem?_append_left (by rw [h.len]; exact hi)] at h2
    exact h.at' i r' c' h1 h2
  · rw [List.getElem?_append_right (by omega)] at h1
    rw [List.getElem?_append_right (by rw [h.len]; omega), h.len] at h2
    cases hd : i - rows.length with
    | zero =>
      rw [hd] at h1 h2
      simp only [List.getElem?_cons_zero, Option.some.injEq] at h1 h2
      subst h1; subst h2; exact hr
    | succ d => rw [hd] at h1; simp at h1
/-- rows, as a slice's base -/
structure RowsAt (V : View) (rows : List (List Val)) (base : Option Addr) : Prop where
  get : ∃ cells, CellsAt V rows cells ∧ (rows ≠ [] → ∃ p off, base = some ⟨p, off, none⟩ ∧ V.has p off cells)
  len : rows.length ≤ 9223372036854775807
theorem RowsAt.mono {V V' : View} {rows : List (List Val)} {base : Option Addr} (h : RowsAt V rows base) (hV : V.le V') : RowsAt V' rows base := by
  refine ⟨?_, h.len⟩
  obtain ⟨cells, h1, h2⟩ := h.get
  refine ⟨cells, h1.mono hV, fun hn => ?_⟩
  obtain ⟨p, off, h3, h4⟩ := h2 hn
  exact ⟨p, off, h3, h4.mono hV⟩
theorem has_one {V : View} {p off : Nat} {l : List Value} (h : V.has p off l) {i : Nat} {c : Value} (hc : l[i]? = some c) : V.has p (off + i) [c] := fun j v hj => by
  cases j with
  | zero =>
    simp only [List.getElem?_cons_zero, Option.some.injEq] at hj
    subst hj
    exact h i _ hc
  | succ j => simp at hj
theorem RowsAt.at {V : View} {rows : List (List Val)} {base : Option Addr} (h : RowsAt V rows base) {i : Nat} {r : List Val} (hr : rows[i]? = some r) :
    ∃ p off c, base = some ⟨p, off, none⟩ ∧ V.has p (off + i) [c] ∧ RowAt V r c := by
  obtain ⟨cells, h1, h2⟩ := h.get
  obtain ⟨p, off, h3, h4⟩ := h2 (fun e => by rw [e] at hr; simp at hr)
  obtain ⟨c, hc⟩ : ∃ c, cells[i]? = some c := ⟨_, List.getElem?_eq_getElem (by rw [h1.len]; exact (List.getElem?_eq_some_iff.1 hr).1)⟩
  exact ⟨p, off, c, h3, has_one h4 hc, h1.at' i r c hr hc⟩
theorem RowsAt.of_cells {V : View} {rows : List (List Val)} {base : Option Addr} {len cap : Nat} {cells : List Value} (h : CellsAt V rows cells) (hc : V.cells (.slice base len cap) cells) (hl : rows.length ≤ 9223372036854775807) : RowsAt V rows base :=
  ⟨⟨cells, h, fun hn => cells_some hc (fun e => hn (List.eq_nil_of_length_eq_zero (by rw [← h.len, e]; rfl)))⟩, hl⟩
theorem ValsAt.of_cells {V : View} {l : List Val} {base : Option Addr} {len cap : Nat} (hc : V.cells (.slice base len cap) (l.flatMap vcells)) (hl : l.length ≤ 9223372036854775807) : ValsAt V l base :=
  ⟨fun hn => cells_some hc (fun e => hn (List.eq_nil_of_length_eq_zero (by have := congrArg List.length e; rw [flat_len (f := vcells) (n := 3) (fun _ => rfl)] at this; simp only [List.length_nil] at this; omega))), hl⟩
theorem ValsAt.cells {V : View} {l : List Val} {p off len cap : Nat} (h : ValsAt V l (some ⟨p, off, none⟩)) : V.cells (.slice (some ⟨p, off, none⟩) len cap) (l.flatMap vcells) := by
  show V.has p off _
  cases l with
  | nil => intro j v hj; simp at hj
  | cons x l =>
    obtain ⟨p', o', hb, hh⟩ := h.has (by simp)
    simp only [Option.some.injEq, Addr.mk.injEq] at hb
    obtain ⟨rfl, rfl, _⟩ := hb
    exact hh
theorem allOne_flat : ∀ l : List Val, allOne (l.flatMap vcells) = true
  | [] => rfl
  | x :: l => by rw [List.flatMap_cons]; exact allOne_flat l

theorem vals_none {V : View} {r : List Val} (h : ValsAt V r none) : r = [] := by
  cases r with
  | nil => rfl
  | cons x r =>
    obtain ⟨p, off, hb, _⟩ := h.has (by simp)
    cases hb
theorem plain_cells {V : View} {base : Option Addr} {len cap : Nat} {l : List Value} (h : V.cells (.slice base len cap) l) : Plain base := by
  unfold View.cells at h
  split at h
  · rename_i b off _ _ he
    simp only [Value.slice.injEq] at he
    obtain ⟨rfl, rfl, rfl⟩ := he
    exact .inr ⟨b, off, rfl⟩
  · rename_i he
    simp only [Value.slice.injEq] at he
    obtain ⟨rfl, rfl, rfl⟩ := he
    exact .inl rfl
  · exact h.elim
theorem row_cells {V : View} {r : List Val} {b : Option Addr} {len cap : Nat} (hp : Plain b) (h : ValsAt V r b) : V.cells (.slice b len cap) (r.flatMap vcells) := by
  rcases hp with rfl | ⟨p, off, rfl⟩
  · rw [vals_none h]; rfl
  · exact h.cells
theorem row_news {V : View} {r : List Val} {b : Option Addr} {len cap : Nat} (hp : PlainR r b) (h : ValsAt V r b) : r.length = 0 ∨ V.cells (.slice b len cap) (r.flatMap vcells) := by
  rcases hp with rfl | hp
  · exact .inl rfl
  · exact .inr (row_cells hp h)
/-- slices.Clone of a row -/
theorem clone_spec (r : List Val) (base : Option Addr) (cap : Nat) (V : View) (hp : PlainR r base) (h : ValsAt V r base) (hs : r.length ≤ 1000) : PSpec 49 [.slice base r.length cap] V (fun v V' => RowAt V' r v) := by
  refine does_of_zfun [] mixed (args := [.v _]) (ms := []) Try.func49 (by kernel_rfl) rfl ?_
  conv => whnf
  rcases base with _ | a
  · repeat' first
      | (refine br_t rfl ?_; conv => whnf)
      | (refine br_f rfl ?_; conv => whnf)
      | (refine IdxN.lit rfl rfl ?_; conv => whnf)
      | (intro _; conv => whnf)
    obtain rfl := vals_none h
    exact ret_pure ⟨none, 0, rfl, .inl rfl, ⟨fun h => absurd rfl h, Nat.zero_le _⟩⟩
  · repeat' first
      | (refine br_t rfl ?_; conv => whnf)
      | (refine br_f rfl ?_; conv => whnf)
      | (refine IdxN.lit rfl rfl ?_; conv => whnf)
      | (intro _; conv => whnf)
    rename_i b1 V1 hV1 h1
    refine AppN.toR r.length (by omega) [] (r.flatMap vcells) h1 rfl (row_news hp (h.mono (by repeat (first | exact View.le_refl _ | assumption | exact View.addU_le _ _ _ | refine View.le_trans ?_ (by assumption) | refine View.le_trans ?_ (View.addU_le _ _ _))))) (flat_len (f := vcells) (n := 3) (fun _ => rfl) r) (allOne_flat r) (by omega) (by decide) fun base' cap' V3 hV3 hc3 _ => ?_
    conv => whnf
    exact ret_pure ⟨base', cap', rfl, .inr (plain_cells hc3), ValsAt.of_cells hc3 (by omega)⟩
theorem over_spec (b : Nat) (s : Src) (k : Int) (hk : FarOk s k) (V : View) : Does Try.prog 59 [.pointer (some ⟨b, 0, none⟩)] V [picks b s k] (fun v _ bs => v = .bool (decide (k ≥ (s.l.length : Int))) ∧ bs = [picks b s k]) := by
  refine does_of_zfun [(1, [(0, []), (1, []), (2, []), (3, []), (4, []), (5, []), (6, []), (7, []), (8, []), (9, []), (10, [])])] mixed (args := [.own 0 0]) (ms := [(0, picks b s k)]) Try.func59 (by kernel_rfl) rfl ?_
  conv => whnf
  repeat' first
    | (refine br_t rfl ?_; conv => whnf)
    | (refine br_f rfl ?_; conv => whnf)
    | (refine IdxN.lit rfl rfl ?_; conv => whnf)
    | (intro _; conv => whnf)
  exact ⟨[0], by simp, [picks b s k], rfl, rfl, rfl⟩
end Go.Proofs.Ytenpginanhnkbaa
end

section
set_option linter.unusedSimpArgs false
set_option linter.unusedVariables false
namespace Go.Proofs.Ytenpginanhnkbaa
open Go.X
set_option maxRecDepth 100000

/-- values of the kinds of columns -/
structure RowC (cols : List ColT) (l : List Val) : Prop where
  len : l.length = cols.length
  kind : ∀ (i : Nat) (c : ColT) (v : Val), cols[i]? = some c → l[i]? = some v → KindV c.kind v
/-- a table's columns lie there -/
structure ColsLie (V : View) (cols : List ColT) (p : Nat) : Prop where
  has : V.has p 0 (cols.flatMap ccells)
  kinds : ∀ c ∈ cols, c.kind = 1 ∨ c.kind = 2
  small : cols.length ≤ 20
theorem ColsLie.mono {V V' : View} {cols : List ColT} {p : Nat} (h : ColsLie V cols p) (hV : V.le V') : ColsLie V' cols p := ⟨h.has.mono hV, h.kinds, h.small⟩
theorem rowc_spec (b : Nat) (s : Src) (k : Int) (hk : FarOk s k) (cols : List ColT) (nm : ByteArray) (p n cap : Nat) (q : Option Addr) (ql qc : Nat) (V : View) (hs : s.ok V) (h : ColsLie V cols p) (hn : n = cols.length) :
    Does Try.prog 19 [.pointer (some ⟨b, 0, none⟩), .agg #[.string nm, .slice (some ⟨p, 0, none⟩) n cap, .slice q ql qc]] V [picks b s k]
      (fun v V' bs => ∃ l k', RowAt V' l v ∧ RowC cols l ∧ FarOk s k' ∧ bs = [picks b s k']) := by
  subst hn
  have hsm := h.small
  refine does_of_zfun [] mixed (args := [.own 0 0, .v _]) (ms := [(0, picks b s k)]) Try.func19 (by kernel_rfl) rfl ?_
  conv => whnf
  repeat' first
    | (refine br_t rfl ?_; conv => whnf)
    | (refine br_f rfl ?_; conv => whnf)
    | (refine IdxN.lit rfl rfl ?_; conv => whnf)
    | (intro _; conv => whnf)
  rename_i blk
  refine loopz (σ := Nat × Option Addr × Nat × List Val × Int)
    (fun x => [(0, .own 0 0), (3, .own 3 0), (5, .row 24), (6, .v (.int .i64 x.1))])
    (fun x => [(0, picks b s x.2.2.2.2), (3, .box blk 27 [.string nm, .slice (some ⟨p, 0, none⟩) cols.length cap, .slice q ql qc]), (24, .row (.slice x.2.1 x.2.2.2.1.length x.2.2.1) 38 3 x.2.2.2.1.length)])
    (fun j x V' => V.le V' ∧ x.1 ≤ cols.length ∧ cols.length - x.1 = j ∧ x.2.2.2.1.length = x.1 ∧ (∀ (m : Nat) (c : ColT) (v : Val), cols[m]? = some c → x.2.2.2.1[m]? = some v → KindV c.kind v) ∧ FarOk s x.2.2.2.2 ∧ V'.cells (.slice x.2.1 x.2.2.2.1.length x.2.2.1) (x.2.2.2.1.flatMap vcells))
    cols.length (0, none, 0, [], k) ?_ ?_ ?_ ?_
  · repeat' (first | exact sees_nil | refine sees_cons rfl rfl rfl ?_)
  · repeat' (first | exact keeps_nil | refine keeps_cons rfl ?_ | refine keeps_free ?_)
  · exact ⟨View.le_refl _, Nat.zero_le _, by simp, rfl, fun m c v _ hv => by simp at hv, hk, rfl⟩
  rintro j ⟨i, base, cp, l, k1⟩ V' ⟨hV, hi, hj, hl, hkd, hf, hc⟩
  simp only at hi hj hl hkd hf hc
  conv => whnf
  apply br <;> intro h3 <;> conv => whnf
  · have hi1 : i < cols.length := by have := of_decide_eq_true h3; omega
    obtain ⟨c, hc1⟩ : ∃ c, cols[i]? = some c := ⟨_, List.getElem?_eq_getElem hi1⟩
    have hcc := has_flat (n := 3) (fun _ => rfl) cols 0 h.has i c hc1
    refine IdxN.of (by omega) (by omega) ?_
    conv => whnf
    refine LoadN.of (hcc.mono (by repeat (first | exact View.le_refl _ | assumption | exact View.addU_le _ _ _ | refine View.le_trans ?_ (by assumption) | refine View.le_trans ?_ (View.addU_le _ _ _)))) 1 rfl rfl ?_
    conv => whnf
    refine CallN.box 0 rfl (value_spec b s k1 c.kind hf (h.kinds c (List.mem_of_getElem? hc1)) _ (hs.mono (by repeat (first | exact View.le_refl _ | assumption | exact View.addU_le _ _ _ | refine View.le_trans ?_ (by assumption) | refine View.le_trans ?_ (View.addU_le _ _ _))))) fun v V2 bs hV2 ⟨x, k2, hv, hx, hf2, hb2⟩ => ⟨85, picksC s k2, hb2, ?_⟩
    subst hv
    conv => whnf
    intro b3 V3 hV3 h4
    conv => whnf
    refine AppN.to (l ++ [x]).length (by simp) (l.flatMap vcells) (vcells x) (hc.mono (by repeat (first | exact View.le_refl _ | assumption | exact View.addU_le _ _ _ | refine View.le_trans ?_ (by assumption) | refine View.le_trans ?_ (View.addU_le _ _ _)))) (flat_len (f := vcells) (n := 3) (fun _ => rfl) l) h4 rfl rfl (by simp; omega) (by decide) fun base' cap' V4 hV4 hc4 => ?_
    conv => whnf
    have hw := wrap_nat (i := i) (by omega)
    refine ⟨j - 1, (i + 1, base', cap', l ++ [x], k2), by omega, ?_, ?_, ?_⟩
    · repeat' (first | exact sees_nil | refine sees_cons rfl rfl rfl ?_ | refine sees_cons rfl rfl (by rw [← hw]; rfl) ?_)
    · repeat' (first | exact keeps_nil | refine keeps_cons rfl ?_ | refine keeps_free ?_)
    · refine ⟨View.le_trans hV (by repeat (first | exact View.le_refl _ | assumption | exact View.addU_le _ _ _ | refine View.le_trans ?_ (by assumption) | refine View.le_trans ?_ (View.addU_le _ _ _))), hi1, by show _ - (i + 1) = _; omega, by simp [hl], fun m c' v hm hv => ?_, hf2, by rw [List.flatMap_append]; simpa using hc4⟩
      by_cases hml : m < l.length
      · rw [List.getElem?_append_left hml] at hv
        exact hkd m c' v hm hv
      · rw [List.getElem?_append_right (by omega)] at hv
        cases hd : m - l.length with
        | zero =>
          rw [hd] at hv
          simp only [List.getElem?_cons_zero, Option.some.injEq] at hv
          have : m = i := by omega
          subst this; subst hv
          rw [hc1, Option.some.injEq] at hm
          subst hm; exact hx
        | succ d => rw [hd] at hv; simp at hv
  · have hi1 : i = cols.length := by have := of_decide_eq_false h3; omega
    exact ⟨[0], by simp, [picks b s k1], rfl, l, k1, ⟨base, cp, rfl, .inr (plain_cells hc), ValsAt.of_cells hc (by omega)⟩, ⟨by omega, hkd⟩, hf, rfl⟩
end Go.Proofs.Ytenpginanhnkbaa
end

section
set_option linter.unusedSimpArgs false
set_option linter.unusedVariables false
namespace Go.Proofs.Ytenpginanhnkbaa
open Go.X
set_option maxRecDepth 100000

/-- rows, as a slice that the program has made -/
def RowsV (V : View) (rows : List (List Val)) (v : Value) : Prop := ∃ base cap, v = .slice base rows.length cap ∧ Plain base ∧ RowsAt V rows base
theorem RowsV.mono {V V' : View} {rows : List (List Val)} {v : Value} (h : RowsV V rows v) (hV : V.le V') : RowsV V' rows v := by
  obtain ⟨base, cap, h1, hp, h2⟩ := h
  exact ⟨base, cap, h1, hp, h2.mono hV⟩
theorem row_shape {V : View} {r : List Val} {v : Value} (h : RowAt V r v) : ∃ base cap, v = .slice base r.length cap := by
  obtain ⟨base, cap, h1, _⟩ := h
  exact ⟨base, cap, h1⟩
theorem rowsC_spec (s : Src) (cols : List ColT) (nm : ByteArray) (p n cap : Nat) (q : Option Addr) (ql qc most : Nat) (V : View) (hs : s.ok V) (h : ColsLie V cols p) (hn : n = cols.length) (hm : most ≤ 100) :
    PSpec 31 [s.slice, .agg #[.string nm, .slice (some ⟨p, 0, none⟩) n cap, .slice q ql qc], .int .i64 most] V
      (fun v V' => ∃ rows base rcap, v = .slice base rows.length rcap ∧ rows.length ≤ rcap ∧ Plain base ∧ RowsAt V' rows base ∧ (∀ r ∈ rows, RowC cols r) ∧ rows.length ≤ most) := by
  subst hn
  refine does_of_zfun [] mixed (args := [.v _, .v _, .v _]) (ms := []) Try.func31 (by kernel_rfl) rfl ?_
  conv => whnf
  repeat' first
    | (refine br_t rfl ?_; conv => whnf)
    | (refine br_f rfl ?_; conv => whnf)
    | (refine IdxN.lit rfl rfl ?_; conv => whnf)
    | (intro _; conv => whnf)
  rename_i blk
  refine CallN.new 10 rfl (made_spec s _) fun v V1 bs hV1 ⟨b, hv, hb⟩ => ⟨picks b s 0, .own 10 0, hb, by subst hv; rfl, ?_⟩
  subst hv
  conv => whnf
  have far : FarOk s 0 := ⟨by decide, by omega⟩
  refine loopz (σ := Option Addr × Nat × List (List Val) × List Value × Int)
    (fun x => [(2, .v (.int .i64 most)), (4, .own 4 0), (7, .own 10 0), (8, .row 25)])
    (fun x => [(4, .box blk 27 [.string nm, .slice (some ⟨p, 0, none⟩) cols.length cap, .slice q ql qc]), (10, picks b s x.2.2.2.2), (25, .row (.slice x.1 x.2.2.1.length x.2.1) 45 1 x.2.2.1.length)])
    (fun j x V' => V1.le V' ∧ x.2.2.1.length ≤ most ∧ most - x.2.2.1.length = j ∧ FarOk s x.2.2.2.2 ∧ CellsAt V' x.2.2.1 x.2.2.2.1 ∧ V'.cells (.slice x.1 x.2.2.1.length x.2.1) x.2.2.2.1 ∧ (∀ r ∈ x.2.2.1, RowC cols r) ∧ x.2.2.1.length ≤ x.2.1)
    most (none, 0, [], [], 0) ?_ ?_ ?_ ?_
  · repeat' (first | exact sees_nil | refine sees_cons rfl rfl rfl ?_)
  · repeat' (first | exact keeps_nil | refine keeps_cons rfl ?_ | refine keeps_free ?_)
  · exact ⟨View.le_refl _, Nat.zero_le _, rfl, far, CellsAt.nil, rfl, fun r hr => (by cases hr), Nat.le_refl _⟩
  rintro j ⟨base, cp, rows, cells, k1⟩ V' ⟨hV, hi, hj, hf, hc, hcl, hk, hcp⟩
  simp only at hi hj hf hc hcl hk hcp
  conv => whnf
  refine CallN.box 10 rfl (over_spec b s k1 hf _) fun v V2 bs hV2 ⟨hv, hb2⟩ => ⟨85, picksC s k1, hb2, ?_⟩
  subst hv
  conv => whnf
  apply br <;> intro h3 <;> conv => whnf
  · repeat (refine br_t h3 ?_; conv => whnf)
    apply br <;> intro h4 <;> conv => whnf
    · have hi0 : (rows.length : Int) < most := of_decide_eq_true h4
      have hi1 : rows.length < most := by omega
      refine CallN.box 10 rfl (rowc_spec b s k1 hf cols nm p cols.length cap q ql qc _ (hs.mono (by repeat (first | exact View.le_refl _ | assumption | exact View.addU_le _ _ _ | refine View.le_trans ?_ (by assumption) | refine View.le_trans ?_ (View.addU_le _ _ _)))) (h.mono (by repeat (first | exact View.le_refl _ | assumption | exact View.addU_le _ _ _ | refine View.le_trans ?_ (by assumption) | refine View.le_trans ?_ (View.addU_le _ _ _)))) rfl) fun v V3 bs hV3 ⟨l, k2, hl, hrc, hf2, hb3⟩ => ⟨85, picksC s k2, hb3, ?_⟩
      obtain ⟨rb, rcap, hv⟩ := row_shape hl
      subst hv
      conv => whnf
      intro b4 V4 hV4 h5
      conv => whnf
      refine AppN.toc (rows ++ [l]).length (by simp) cells [.slice rb l.length rcap] (hcl.mono (by repeat (first | exact View.le_refl _ | assumption | exact View.addU_le _ _ _ | refine View.le_trans ?_ (by assumption) | refine View.le_trans ?_ (View.addU_le _ _ _)))) (by rw [hc.len]; exact (Nat.mul_one _).symm) h5 rfl rfl (by simp; omega) (by decide) fun base' cap' V5 hV5 hc5 hcp5 => ?_
      conv => whnf
      refine ⟨j - 1, (base', cap', rows ++ [l], cells ++ [.slice rb l.length rcap], k2), by omega, ?_, ?_, ?_⟩
      · repeat' (first | exact sees_nil | refine sees_cons rfl rfl rfl ?_)
      · repeat' (first | exact keeps_nil | refine keeps_cons rfl ?_ | refine keeps_free ?_)
      · refine ⟨View.le_trans hV (by repeat (first | exact View.le_refl _ | assumption | exact View.addU_le _ _ _ | refine View.le_trans ?_ (by assumption) | refine View.le_trans ?_ (View.addU_le _ _ _))), by simp; omega, by simp; omega, hf2, (hc.mono (by repeat (first | exact View.le_refl _ | assumption | exact View.addU_le _ _ _ | refine View.le_trans ?_ (by assumption) | refine View.le_trans ?_ (View.addU_le _ _ _)))).snoc (hl.mono (by repeat (first | exact View.le_refl _ | assumption | exact View.addU_le _ _ _ | refine View.le_trans ?_ (by assumption) | refine View.le_trans ?_ (View.addU_le _ _ _)))), hc5, fun r hr => ?_, hcp5⟩
        rcases List.mem_append.1 hr with h6 | h6
        · exact hk r h6
        · rw [List.mem_singleton.1 h6]; exact hrc
    · refine ret_pure ⟨rows, base, cp, rfl, hcp, plain_cells hcl, RowsAt.of_cells (hc.mono (by repeat (first | exact View.le_refl _ | assumption | exact View.addU_le _ _ _ | refine View.le_trans ?_ (by assumption) | refine View.le_trans ?_ (View.addU_le _ _ _)))) (hcl.mono (by repeat (first | exact View.le_refl _ | assumption | exact View.addU_le _ _ _ | refine View.le_trans ?_ (by assumption) | refine View.le_trans ?_ (View.addU_le _ _ _)))) (by omega), hk, hi⟩
  · repeat (refine br_f h3 ?_; conv => whnf)
    refine ret_pure ⟨rows, base, cp, rfl, hcp, plain_cells hcl, RowsAt.of_cells (hc.mono (by repeat (first | exact View.le_refl _ | assumption | exact View.addU_le _ _ _ | refine View.le_trans ?_ (by assumption) | refine View.le_trans ?_ (View.addU_le _ _ _)))) (hcl.mono (by repeat (first | exact View.le_refl _ | assumption | exact View.addU_le _ _ _ | refine View.le_trans ?_ (by assumption) | refine View.le_trans ?_ (View.addU_le _ _ _)))) (by omega), hk, hi⟩
theorem rows_spec (s : Src) (cols : List ColT) (nm : ByteArray) (p n cap : Nat) (q : Option Addr) (ql qc most : Nat) (V : View) (hs : s.ok V) (h : ColsLie V cols p) (hn : n = cols.length) (hm : most ≤ 100) :
    PSpec 31 [s.slice, .agg #[.string nm, .slice (some ⟨p, 0, none⟩) n cap, .slice q ql qc], .int .i64 most] V
      (fun v V' => ∃ rows, RowsV V' rows v ∧ (∀ r ∈ rows, RowC cols r) ∧ rows.length ≤ most) :=
  (rowsC_spec s cols nm p n cap q ql qc most V hs h hn hm).mono fun v V' _ _ ⟨rows, base, rcap, h1, _, h2, h3, h4, h5⟩ => ⟨rows, ⟨base, rcap, h1, h2, h3⟩, h4, h5⟩
end Go.Proofs.Ytenpginanhnkbaa
end

section
set_option linter.unusedSimpArgs false
set_option linter.unusedVariables false
namespace Go.Proofs.Ytenpginanhnkbaa
open Go.X
set_option maxRecDepth 100000

/-- a table, as a value -/
structure TabV where
  nm : ByteArray
  p : Nat
  cols : List ColT
  cap : Nat
  q : Option Addr
  ql : Nat
  qc : Nat
def tvcells (t : TabV) : List Value := [.string t.nm, .slice (some ⟨t.p, 0, none⟩) t.cols.length t.cap, .slice t.q t.ql t.qc]
def tabv (t : TabV) : Value := .agg #[.string t.nm, .slice (some ⟨t.p, 0, none⟩) t.cols.length t.cap, .slice t.q t.ql t.qc]
def itemsOf (t : TabV) : List Item := t.cols.map fun c => ⟨0, t.nm, c.nm⟩
def TabOk (V : View) (t : TabV) : Prop := ColsLie V t.cols t.p
theorem itemsOf_len (t : TabV) : (itemsOf t).length = t.cols.length := by simp [itemsOf]
theorem items_len {ts : List TabV} {V : View} (h : ∀ t ∈ ts, TabOk V t) : (ts.flatMap itemsOf).length ≤ ts.length * 20 := by
  induction ts with
  | nil => simp
  | cons t ts ih =>
    have h1 := (h t List.mem_cons_self).small
    have h2 := ih fun t ht => h t (List.mem_cons_of_mem _ ht)
    rw [List.flatMap_cons, List.length_append, itemsOf_len, List.length_cons]
    omega
theorem take_succ_flat {α β : Type} {f : α → List β} {l : List α} {i : Nat} {x : α} (h : l[i]? = some x) : (l.take (i + 1)).flatMap f = (l.take i).flatMap f ++ f x := by
  rw [List.take_add_one, h]; simp
theorem take_succ_map {α β : Type} {f : α → β} {l : List α} {i : Nat} {x : α} (h : l[i]? = some x) : (l.take (i + 1)).map f = (l.take i).map f ++ [f x] := by
  rw [List.take_add_one, h]; simp
theorem named_spec (ts : List TabV) (b n cap : Nat) (V : View) (hb : V.has b 0 (ts.flatMap tvcells)) (hok : ∀ t ∈ ts, TabOk V t) (hn : n = ts.length) (hs : ts.length ≤ 4) :
    PSpec 87 [.slice (some ⟨b, 0, none⟩) n cap] V (fun v V' => ∃ base cap', v = .slice base (ts.flatMap itemsOf).length cap' ∧ V'.cells v ((ts.flatMap itemsOf).flatMap icells)) := by
  subst hn
  refine does_of_zfun [] mixed (args := [.v _]) (ms := []) Try.func87 (by kernel_rfl) rfl ?_
  conv => whnf
  refine loopz (σ := Nat × Option Addr × Nat × List Item)
    (fun x => [(3, .row 28), (8, .v (.slice (some ⟨b, 0, none⟩) ts.length cap)), (9, .v (.int .i64 ts.length)), (10, .v (.int .i64 x.1))])
    (fun x => [(28, .row (.slice x.2.1 x.2.2.2.length x.2.2.1) 61 3 x.2.2.2.length)])
    (fun j x V' => V.le V' ∧ x.1 ≤ ts.length ∧ ts.length - x.1 = j ∧ x.2.2.2 = (ts.take x.1).flatMap itemsOf ∧ V'.cells (.slice x.2.1 x.2.2.2.length x.2.2.1) (x.2.2.2.flatMap icells))
    ts.length (0, none, 0, []) ?_ ?_ ?_ ?_
  · repeat' (first | exact sees_nil | refine sees_cons rfl rfl rfl ?_)
  · repeat' (first | exact keeps_nil | refine keeps_cons rfl ?_ | refine keeps_free ?_)
  · exact ⟨View.le_refl _, Nat.zero_le _, by simp, by simp, rfl⟩
  rintro j ⟨i, base, cp, its⟩ V' ⟨hV, hi, hj, hits, hc⟩
  simp only at hi hj hits hc
  conv => whnf
  apply br <;> intro h3 <;> conv => whnf
  · have hi0 : (i : Int) < ts.length := of_decide_eq_true h3
    have hi1 : i < ts.length := by omega
    obtain ⟨t, ht⟩ : ∃ t, ts[i]? = some t := ⟨_, List.getElem?_eq_getElem hi1⟩
    have hok1 := hok t (List.mem_of_getElem? ht)
    have hsm := hok1.small
    have htc := has_flat (n := 3) (fun _ => rfl) ts 0 hb i t ht
    have hil : its.length ≤ i * 20 := by
      rw [hits]
      have := items_len (ts := ts.take i) (V := V) (fun t ht => hok t (List.mem_of_mem_take ht))
      rw [List.length_take] at this
      omega
    refine IdxN.of (by omega) (by omega) ?_
    conv => whnf
    refine LoadN.of (htc.mono (by repeat (first | exact View.le_refl _ | assumption | exact View.addU_le _ _ _ | refine View.le_trans ?_ (by assumption) | refine View.le_trans ?_ (View.addU_le _ _ _)))) 0 rfl rfl ?_
    conv => whnf
    repeat' first
      | (refine br_t rfl ?_; conv => whnf)
      | (refine br_f rfl ?_; conv => whnf)
      | (refine IdxN.lit rfl rfl ?_; conv => whnf)
      | (intro _; conv => whnf)
    rename_i blk
    refine loopz (σ := Nat × Option Addr × Nat × List Item)
      (fun x => [(3, .row 28), (5, .own 5 0), (8, .v (.slice (some ⟨b, 0, none⟩) ts.length cap)), (9, .v (.int .i64 ts.length)), (10, .v (.int .i64 i)), (15, .v (.slice (some ⟨t.p, 0, none⟩) t.cols.length t.cap)), (16, .v (.int .i64 t.cols.length)), (17, .v (.int .i64 x.1))])
      (fun x => [(5, .box blk 27 (tvcells t)), (28, .row (.slice x.2.1 x.2.2.2.length x.2.2.1) 61 3 x.2.2.2.length)])
      (fun j2 x V2 => V'.le V2 ∧ x.1 ≤ t.cols.length ∧ t.cols.length - x.1 = j2 ∧ x.2.2.2 = its ++ ((itemsOf t).take x.1) ∧ V2.cells (.slice x.2.1 x.2.2.2.length x.2.2.1) (x.2.2.2.flatMap icells))
      t.cols.length (0, base, cp, its) ?_ ?_ ?_ ?_
    · repeat' (first | exact sees_nil | refine sees_cons rfl rfl rfl ?_)
    · repeat' (first | exact keeps_nil | refine keeps_cons rfl ?_ | refine keeps_free ?_)
    · exact ⟨View.le_refl _, Nat.zero_le _, by simp, by simp, hc⟩
    rintro j2 ⟨m, base2, cp2, its2⟩ V2 ⟨hV2, hm, hj2, hits2, hc2⟩
    simp only at hm hj2 hits2 hc2
    conv => whnf
    apply br <;> intro h4 <;> conv => whnf
    · have hm0 : (m : Int) < t.cols.length := of_decide_eq_true h4
      have hm1 : m < t.cols.length := by omega
      obtain ⟨c, hc1⟩ : ∃ c, t.cols[m]? = some c := ⟨_, List.getElem?_eq_getElem hm1⟩
      have hcc := has_flat (n := 3) (fun _ => rfl) t.cols 0 hok1.has m c hc1
      refine IdxN.of (by omega) (by omega) ?_
      conv => whnf
      refine LoadN.of (hcc.mono (by repeat (first | exact View.le_refl _ | assumption | exact View.addU_le _ _ _ | refine View.le_trans ?_ (by assumption) | refine View.le_trans ?_ (View.addU_le _ _ _)))) 0 rfl rfl ?_
      conv => whnf
      repeat' first
        | (refine br_t rfl ?_; conv => whnf)
        | (refine br_f rfl ?_; conv => whnf)
        | (refine IdxN.lit rfl rfl ?_; conv => whnf)
        | (intro _; conv => whnf)
      rename_i blk2 b3 V3 hV3 h5
      have hlen2 : its2.length ≤ 80 := by
        rw [hits2, List.length_append, List.length_take, itemsOf_len]
        omega
      have hx : (itemsOf t)[m]? = some ⟨0, t.nm, c.nm⟩ := by simp [itemsOf, hc1]
      refine AppN.to (its2 ++ [(⟨0, t.nm, c.nm⟩ : Item)]).length (by simp) (its2.flatMap icells) (icells ⟨0, t.nm, c.nm⟩) (hc2.mono (by repeat (first | exact View.le_refl _ | assumption | exact View.addU_le _ _ _ | refine View.le_trans ?_ (by assumption) | refine View.le_trans ?_ (View.addU_le _ _ _)))) (flat_len (f := icells) (n := 3) (fun _ => rfl) its2) h5 rfl rfl (by simp; omega) (by decide) fun base' cap' V4 hV4 hc4 => ?_
      conv => whnf
      have hw := wrap_nat (i := m) (by omega)
      refine ⟨j2 - 1, (m + 1, base', cap', its2 ++ [(⟨0, t.nm, c.nm⟩ : Item)]), by omega, ?_, ?_, ?_⟩
      · repeat' (first | exact sees_nil | refine sees_cons rfl rfl rfl ?_ | refine sees_cons rfl rfl (by rw [← hw]; rfl) ?_)
      · repeat' (first | exact keeps_nil | refine keeps_cons rfl ?_ | refine keeps_free ?_)
      · refine ⟨View.le_trans hV2 (by repeat (first | exact View.le_refl _ | assumption | exact View.addU_le _ _ _ | refine View.le_trans ?_ (by assumption) | refine View.le_trans ?_ (View.addU_le _ _ _))), hm1, by show _ - (m + 1) = _; omega, ?_, by rw [List.flatMap_append]; simpa using hc4⟩
        show its2 ++ _ = _
        rw [hits2, List.append_assoc, List.take_add_one, hx]; rfl
    · have hm0 : ¬ (m : Int) < t.cols.length := of_decide_eq_false h4
      have hm1 : m = t.cols.length := by omega
      have hw := wrap_nat (i := i) (by omega)
      refine ⟨j - 1, (i + 1, base2, cp2, its2), by omega, ?_, ?_, ?_⟩
      · repeat' (first | exact sees_nil | refine sees_cons rfl rfl rfl ?_ | refine sees_cons rfl rfl (by rw [← hw]; rfl) ?_)
      · repeat' (first | exact keeps_nil | refine keeps_cons rfl ?_ | refine keeps_free ?_)
      · refine ⟨View.le_trans hV hV2, hi1, by show _ - (i + 1) = _; omega, ?_, hc2⟩
        show its2 = _
        rw [hits2, hits, hm1, take_succ_flat ht, ← itemsOf_len, List.take_length]
  · have hi0 : ¬ (i : Int) < ts.length := of_decide_eq_false h3
    have hi1 : i = ts.length := by omega
    rw [hi1, List.take_length] at hits
    subst hits
    exact ret_pure ⟨base, cp, rfl, hc⟩
end Go.Proofs.Ytenpginanhnkbaa
end

section
set_option linter.unusedSimpArgs false
set_option linter.unusedVariables false
namespace Go.Proofs.Ytenpginanhnkbaa
open Go.X
set_option maxRecDepth 100000

def iagg (x : Item) : Value := .agg #[.int .i64 x.agg, .string x.tb, .string x.nm]
/-- the first place where it holds; -1: none -/
def placeOf (p : Item → Bool) : List Item → Nat → Int
  | [], _ => -1
  | x :: l, n => if p x then (n : Int) else placeOf p l (n + 1)
theorem place1_spec (x : Item) (tb nm : ByteArray) (a b : Nat) (V : View) (ha : V.has a 0 [.string nm]) (hb : V.has b 0 [.string tb]) :
    PSpec 91 [iagg x, .pointer (some ⟨a, 0, none⟩), .pointer (some ⟨b, 0, none⟩)] V (fun v _ => v = .bool (hitI tb nm x)) := by
  refine does_of_zfun [] mixed (args := [.v _, .v _, .v _]) (ms := []) Try.func91 (by kernel_rfl) rfl ?_
  conv => whnf
  repeat' first
    | (refine br_t rfl ?_; conv => whnf)
    | (refine br_f rfl ?_; conv => whnf)
    | (refine IdxN.lit rfl rfl ?_; conv => whnf)
    | (intro _; conv => whnf)
  refine LoadN.of (ha.mono (by repeat (first | exact View.le_refl _ | assumption | exact View.addU_le _ _ _ | refine View.le_trans ?_ (by assumption) | refine View.le_trans ?_ (View.addU_le _ _ _)))) 0 rfl rfl ?_
  conv => whnf
  apply br <;> intro h1 <;> conv => whnf
  · refine LoadN.of (hb.mono (by repeat (first | exact View.le_refl _ | assumption | exact View.addU_le _ _ _ | refine View.le_trans ?_ (by assumption) | refine View.le_trans ?_ (View.addU_le _ _ _)))) 0 rfl rfl ?_
    conv => whnf
    apply br <;> intro h2 <;> conv => whnf
    · repeat (first | (refine br_t h1 ?_; conv => whnf) | (refine br_t h2 ?_; conv => whnf))
      refine ret_pure ?_
      have e1 : (x.nm.toList == nm.toList) = true := h1
      have e2 : (tb.toList == noText.toList) = true := h2
      simp only [hitI]
      rw [e1, e2]; rfl
    · repeat (first | (refine br_t h1 ?_; conv => whnf) | (refine br_f h2 ?_; conv => whnf) | (refine LoadN.of (hb.mono (by repeat (first | exact View.le_refl _ | assumption | exact View.addU_le _ _ _ | refine View.le_trans ?_ (by assumption) | refine View.le_trans ?_ (View.addU_le _ _ _)))) 0 rfl rfl ?_; conv => whnf))
      refine ret_pure ?_
      have e1 : (x.nm.toList == nm.toList) = true := h1
      have e2 : (tb.toList == noText.toList) = false := h2
      simp only [hitI]
      rw [e1, e2]; rfl
  · repeat (refine br_f h1 ?_; conv => whnf)
    refine ret_pure ?_
    have e1 : (x.nm.toList == nm.toList) = false := h1
    simp only [hitI]
    rw [e1]; rfl
theorem index_spec (its : List Item) (base : Option Addr) (cap a b : Nat) (f : Item → Bool) (V : View) (hc : V.cells (.slice base its.length cap) (its.flatMap icells)) (hs : its.length ≤ 1000)
    (h : ∀ x V', V.le V' → PSpec 91 [iagg x, .pointer (some ⟨a, 0, none⟩), .pointer (some ⟨b, 0, none⟩)] V' (fun v _ => v = .bool (f x))) :
    PSpec 90 [.slice base its.length cap, .func (.func 91) #[] #[.pointer (some ⟨a, 0, none⟩), .pointer (some ⟨b, 0, none⟩)]] V (fun v _ => v = .int .i64 (placeOf f its 0)) := by
  refine does_of_zfun [] mixed (args := [.v _, .v _]) (ms := []) Try.func90 (by kernel_rfl) rfl ?_
  conv => whnf
  refine loopz (σ := Nat) (fun i => [(0, .v (.slice base its.length cap)), (1, .v (.func (.func 91) #[] #[.pointer (some ⟨a, 0, none⟩), .pointer (some ⟨b, 0, none⟩)])), (7, .v (.int .i64 its.length)), (8, .v (.int .i64 i))]) (fun _ => [])
    (fun j i V' => V.le V' ∧ i ≤ its.length ∧ its.length - i = j ∧ placeOf f (its.drop i) i = placeOf f its 0) its.length 0 ?_ ?_ ?_ ?_
  · repeat' (first | exact sees_nil | refine sees_cons rfl rfl rfl ?_)
  · exact keeps_nil
  · exact ⟨View.le_refl _, Nat.zero_le _, rfl, rfl⟩
  rintro j i V' ⟨hV, hi, hj, hp⟩
  conv => whnf
  apply br <;> intro h3 <;> conv => whnf
  · have hi0 : (i : Int) < its.length := of_decide_eq_true h3
    have hi1 : i < its.length := by omega
    obtain ⟨x, hx⟩ : ∃ x, its[i]? = some x := ⟨_, List.getElem?_eq_getElem hi1⟩
    have hdrop : its.drop i = x :: its.drop (i + 1) := by
      rw [List.drop_eq_getElem_cons hi1]
      have e1 : its[i] = x := by rw [List.getElem?_eq_getElem hi1] at hx; exact Option.some.inj hx
      rw [e1]
    rw [hdrop, placeOf] at hp
    obtain ⟨p, off, rfl, hh⟩ := cells_some hc (fun e => by
      have := congrArg List.length e
      rw [flat_len (f := icells) (n := 3) (fun _ => rfl)] at this
      simp only [List.length_nil] at this
      omega)
    have hxi := has_flat (n := 3) (fun _ => rfl) its off hh i x hx
    refine IdxN.of (by omega) (by omega) ?_
    conv => whnf
    refine LoadN.of (hxi.mono (by repeat (first | exact View.le_refl _ | assumption | exact View.addU_le _ _ _ | refine View.le_trans ?_ (by assumption) | refine View.le_trans ?_ (View.addU_le _ _ _)))) 0 rfl rfl ?_
    conv => whnf
    refine CallN.pure (h x _ (by repeat (first | exact View.le_refl _ | assumption | exact View.addU_le _ _ _ | refine View.le_trans ?_ (by assumption) | refine View.le_trans ?_ (View.addU_le _ _ _)))) fun v V2 _ hV2 hv => ?_
    subst hv
    conv => whnf
    apply br <;> intro h4 <;> conv => whnf
    · refine ret_pure ?_
      rw [if_pos h4] at hp
      rw [← hp]; rfl
    · rw [if_neg (by rw [h4]; simp)] at hp
      have hw := wrap_nat (i := i) (by omega)
      refine ⟨j - 1, i + 1, by omega, ?_, keeps_nil, View.le_trans hV hV2, hi1, by omega, hp⟩
      repeat' (first | exact sees_nil | refine sees_cons rfl rfl rfl ?_ | refine sees_cons rfl rfl (by rw [← hw]; rfl) ?_)
  · have hi0 : ¬ (i : Int) < its.length := of_decide_eq_false h3
    refine ret_pure ?_
    rw [List.drop_eq_nil_of_le (by omega)] at hp
    rw [← hp]; rfl
theorem place_spec (its : List Item) (base rb : Option Addr) (cap rn rc : Nat) (tb nm : ByteArray) (V : View) (hc : V.cells (.slice base its.length cap) (its.flatMap icells)) (hs : its.length ≤ 1000) :
    PSpec 63 [.agg #[.slice base its.length cap, .slice rb rn rc], .string tb, .string nm] V (fun v _ => v = .int .i64 (placeOf (hitI tb nm) its 0)) := by
  refine does_of_zfun [] mixed (args := [.v _, .v _, .v _]) (ms := []) Try.func63 (by kernel_rfl) rfl ?_
  conv => whnf
  repeat' first
    | (refine br_t rfl ?_; conv => whnf)
    | (refine br_f rfl ?_; conv => whnf)
    | (refine IdxN.lit rfl rfl ?_; conv => whnf)
    | (intro _; conv => whnf)
  rename_i b3 b4 b5
  refine CallN.lend 4 rfl fun l4 => CallN.lend 5 rfl fun l5 => CallN.pure (index_spec its base cap b5 b4 (hitI tb nm) _ (hc.mono (View.le_trans l4 l5)) hs fun x V' hV' => place1_spec x tb nm b5 b4 V' (View.add_has.mono hV') ((View.add_has.mono l5).mono hV')) fun v V2 _ hV2 hv => ⟨⟨_, rfl⟩, rfl, ⟨_, rfl⟩, rfl, ?_⟩
  subst hv
  conv => whnf
  exact ret_pure rfl
end Go.Proofs.Ytenpginanhnkbaa
end
