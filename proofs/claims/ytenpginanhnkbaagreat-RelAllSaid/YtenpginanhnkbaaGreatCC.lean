/- One part of a proof: an evaluator of the model, shown right, and contracts that it yields. No condition beyond those that each theorem names. -/
import Derived.Test.YtenpginanhnkbaaGreatCB
import Derived.Test.YtenpginanhnkbaaGreatXY
section
set_option linter.unusedSimpArgs false
set_option linter.unusedVariables false
namespace Go.Proofs.YtenpginanhnkbaaGreat
open Go.X
set_option maxRecDepth 100000
/-- a slice's base, as the program makes it -/
def Plain (base : Option Addr) : Prop := base = none ∨ ∃ p off, base = some ⟨p, off, none⟩
/-- a row, as a value; one without values may lie anywhere -/
def PlainR (r : List Val) (base : Option Addr) : Prop := r = [] ∨ Plain base
def RowAt (V : View) (r : List Val) (v : Value) : Prop := ∃ base cap, v = .slice base r.length cap ∧ PlainR r base ∧ ValsAt V r base
theorem RowAt.mono {V V' : View} {r : List Val} {v : Value} (h : RowAt V r v) (hV : V.le V') : RowAt V' r v := by
 obtain ⟨base, cap, h1, hp, h2⟩ := h
 exact ⟨base, cap, h1, hp, h2.mono hV⟩
/-- rows, as cells -/
structure CellsAt (V : View) (rows : List (List Val)) (cells : List Value) : Prop where
 len : cells.length = rows.length
 at' : ∀ (i : Nat) (r : List Val) (c : Value), rows[i]? = some r → cells[i]? = some c → RowAt V r c
theorem CellsAt.mono {V V' : View} {rows : List (List Val)} {cells : List Value} (h : CellsAt V rows cells) (hV : V.le V') : CellsAt V' rows cells := ⟨h.len, fun i r c h1 h2 => (h.at' i r c h1 h2).mono hV⟩
theorem CellsAt.nil {V : View} : CellsAt V [] [] := ⟨rfl, fun i r c h => by simp at h⟩
theorem CellsAt.snoc {V : View} {rows : List (List Val)} {cells : List Value} {r : List Val} {c : Value} (h : CellsAt V rows cells) (hr : RowAt V r c) : CellsAt V (rows ++ [r]) (cells ++ [c]) := by
 refine ⟨by simp [h.len], fun i r' c' h1 h2 => ?_⟩
 by_cases hi : i < rows.length
 ·rw [List.getElem?_append_left hi] at h1
  rw [List.getElem?_append_left (by rw [h.len]; exact hi)] at h2
  exact h.at' i r' c' h1 h2
 ·rw [List.getElem?_append_right (by omega)] at h1
  rw [List.getElem?_append_right (by rw [h.len]; omega), h.len] at h2
  cases hd : i - rows.length with
  | zero =>
   rw [hd] at h1 h2
   simp only [List.getElem?_cons_zero, Option.some.injEq] at h1 h2
   subst h1; subst h2; exact hr
  | succ d => rw [hd] at h1; simp at h1
/-- rows, as a slice's base -/
structure RowsAt (V : View) (rows : List (List Val)) (base : Option Addr) : Prop where
 get : ∃ cells, CellsAt V rows cells ∧ (rows ≠ [] → ∃ p off, base = some ⟨p, off, none⟩ ∧ V.has p off cells)
 len : rows.length ≤ 9223372036854775807
theorem RowsAt.mono {V V' : View} {rows : List (List Val)} {base : Option Addr} (h : RowsAt V rows base) (hV : V.le V') : RowsAt V' rows base := by
 refine ⟨?_, h.len⟩
 obtain ⟨cells, h1, h2⟩ := h.get
 refine ⟨cells, h1.mono hV, fun hn => ?_⟩
 obtain ⟨p, off, h3, h4⟩ := h2 hn
 exact ⟨p, off, h3, h4.mono hV⟩
theorem has_one {V : View} {p off : Nat} {l : List Value} (h : V.has p off l) {i : Nat} {c : Value} (hc : l[i]? = some c) : V.has p (off + i) [c] := fun j v hj => by
 cases j with
 | zero =>
  simp only [List.getElem?_cons_zero, Option.some.injEq] at hj
  subst hj
  exact h i _ hc
 | succ j => simp at hj
theorem RowsAt.at {V : View} {rows : List (List Val)} {base : Option Addr} (h : RowsAt V rows base) {i : Nat} {r : List Val} (hr : rows[i]? = some r) :
  ∃ p off c, base = some ⟨p, off, none⟩ ∧ V.has p (off + i) [c] ∧ RowAt V r c := by
 obtain ⟨cells, h1, h2⟩ := h.get
 obtain ⟨p, off, h3, h4⟩ := h2 (fun e => by rw [e] at hr; simp at hr)
 obtain ⟨c, hc⟩ : ∃ c, cells[i]? = some c := ⟨_, List.getElem?_eq_getElem (by rw [h1.len]; exact (List.getElem?_eq_some_iff.1 hr).1)⟩
 exact ⟨p, off, c, h3, has_one h4 hc, h1.at' i r c hr hc⟩
theorem RowsAt.of_cells {V : View} {rows : List (List Val)} {base : Option Addr} {len cap : Nat} {cells : List Value} (h : CellsAt V rows cells) (hc : V.cells (.slice base len cap) cells) (hl : rows.length ≤ 9223372036854775807) : RowsAt V rows base :=
 ⟨⟨cells, h, fun hn => cells_some hc (fun e => hn (List.eq_nil_of_length_eq_zero (by rw [← h.len, e]; rfl)))⟩, hl⟩
theorem ValsAt.of_cells {V : View} {l : List Val} {base : Option Addr} {len cap : Nat} (hc : V.cells (.slice base len cap) (l.flatMap vcells)) (hl : l.length ≤ 9223372036854775807) : ValsAt V l base :=
 ⟨fun hn => cells_some hc (fun e => hn (List.eq_nil_of_length_eq_zero (by have := congrArg List.length e; rw [flat_len (f := vcells) (n := 3) (fun _ => rfl)] at this; simp only [List.length_nil] at this; omega))), hl⟩
theorem ValsAt.cells {V : View} {l : List Val} {p off len cap : Nat} (h : ValsAt V l (some ⟨p, off, none⟩)) : V.cells (.slice (some ⟨p, off, none⟩) len cap) (l.flatMap vcells) := by
 show V.has p off _
 cases l with
 | nil => intro j v hj; simp at hj
 | cons x l =>
  obtain ⟨p', o', hb, hh⟩ := h.has (by simp)
  simp only [Option.some.injEq, Addr.mk.injEq] at hb
  obtain ⟨rfl, rfl, _⟩ := hb
  exact hh
theorem allOne_flat : ∀ l : List Val, allOne (l.flatMap vcells) = true
 | [] => rfl
 | x :: l => by rw [List.flatMap_cons]; exact allOne_flat l
theorem vals_none {V : View} {r : List Val} (h : ValsAt V r none) : r = [] := by
 cases r with
 | nil => rfl
 | cons x r =>
  obtain ⟨p, off, hb, _⟩ := h.has (by simp)
  cases hb
theorem plain_cells {V : View} {base : Option Addr} {len cap : Nat} {l : List Value} (h : V.cells (.slice base len cap) l) : Plain base := by
 unfold View.cells at h
 split at h
 ·rename_i b off _ _ he
  simp only [Value.slice.injEq] at he
  obtain ⟨rfl, rfl, rfl⟩ := he
  exact .inr ⟨b, off, rfl⟩
 ·rename_i he
  simp only [Value.slice.injEq] at he
  obtain ⟨rfl, rfl, rfl⟩ := he
  exact .inl rfl
 ·exact h.elim
theorem row_cells {V : View} {r : List Val} {b : Option Addr} {len cap : Nat} (hp : Plain b) (h : ValsAt V r b) : V.cells (.slice b len cap) (r.flatMap vcells) := by
 rcases hp with rfl | ⟨p, off, rfl⟩
 ·rw [vals_none h]; rfl
 ·exact h.cells
theorem row_news {V : View} {r : List Val} {b : Option Addr} {len cap : Nat} (hp : PlainR r b) (h : ValsAt V r b) : r.length = 0 ∨ V.cells (.slice b len cap) (r.flatMap vcells) := by
 rcases hp with rfl | hp
 ·exact .inl rfl
 ·exact .inr (row_cells hp h)
/-- a row that has been laid anew -/
theorem RowAt.new {V W V' : View} {r : List Val} {base : Option Addr} {cap : Nat} (hV : V.le W) (h : V'.cells (.slice base r.length cap) (r.flatMap vcells)) (hl : r.length ≤ 9223372036854775807) (hn : 0 < r.length → ∀ p o, base = some ⟨p, o, none⟩ → ∀ k, W p k = none) : RowAt (V.new V') r (.slice base r.length cap) := by
 refine ⟨base, cap, rfl, .inr (plain_cells h), ⟨fun hr => ?_, hl⟩⟩
 obtain ⟨p, off, hb, hh⟩ := (ValsAt.of_cells h hl).has hr
 exact ⟨p, off, hb, fun i v hi => View.new_of (View.none_of hV (hn (List.length_pos_iff.2 hr) p off hb)) (hh i v hi)⟩
/-- slices.Clone of a row -/
theorem clone_new (r : List Val) (base : Option Addr) (cap : Nat) (V : View) (hp : PlainR r base) (h : ValsAt V r base) (hs : r.length ≤ 1000) : PSpec 32 [.slice base r.length cap] V (fun v V' => RowAt (V.new V') r v) := by
 refine does_of_zfun [] mixed (args := [.v _]) (ms := []) Tryz.func32 (by kernel_rfl) rfl ?_; conv => whnf
 rcases base with _ | a
 ·repeat' ((first | refine br_t rfl ?_ | refine br_f rfl ?_ | refine IdxN.lit rfl rfl ?_ | intro _); conv => whnf)
  obtain rfl := vals_none h
  exact ret_pure ⟨none, 0, rfl, .inl rfl, ⟨fun h => absurd rfl h, Nat.zero_le _⟩⟩
 ·repeat' ((first | refine br_t rfl ?_ | refine br_f rfl ?_ | refine IdxN.lit rfl rfl ?_ | intro _); conv => whnf)
  rename_i b1 V1 hV1 h1
  refine AppN.toN r.length (by omega) [] (r.flatMap vcells) h1 rfl (row_news hp (h.mono le_auto)) (flat_len (f := vcells) (n := 3) (fun _ => rfl) r) (allOne_flat r) (by omega) (by decide) fun base' cap' V3 hV3 hc3 _ hnw => ?_; conv => whnf
  exact ret_pure (RowAt.new le_auto hc3 (by omega) fun h0 p o hb => (hnw h0 p o hb).1.resolve_left (by simp [rowBlk]))
theorem clone_spec (r : List Val) (base : Option Addr) (cap : Nat) (V : View) (hp : PlainR r base) (h : ValsAt V r base) (hs : r.length ≤ 1000) : PSpec 32 [.slice base r.length cap] V (fun v V' => RowAt V' r v) :=
 (clone_new r base cap V hp h hs).mono fun v V' _ _ h => h.mono View.new_le
theorem over_spec (b : Nat) (s : Src) (k : Int) (hk : FarOk s k) (V : View) : Does Tryz.prog 17 [.pointer (some ⟨b, 0, none⟩)] V [picks b s k] (fun v _ bs => v = .bool (decide (k ≥ (s.l.length : Int))) ∧ bs = [picks b s k]) := by
 refine does_of_zfun [(1, [(0, []), (1, []), (2, []), (3, []), (4, []), (5, []), (6, []), (7, []), (8, []), (9, []), (10, [])])] mixed (args := [.own 0 0]) (ms := [(0, picks b s k)]) Tryz.func17 (by kernel_rfl) rfl ?_; conv => whnf
 repeat' ((first | refine br_t rfl ?_ | refine br_f rfl ?_ | refine IdxN.lit rfl rfl ?_ | intro _); conv => whnf)
 exact ⟨[0], by simp, [picks b s k], rfl, rfl, rfl⟩
/-- values of the kinds of columns -/
structure RowC (cols : List ColT) (l : List Val) : Prop where
 len : l.length = cols.length
 kind : ∀ (i : Nat) (c : ColT) (v : Val), cols[i]? = some c → l[i]? = some v → KindV c.kind v
/-- a table's columns lie there -/
structure ColsLie (V : View) (cols : List ColT) (p : Nat) : Prop where
 has : V.has p 0 (cols.flatMap ccells)
 kinds : ∀ c ∈ cols, c.kind = 1 ∨ c.kind = 2
 small : cols.length ≤ 20
theorem ColsLie.mono {V V' : View} {cols : List ColT} {p : Nat} (h : ColsLie V cols p) (hV : V.le V') : ColsLie V' cols p := ⟨h.has.mono hV, h.kinds, h.small⟩
/-- the row that is made, and how far is read then -/
def rowF (l : List Int) : List ColT → Int → List Val × Int
 | [], k => ([], k)
 | c :: cs, k => ((valF l k c.kind).1 :: (rowF l cs (valF l k c.kind).2).1, (rowF l cs (valF l k c.kind).2).2)
set_option maxHeartbeats 4000000 in
theorem rowc_specF (b : Nat) (s : Src) (k : Int) (hk : FarOk s k) (cols : List ColT) (nm : ByteArray) (p n cap : Nat) (q : Option Addr) (ql qc : Nat) (V : View) (hs : s.ok V) (h : ColsLie V cols p) (hn : n = cols.length) :
  Does Tryz.prog 18 [.pointer (some ⟨b, 0, none⟩), .agg #[.string nm, .slice (some ⟨p, 0, none⟩) n cap, .slice q ql qc]] V [picks b s k]
   (fun v V' bs => ∃ l k', RowAt V' l v ∧ RowC cols l ∧ FarOk s k' ∧ bs = [picks b s k'] ∧ (l, k') = rowF s.l cols k) := by
 subst hn
 have hsm := h.small
 refine does_of_zfun [] mixed (args := [.own 0 0, .v _]) (ms := [(0, picks b s k)]) Tryz.func18 (by kernel_rfl) rfl ?_; conv => whnf
 repeat' ((first | refine br_t rfl ?_ | refine br_f rfl ?_ | refine IdxN.lit rfl rfl ?_ | intro _); conv => whnf)
 rename_i blk
 refine loopz (σ := Nat × Option Addr × Nat × List Val × Int)
  (fun x => [(0, .own 0 0), (3, .own 3 0), (5, .row 24), (6, .v (.int .i64 x.1))])
  (fun x => [(0, picks b s x.2.2.2.2), (3, .box blk 33 [.string nm, .slice (some ⟨p, 0, none⟩) cols.length cap, .slice q ql qc]), (24, .row (.slice x.2.1 x.2.2.2.1.length x.2.2.1) 44 3 x.2.2.2.1.length)])
  (fun j x V' => V.le V' ∧ x.1 ≤ cols.length ∧ cols.length - x.1 = j ∧ x.2.2.2.1.length = x.1 ∧ (∀ (m : Nat) (c : ColT) (v : Val), cols[m]? = some c → x.2.2.2.1[m]? = some v → KindV c.kind v) ∧ FarOk s x.2.2.2.2 ∧ V'.cells (.slice x.2.1 x.2.2.2.1.length x.2.2.1) (x.2.2.2.1.flatMap vcells) ∧ rowF s.l cols k = (x.2.2.2.1 ++ (rowF s.l (cols.drop x.1) x.2.2.2.2).1, (rowF s.l (cols.drop x.1) x.2.2.2.2).2))
  cols.length (0, none, 0, [], k) ?_ ?_ ?_ ?_
 ·repeat' (first | exact sees_nil | refine sees_cons rfl rfl rfl ?_)
 ·repeat' (first | exact keeps_nil | refine keeps_cons rfl ?_ | refine keeps_free ?_)
 ·exact ⟨View.le_refl _, Nat.zero_le _, by simp, rfl, fun m c v _ hv => by simp at hv, hk, rfl, rfl⟩
 rintro j ⟨i, base, cp, l, k1⟩ V' ⟨hV, hi, hj, hl, hkd, hf, hc, hF⟩
 simp only at hi hj hl hkd hf hc hF
 conv => whnf
 apply br <;> intro h3 <;> conv => whnf
 ·have hi1 : i < cols.length := by have := of_decide_eq_true h3; omega
  obtain ⟨c, hc1⟩ : ∃ c, cols[i]? = some c := ⟨_, List.getElem?_eq_getElem hi1⟩
  have hcc := has_flat (n := 3) (fun _ => rfl) cols 0 h.has i c hc1
  refine IdxN.of (by omega) (by omega) ?_; conv => whnf
  refine LoadN.of (hcc.mono le_auto) 1 rfl rfl ?_; conv => whnf
  refine CallN.box 0 rfl (value_specF b s k1 c.kind hf (h.kinds c (List.mem_of_getElem? hc1)) _ (hs.mono le_auto)) fun v V2 bs hV2 ⟨x, k2, hv, hx, hf2, hb2, hN⟩ => ⟨92, picksC s k2, hb2, ?_⟩
  subst hv; conv => whnf
  intro b3 V3 hV3 h4
  conv => whnf
  refine AppN.to (l ++ [x]).length (by simp) (l.flatMap vcells) (vcells x) (hc.mono le_auto) (flat_len (f := vcells) (n := 3) (fun _ => rfl) l) h4 rfl rfl (by simp; omega) (by decide) fun base' cap' V4 hV4 hc4 => ?_; conv => whnf
  have hw := wrap_nat (i := i) (by omega)
  refine ⟨j - 1, (i + 1, base', cap', l ++ [x], k2), by omega, ?_, ?_, ?_⟩
  ·repeat' (first | exact sees_nil | refine sees_cons rfl rfl rfl ?_ | refine sees_cons rfl rfl (by rw [← hw]; rfl) ?_)
  ·repeat' (first | exact keeps_nil | refine keeps_cons rfl ?_ | refine keeps_free ?_)
  ·refine ⟨View.le_trans hV le_auto, hi1, by show _ - (i + 1) = _; omega, by simp [hl], fun m c' v hm hv => ?_, hf2, by rw [List.flatMap_append]; simpa using hc4, ?_⟩
   rotate_left
   ·have hd : cols.drop i = c :: cols.drop (i + 1) := by
     rw [List.drop_eq_getElem_cons hi1]
     have e1 : cols[i] = c := by rw [List.getElem?_eq_getElem hi1] at hc1; exact Option.some.inj hc1
     rw [e1]
    rw [hd, rowF, ← hN] at hF
    show _ = ((l ++ [x]) ++ _, _)
    rw [List.append_assoc]; exact hF
   by_cases hml : m < l.length
   ·rw [List.getElem?_append_left hml] at hv
    exact hkd m c' v hm hv
   ·rw [List.getElem?_append_right (by omega)] at hv
    cases hd : m - l.length with
    | zero =>
     rw [hd] at hv
     simp only [List.getElem?_cons_zero, Option.some.injEq] at hv
     have : m = i := by omega
     subst this; subst hv
     rw [hc1, Option.some.injEq] at hm
     subst hm; exact hx
    | succ d => rw [hd] at hv; simp at hv
 ·have hi1 : i = cols.length := by have := of_decide_eq_false h3; omega
  exact ⟨[0], by simp, [picks b s k1], rfl, l, k1, ⟨base, cp, rfl, .inr (plain_cells hc), ValsAt.of_cells hc (by omega)⟩, ⟨by omega, hkd⟩, hf, rfl, by rw [hF, List.drop_eq_nil_of_le (by omega), rowF, List.append_nil]⟩
/-- rows, as a slice that the program has made -/
def RowsV (V : View) (rows : List (List Val)) (v : Value) : Prop := ∃ base cap, v = .slice base rows.length cap ∧ Plain base ∧ RowsAt V rows base
theorem row_shape {V : View} {r : List Val} {v : Value} (h : RowAt V r v) : ∃ base cap, v = .slice base r.length cap := by
 obtain ⟨base, cap, h1, _⟩ := h
 exact ⟨base, cap, h1⟩
/-- the rows that are made -/
def rowsF (l : List Int) (cols : List ColT) : Nat → Int → List (List Val)
 | 0, _ => []
 | n + 1, k => if k ≥ (l.length : Int) then [] else (rowF l cols k).1 :: rowsF l cols n (rowF l cols k).2
set_option maxHeartbeats 4000000 in
theorem rowsC_specF (s : Src) (cols : List ColT) (nm : ByteArray) (p n cap : Nat) (q : Option Addr) (ql qc most : Nat) (V : View) (hs : s.ok V) (h : ColsLie V cols p) (hn : n = cols.length) (hm : most ≤ 100) :
  PSpec 6 [s.slice, .agg #[.string nm, .slice (some ⟨p, 0, none⟩) n cap, .slice q ql qc], .int .i64 most] V
   (fun v V' => ∃ rows base rcap, v = .slice base rows.length rcap ∧ rows.length ≤ rcap ∧ Plain base ∧ RowsAt V' rows base ∧ (∀ r ∈ rows, RowC cols r) ∧ rows.length ≤ most ∧ rows = rowsF s.l cols most 0) := by
 subst hn
 refine does_of_zfun [] mixed (args := [.v _, .v _, .v _]) (ms := []) Tryz.func6 (by kernel_rfl) rfl ?_; conv => whnf
 repeat' ((first | refine br_t rfl ?_ | refine br_f rfl ?_ | refine IdxN.lit rfl rfl ?_ | intro _); conv => whnf)
 rename_i blk
 refine CallN.new 10 rfl (made_spec s _) fun v V1 bs hV1 ⟨b, hv, hb⟩ => ⟨picks b s 0, .own 10 0, hb, by subst hv; rfl, ?_⟩
 subst hv; conv => whnf
 have far : FarOk s 0 := ⟨by decide, by omega⟩
 refine loopz (σ := Option Addr × Nat × List (List Val) × List Value × Int)
  (fun x => [(2, .v (.int .i64 most)), (4, .own 4 0), (7, .own 10 0), (8, .row 25)])
  (fun x => [(4, .box blk 33 [.string nm, .slice (some ⟨p, 0, none⟩) cols.length cap, .slice q ql qc]), (10, picks b s x.2.2.2.2), (25, .row (.slice x.1 x.2.2.1.length x.2.1) 42 1 x.2.2.1.length)])
  (fun j x V' => V1.le V' ∧ x.2.2.1.length ≤ most ∧ most - x.2.2.1.length = j ∧ FarOk s x.2.2.2.2 ∧ CellsAt V' x.2.2.1 x.2.2.2.1 ∧ V'.cells (.slice x.1 x.2.2.1.length x.2.1) x.2.2.2.1 ∧ (∀ r ∈ x.2.2.1, RowC cols r) ∧ x.2.2.1.length ≤ x.2.1 ∧ rowsF s.l cols most 0 = x.2.2.1 ++ rowsF s.l cols (most - x.2.2.1.length) x.2.2.2.2)
  most (none, 0, [], [], 0) ?_ ?_ ?_ ?_
 ·repeat' (first | exact sees_nil | refine sees_cons rfl rfl rfl ?_)
 ·repeat' (first | exact keeps_nil | refine keeps_cons rfl ?_ | refine keeps_free ?_)
 ·exact ⟨View.le_refl _, Nat.zero_le _, rfl, far, CellsAt.nil, rfl, fun r hr => (by cases hr), Nat.le_refl _, rfl⟩
 rintro j ⟨base, cp, rows, cells, k1⟩ V' ⟨hV, hi, hj, hf, hc, hcl, hk, hcp, hF⟩
 simp only at hi hj hf hc hcl hk hcp hF
 conv => whnf
 refine CallN.box 10 rfl (over_spec b s k1 hf _) fun v V2 bs hV2 ⟨hv, hb2⟩ => ⟨92, picksC s k1, hb2, ?_⟩
 subst hv; conv => whnf
 apply br <;> intro h3 <;> conv => whnf
 ·repeat (refine br_t h3 ?_; conv => whnf)
  apply br <;> intro h4 <;> conv => whnf
  ·have hi0 : (rows.length : Int) < most := of_decide_eq_true h4
   have hi1 : rows.length < most := by omega
   refine CallN.box 10 rfl (rowc_specF b s k1 hf cols nm p cols.length cap q ql qc _ (hs.mono le_auto) (h.mono le_auto) rfl) fun v V3 bs hV3 ⟨l, k2, hl, hrc, hf2, hb3, hN⟩ => ⟨92, picksC s k2, hb3, ?_⟩
   obtain ⟨rb, rcap, hv⟩ := row_shape hl
   subst hv; conv => whnf
   intro b4 V4 hV4 h5
   conv => whnf
   refine AppN.toc (rows ++ [l]).length (by simp) cells [.slice rb l.length rcap] (hcl.mono le_auto) (by rw [hc.len]; exact (Nat.mul_one _).symm) h5 rfl rfl (by simp; omega) (by decide) fun base' cap' V5 hV5 hc5 hcp5 => ?_; conv => whnf
   refine ⟨j - 1, (base', cap', rows ++ [l], cells ++ [.slice rb l.length rcap], k2), by omega, ?_, ?_, ?_⟩
   ·repeat' (first | exact sees_nil | refine sees_cons rfl rfl rfl ?_)
   ·repeat' (first | exact keeps_nil | refine keeps_cons rfl ?_ | refine keeps_free ?_)
   ·refine ⟨View.le_trans hV le_auto, by simp; omega, by simp; omega, hf2, (hc.mono le_auto).snoc (hl.mono le_auto), hc5, fun r hr => ?_, hcp5, ?_⟩
    rotate_left
    ·have hd : most - rows.length = (most - (rows ++ [l]).length) + 1 := by simp; omega
     have hko : ¬ k1 ≥ (s.l.length : Int) := of_decide_eq_false (by simpa using h3)
     rw [hd, rowsF, if_neg hko, ← hN] at hF
     show _ = (rows ++ [l]) ++ _
     rw [List.append_assoc]; exact hF
    rcases List.mem_append.1 hr with h6 | h6
    ·exact hk r h6
    ·rw [List.mem_singleton.1 h6]; exact hrc
  ·have hi2 : ¬ (rows.length : Int) < most := of_decide_eq_false h4
   refine ret_pure ⟨rows, base, cp, rfl, hcp, plain_cells hcl, RowsAt.of_cells (hc.mono le_auto) (hcl.mono le_auto) (by omega), hk, hi, ?_⟩
   rw [hF]
   rw [show most - rows.length = 0 by omega, rowsF, List.append_nil]
 ·repeat (refine br_f h3 ?_; conv => whnf)
  have hko : k1 ≥ (s.l.length : Int) := of_decide_eq_true (by simpa using h3)
  refine ret_pure ⟨rows, base, cp, rfl, hcp, plain_cells hcl, RowsAt.of_cells (hc.mono le_auto) (hcl.mono le_auto) (by omega), hk, hi, ?_⟩
  rw [hF]
  cases most - rows.length <;> simp [rowsF, hko]
theorem rowsC_spec (s : Src) (cols : List ColT) (nm : ByteArray) (p n cap : Nat) (q : Option Addr) (ql qc most : Nat) (V : View) (hs : s.ok V) (h : ColsLie V cols p) (hn : n = cols.length) (hm : most ≤ 100) :
  PSpec 6 [s.slice, .agg #[.string nm, .slice (some ⟨p, 0, none⟩) n cap, .slice q ql qc], .int .i64 most] V
   (fun v V' => ∃ rows base rcap, v = .slice base rows.length rcap ∧ rows.length ≤ rcap ∧ Plain base ∧ RowsAt V' rows base ∧ (∀ r ∈ rows, RowC cols r) ∧ rows.length ≤ most) :=
 (rowsC_specF s cols nm p n cap q ql qc most V hs h hn hm).mono fun v V' _ _ ⟨rows, base, rcap, h1, h2, h3, h4, h5, h6, _⟩ => ⟨rows, base, rcap, h1, h2, h3, h4, h5, h6⟩
theorem rows_spec (s : Src) (cols : List ColT) (nm : ByteArray) (p n cap : Nat) (q : Option Addr) (ql qc most : Nat) (V : View) (hs : s.ok V) (h : ColsLie V cols p) (hn : n = cols.length) (hm : most ≤ 100) :
  PSpec 6 [s.slice, .agg #[.string nm, .slice (some ⟨p, 0, none⟩) n cap, .slice q ql qc], .int .i64 most] V
   (fun v V' => ∃ rows, RowsV V' rows v ∧ (∀ r ∈ rows, RowC cols r) ∧ rows.length ≤ most) :=
 (rowsC_spec s cols nm p n cap q ql qc most V hs h hn hm).mono fun v V' _ _ ⟨rows, base, rcap, h1, _, h2, h3, h4, h5⟩ => ⟨rows, ⟨base, rcap, h1, h2, h3⟩, h4, h5⟩
/-- a table, as a value -/
structure TabV where
 nm : ByteArray
 p : Nat
 cols : List ColT
 cap : Nat
 q : Option Addr
 ql : Nat
 qc : Nat
def tvcells (t : TabV) : List Value := [.string t.nm, .slice (some ⟨t.p, 0, none⟩) t.cols.length t.cap, .slice t.q t.ql t.qc]
def tabv (t : TabV) : Value := .agg #[.string t.nm, .slice (some ⟨t.p, 0, none⟩) t.cols.length t.cap, .slice t.q t.ql t.qc]
def itemsOf (t : TabV) : List Item := t.cols.map fun c => ⟨0, t.nm, c.nm⟩
def TabOk (V : View) (t : TabV) : Prop := ColsLie V t.cols t.p
theorem itemsOf_len (t : TabV) : (itemsOf t).length = t.cols.length := by simp [itemsOf]
theorem items_len {ts : List TabV} {V : View} (h : ∀ t ∈ ts, TabOk V t) : (ts.flatMap itemsOf).length ≤ ts.length * 20 := by
 induction ts with
 | nil => simp
 | cons t ts ih =>
  have h1 := (h t List.mem_cons_self).small
  have h2 := ih fun t ht => h t (List.mem_cons_of_mem _ ht)
  rw [List.flatMap_cons, List.length_append, itemsOf_len, List.length_cons]
  omega
theorem take_succ_flat {α β : Type} {f : α → List β} {l : List α} {i : Nat} {x : α} (h : l[i]? = some x) : (l.take (i + 1)).flatMap f = (l.take i).flatMap f ++ f x := by
 rw [List.take_add_one, h]; simp
set_option maxHeartbeats 4000000 in
theorem named_spec (ts : List TabV) (b n cap : Nat) (V : View) (hb : V.has b 0 (ts.flatMap tvcells)) (hok : ∀ t ∈ ts, TabOk V t) (hn : n = ts.length) (hs : ts.length ≤ 4) :
  PSpec 49 [.slice (some ⟨b, 0, none⟩) n cap] V (fun v V' => ∃ base cap', v = .slice base (ts.flatMap itemsOf).length cap' ∧ V'.cells v ((ts.flatMap itemsOf).flatMap icells)) := by
 subst hn
 refine does_of_zfun [] mixed (args := [.v _]) (ms := []) Tryz.func49 (by kernel_rfl) rfl ?_; conv => whnf
 refine loopz (σ := Nat × Option Addr × Nat × List Item)
  (fun x => [(3, .row 28), (8, .v (.slice (some ⟨b, 0, none⟩) ts.length cap)), (9, .v (.int .i64 ts.length)), (10, .v (.int .i64 x.1))])
  (fun x => [(28, .row (.slice x.2.1 x.2.2.2.length x.2.2.1) 68 3 x.2.2.2.length)])
  (fun j x V' => V.le V' ∧ x.1 ≤ ts.length ∧ ts.length - x.1 = j ∧ x.2.2.2 = (ts.take x.1).flatMap itemsOf ∧ V'.cells (.slice x.2.1 x.2.2.2.length x.2.2.1) (x.2.2.2.flatMap icells))
  ts.length (0, none, 0, []) ?_ ?_ ?_ ?_
 ·repeat' (first | exact sees_nil | refine sees_cons rfl rfl rfl ?_)
 ·repeat' (first | exact keeps_nil | refine keeps_cons rfl ?_ | refine keeps_free ?_)
 ·exact ⟨View.le_refl _, Nat.zero_le _, by simp, by simp, rfl⟩
 rintro j ⟨i, base, cp, its⟩ V' ⟨hV, hi, hj, hits, hc⟩
 simp only at hi hj hits hc
 conv => whnf
 apply br <;> intro h3 <;> conv => whnf
 ·have hi0 : (i : Int) < ts.length := of_decide_eq_true h3
  have hi1 : i < ts.length := by omega
  obtain ⟨t, ht⟩ : ∃ t, ts[i]? = some t := ⟨_, List.getElem?_eq_getElem hi1⟩
  have hok1 := hok t (List.mem_of_getElem? ht)
  have hsm := hok1.small
  have htc := has_flat (n := 3) (fun _ => rfl) ts 0 hb i t ht
  have hil : its.length ≤ i * 20 := by
   rw [hits]
   have := items_len (ts := ts.take i) (V := V) (fun t ht => hok t (List.mem_of_mem_take ht))
   rw [List.length_take] at this
   omega
  refine IdxN.of (by omega) (by omega) ?_; conv => whnf
  refine LoadN.of (htc.mono le_auto) 0 rfl rfl ?_; conv => whnf
  repeat' ((first | refine br_t rfl ?_ | refine br_f rfl ?_ | refine IdxN.lit rfl rfl ?_ | intro _); conv => whnf)
  rename_i blk
  refine loopz (σ := Nat × Option Addr × Nat × List Item)
   (fun x => [(3, .row 28), (5, .own 5 0), (8, .v (.slice (some ⟨b, 0, none⟩) ts.length cap)), (9, .v (.int .i64 ts.length)), (10, .v (.int .i64 i)), (15, .v (.slice (some ⟨t.p, 0, none⟩) t.cols.length t.cap)), (16, .v (.int .i64 t.cols.length)), (17, .v (.int .i64 x.1))])
   (fun x => [(5, .box blk 33 (tvcells t)), (28, .row (.slice x.2.1 x.2.2.2.length x.2.2.1) 68 3 x.2.2.2.length)])
   (fun j2 x V2 => V'.le V2 ∧ x.1 ≤ t.cols.length ∧ t.cols.length - x.1 = j2 ∧ x.2.2.2 = its ++ ((itemsOf t).take x.1) ∧ V2.cells (.slice x.2.1 x.2.2.2.length x.2.2.1) (x.2.2.2.flatMap icells))
   t.cols.length (0, base, cp, its) ?_ ?_ ?_ ?_
  ·repeat' (first | exact sees_nil | refine sees_cons rfl rfl rfl ?_)
  ·repeat' (first | exact keeps_nil | refine keeps_cons rfl ?_ | refine keeps_free ?_)
  ·exact ⟨View.le_refl _, Nat.zero_le _, by simp, by simp, hc⟩
  rintro j2 ⟨m, base2, cp2, its2⟩ V2 ⟨hV2, hm, hj2, hits2, hc2⟩
  simp only at hm hj2 hits2 hc2
  conv => whnf
  apply br <;> intro h4 <;> conv => whnf
  ·have hm0 : (m : Int) < t.cols.length := of_decide_eq_true h4
   have hm1 : m < t.cols.length := by omega
   obtain ⟨c, hc1⟩ : ∃ c, t.cols[m]? = some c := ⟨_, List.getElem?_eq_getElem hm1⟩
   have hcc := has_flat (n := 3) (fun _ => rfl) t.cols 0 hok1.has m c hc1
   refine IdxN.of (by omega) (by omega) ?_; conv => whnf
   refine LoadN.of (hcc.mono le_auto) 0 rfl rfl ?_; conv => whnf
   repeat' ((first | refine br_t rfl ?_ | refine br_f rfl ?_ | refine IdxN.lit rfl rfl ?_ | intro _); conv => whnf)
   rename_i blk2 b3 V3 hV3 h5
   have hlen2 : its2.length ≤ 80 := by
    rw [hits2, List.length_append, List.length_take, itemsOf_len]
    omega
   have hx : (itemsOf t)[m]? = some ⟨0, t.nm, c.nm⟩ := by simp [itemsOf, hc1]
   refine AppN.to (its2 ++ [(⟨0, t.nm, c.nm⟩ : Item)]).length (by simp) (its2.flatMap icells) (icells ⟨0, t.nm, c.nm⟩) (hc2.mono le_auto) (flat_len (f := icells) (n := 3) (fun _ => rfl) its2) h5 rfl rfl (by simp; omega) (by decide) fun base' cap' V4 hV4 hc4 => ?_; conv => whnf
   have hw := wrap_nat (i := m) (by omega)
   refine ⟨j2 - 1, (m + 1, base', cap', its2 ++ [(⟨0, t.nm, c.nm⟩ : Item)]), by omega, ?_, ?_, ?_⟩
   ·repeat' (first | exact sees_nil | refine sees_cons rfl rfl rfl ?_ | refine sees_cons rfl rfl (by rw [← hw]; rfl) ?_)
   ·repeat' (first | exact keeps_nil | refine keeps_cons rfl ?_ | refine keeps_free ?_)
   ·refine ⟨View.le_trans hV2 le_auto, hm1, by show _ - (m + 1) = _; omega, ?_, by rw [List.flatMap_append]; simpa using hc4⟩
    show its2 ++ _ = _
    rw [hits2, List.append_assoc, List.take_add_one, hx]; rfl
  ·have hm0 : ¬ (m : Int) < t.cols.length := of_decide_eq_false h4
   have hm1 : m = t.cols.length := by omega
   have hw := wrap_nat (i := i) (by omega)
   refine ⟨j - 1, (i + 1, base2, cp2, its2), by omega, ?_, ?_, ?_⟩
   ·repeat' (first | exact sees_nil | refine sees_cons rfl rfl rfl ?_ | refine sees_cons rfl rfl (by rw [← hw]; rfl) ?_)
   ·repeat' (first | exact keeps_nil | refine keeps_cons rfl ?_ | refine keeps_free ?_)
   ·refine ⟨View.le_trans hV hV2, hi1, by show _ - (i + 1) = _; omega, ?_, hc2⟩
    show its2 = _
    rw [hits2, hits, hm1, take_succ_flat ht, ← itemsOf_len, List.take_length]
 ·have hi0 : ¬ (i : Int) < ts.length := of_decide_eq_false h3
  have hi1 : i = ts.length := by omega
  rw [hi1, List.take_length] at hits
  subst hits
  exact ret_pure ⟨base, cp, rfl, hc⟩
def iagg (x : Item) : Value := .agg #[.int .i64 x.agg, .string x.tb, .string x.nm]
/-- the first place where it holds; -1: none -/
def placeOf (p : Item → Bool) : List Item → Nat → Int
 | [], _ => -1
 | x :: l, n => if p x then (n : Int) else placeOf p l (n + 1)
theorem place1_spec (x : Item) (tb nm : ByteArray) (a b : Nat) (V : View) (ha : V.has a 0 [.string nm]) (hb : V.has b 0 [.string tb]) :
  PSpec 54 [iagg x, .pointer (some ⟨a, 0, none⟩), .pointer (some ⟨b, 0, none⟩)] V (fun v _ => v = .bool (hitI tb nm x)) := by
 refine does_of_zfun [] mixed (args := [.v _, .v _, .v _]) (ms := []) Tryz.func54 (by kernel_rfl) rfl ?_; conv => whnf
 repeat' ((first | refine br_t rfl ?_ | refine br_f rfl ?_ | refine IdxN.lit rfl rfl ?_ | intro _); conv => whnf)
 refine LoadN.of (ha.mono le_auto) 0 rfl rfl ?_; conv => whnf
 apply br <;> intro h1 <;> conv => whnf
 ·refine LoadN.of (hb.mono le_auto) 0 rfl rfl ?_; conv => whnf
  apply br <;> intro h2 <;> conv => whnf
  ·repeat (first | (refine br_t h1 ?_; conv => whnf) | (refine br_t h2 ?_; conv => whnf))
   refine ret_pure ?_
   have e1 : (x.nm.toList == nm.toList) = true := h1
   have e2 : (tb.toList == noText.toList) = true := h2
   simp only [hitI]
   rw [e1, e2]; rfl
  ·repeat (first | (refine br_t h1 ?_; conv => whnf) | (refine br_f h2 ?_; conv => whnf) | (refine LoadN.of (hb.mono le_auto) 0 rfl rfl ?_; conv => whnf))
   refine ret_pure ?_
   have e1 : (x.nm.toList == nm.toList) = true := h1
   have e2 : (tb.toList == noText.toList) = false := h2
   simp only [hitI]
   rw [e1, e2]; rfl
 ·repeat (refine br_f h1 ?_; conv => whnf)
  refine ret_pure ?_
  have e1 : (x.nm.toList == nm.toList) = false := h1
  simp only [hitI]
  rw [e1]; rfl
theorem index_spec (its : List Item) (base : Option Addr) (cap a b : Nat) (f : Item → Bool) (V : View) (hc : V.cells (.slice base its.length cap) (its.flatMap icells)) (hs : its.length ≤ 1000)
  (h : ∀ x V', V.le V' → PSpec 54 [iagg x, .pointer (some ⟨a, 0, none⟩), .pointer (some ⟨b, 0, none⟩)] V' (fun v _ => v = .bool (f x))) :
  PSpec 53 [.slice base its.length cap, .func (.func 54) #[] #[.pointer (some ⟨a, 0, none⟩), .pointer (some ⟨b, 0, none⟩)]] V (fun v _ => v = .int .i64 (placeOf f its 0)) := by
 refine does_of_zfun [] mixed (args := [.v _, .v _]) (ms := []) Tryz.func53 (by kernel_rfl) rfl ?_; conv => whnf
 refine loopz (σ := Nat) (fun i => [(0, .v (.slice base its.length cap)), (1, .v (.func (.func 54) #[] #[.pointer (some ⟨a, 0, none⟩), .pointer (some ⟨b, 0, none⟩)])), (7, .v (.int .i64 its.length)), (8, .v (.int .i64 i))]) (fun _ => [])
  (fun j i V' => V.le V' ∧ i ≤ its.length ∧ its.length - i = j ∧ placeOf f (its.drop i) i = placeOf f its 0) its.length 0 ?_ ?_ ?_ ?_
 ·repeat' (first | exact sees_nil | refine sees_cons rfl rfl rfl ?_)
 ·exact keeps_nil
 ·exact ⟨View.le_refl _, Nat.zero_le _, rfl, rfl⟩
 rintro j i V' ⟨hV, hi, hj, hp⟩
 conv => whnf
 apply br <;> intro h3 <;> conv => whnf
 ·have hi0 : (i : Int) < its.length := of_decide_eq_true h3
  have hi1 : i < its.length := by omega
  obtain ⟨x, hx⟩ : ∃ x, its[i]? = some x := ⟨_, List.getElem?_eq_getElem hi1⟩
  have hdrop : its.drop i = x :: its.drop (i + 1) := by
   rw [List.drop_eq_getElem_cons hi1]
   have e1 : its[i] = x := by rw [List.getElem?_eq_getElem hi1] at hx; exact Option.some.inj hx
   rw [e1]
  rw [hdrop, placeOf] at hp
  obtain ⟨p, off, rfl, hh⟩ := cells_some hc (fun e => by
   have := congrArg List.length e
   rw [flat_len (f := icells) (n := 3) (fun _ => rfl)] at this
   simp only [List.length_nil] at this
   omega)
  have hxi := has_flat (n := 3) (fun _ => rfl) its off hh i x hx
  refine IdxN.of (by omega) (by omega) ?_; conv => whnf
  refine LoadN.of (hxi.mono le_auto) 0 rfl rfl ?_; conv => whnf
  refine CallN.pure (h x _ le_auto) fun v V2 _ hV2 hv => ?_
  subst hv; conv => whnf
  apply br <;> intro h4 <;> conv => whnf
  ·refine ret_pure ?_
   rw [if_pos h4] at hp
   rw [← hp]; rfl
  ·rw [if_neg (by rw [h4]; simp)] at hp
   have hw := wrap_nat (i := i) (by omega)
   refine ⟨j - 1, i + 1, by omega, ?_, keeps_nil, View.le_trans hV hV2, hi1, by omega, hp⟩
   repeat' (first | exact sees_nil | refine sees_cons rfl rfl rfl ?_ | refine sees_cons rfl rfl (by rw [← hw]; rfl) ?_)
 ·have hi0 : ¬ (i : Int) < its.length := of_decide_eq_false h3
  refine ret_pure ?_
  rw [List.drop_eq_nil_of_le (by omega)] at hp
  rw [← hp]; rfl
theorem place_spec (its : List Item) (base rb : Option Addr) (cap rn rc : Nat) (tb nm : ByteArray) (V : View) (hc : V.cells (.slice base its.length cap) (its.flatMap icells)) (hs : its.length ≤ 1000) :
  PSpec 22 [.agg #[.slice base its.length cap, .slice rb rn rc], .string tb, .string nm] V (fun v _ => v = .int .i64 (placeOf (hitI tb nm) its 0)) := by
 refine does_of_zfun [] mixed (args := [.v _, .v _, .v _]) (ms := []) Tryz.func22 (by kernel_rfl) rfl ?_; conv => whnf
 repeat' ((first | refine br_t rfl ?_ | refine br_f rfl ?_ | refine IdxN.lit rfl rfl ?_ | intro _); conv => whnf)
 rename_i b3 b4 b5
 refine CallN.lend 4 rfl fun l4 => CallN.lend 5 rfl fun l5 => CallN.pure (index_spec its base cap b5 b4 (hitI tb nm) _ (hc.mono (View.le_trans l4 l5)) hs fun x V' hV' => place1_spec x tb nm b5 b4 V' (View.add_has.mono hV') ((View.add_has.mono l5).mono hV')) fun v V2 _ hV2 hv => ⟨⟨_, rfl⟩, rfl, ⟨_, rfl⟩, rfl, ?_⟩
 subst hv; conv => whnf
 exact ret_pure rfl
/-- the rows that count, up to the first error -/
def whereX (hold : List Val → Bool × Int) : List (List Val) → List (List Val) × Int
 | [] => ([], 0)
 | r :: l => if (hold r).2 ≠ 0 then ([], (hold r).2) else ((if (hold r).1 then r :: (whereX hold l).1 else (whereX hold l).1), (whereX hold l).2)
theorem whereX_len (hold : List Val → Bool × Int) : ∀ l, (whereX hold l).1.length ≤ l.length
 | [] => by simp [whereX]
 | r :: l => by
  unfold whereX
  have := whereX_len hold l
  split
  ·simp
  ·simp only
   split <;> simp only [List.length_cons] <;> omega
theorem new_cells {V V' : View} {base : Option Addr} {n c : Nat} {l : List Value} (h : ∀ p o, base = some ⟨p, o, none⟩ → ∀ k, V p k = none) (hc : V'.cells (.slice base n c) l) : (V.new V').cells (.slice base n c) l := by
 rcases plain_cells hc with rfl | ⟨p, o, rfl⟩
 ·exact hc
 ·exact fun i v hi => View.new_of (h p o rfl) (hc i v hi)
theorem nb_of {V V' : View} {base : Option Addr} {n c p : Nat} {l : List Value} (hc : V'.cells (.slice base n c) l) (hnb : ∀ p o, base = some ⟨p, o, none⟩ → ∀ k, V p k = none) (h : rowBlk (.slice base n c) = some p) : ∀ k, V p k = none := by
 rcases plain_cells hc with rfl | ⟨p', o', rfl⟩
 ·simp [rowBlk] at h
 ·simp only [rowBlk] at h
  split at h
  ·cases h
  ·simp only [Option.some.injEq] at h; subst h; exact hnb _ _ rfl
set_option maxHeartbeats 4000000 in
theorem where_new (its : List Item) (cb : Option Addr) (cc : Nat) (rows : List (List Val)) (rb : Option Addr) (rc : Nat) (wv : Value) (hold : List Val → Bool × Int) (V : View)
  (hc : V.cells (.slice cb its.length cc) (its.flatMap icells)) (cin : List Value) (hcin : CellsAt V rows cin) (hhas : rows ≠ [] → ∃ p off, rb = some ⟨p, off, none⟩ ∧ V.has p off cin) (hs : rows.length ≤ 1000)
  (hh : ∀ r ∈ rows, ∀ v V', V.le V' → RowAt V' r v → PSpec 51 [.slice cb its.length cc, v, wv] V' (fun v _ => v = .tuple #[.bool (hold r).1, .int .i64 (hold r).2])) :
  PSpec 20 [.agg #[.slice cb its.length cc, .slice rb rows.length rc], wv] V (fun v V' => ∃ t, v = .tuple #[t, .int .i64 (whereX hold rows).2] ∧ (∃ a n c a' n' c', t = .agg #[.slice a n c, .slice a' n' c']) ∧
   ((whereX hold rows).2 = 0 → ∃ rb' rc', t = .agg #[.slice cb its.length cc, .slice rb' (whereX hold rows).1.length rc'] ∧ ∃ cells', (V.new V').cells (.slice rb' (whereX hold rows).1.length rc') cells' ∧ ∀ W, CellsAt W rows cin → CellsAt W (whereX hold rows).1 cells')) := by
 refine does_of_zfun [] mixed (args := [.v _, .v _]) (ms := []) Tryz.func20 (by kernel_rfl) rfl ?_; conv => whnf
 repeat' ((first | refine br_t rfl ?_ | refine br_f rfl ?_ | refine IdxN.lit rfl rfl ?_ | intro _); conv => whnf)
 rename_i b2 b4 b6
 refine loopz (σ := Nat × Option Addr × Nat × List (List Val) × List Value)
  (fun x => [(1, .v wv), (2, .own 2 0), (4, .own 4 0), (6, .own 6 0), (15, .v (.slice rb rows.length rc)), (16, .v (.int .i64 rows.length)), (17, .v (.int .i64 x.1))])
  (fun x => [(2, .box b2 63 [.slice cb its.length cc, .slice rb rows.length rc]), (4, .box b4 63 [.slice none 0 0, .slice none 0 0]), (6, .box b6 63 [.slice cb its.length cc, .slice x.2.1 x.2.2.2.1.length x.2.2.1]), (40, .row (.slice x.2.1 x.2.2.2.1.length x.2.2.1) 42 1 x.2.2.2.1.length)])
  (fun j x V' => V.le V' ∧ x.1 ≤ rows.length ∧ rows.length - x.1 = j ∧ x.2.2.2.1.length ≤ x.1 ∧ (x.2.2.2.1 = [] → x.2.1 = none ∧ x.2.2.1 = 0) ∧ (∀ W, CellsAt W rows cin → CellsAt W x.2.2.2.1 x.2.2.2.2) ∧ (∀ p o, x.2.1 = some ⟨p, o, none⟩ → ∀ k, V p k = none) ∧ V'.cells (.slice x.2.1 x.2.2.2.1.length x.2.2.1) x.2.2.2.2 ∧
   whereX hold rows = (if (whereX hold (rows.drop x.1)).2 = 0 then (x.2.2.2.1 ++ (whereX hold (rows.drop x.1)).1, 0) else ((whereX hold rows).1, (whereX hold (rows.drop x.1)).2)))
  rows.length (0, none, 0, [], []) ?_ ?_ ?_ ?_
 ·repeat' (first | exact sees_nil | refine sees_cons rfl rfl rfl ?_)
 ·repeat' (first | exact keeps_nil | refine keeps_cons rfl ?_ | refine keeps_free ?_)
 ·refine ⟨View.le_refl _, Nat.zero_le _, by simp, Nat.le_refl _, fun _ => ⟨rfl, rfl⟩, fun _ _ => CellsAt.nil, (fun p o h => by cases h), rfl, ?_⟩
  simp only [List.drop_zero, List.nil_append]
  split
  ·rename_i h0; rw [← h0]
  ·rfl
 rintro j ⟨i, base, cp, out, cells⟩ V' ⟨hV, hi, hj, hl, hnil, hcw, hnb, hcl, hw⟩
 simp only at hi hj hl hnil hcw hnb hcl hw
 have hca := hcw V' (hcin.mono hV)
 conv => whnf
 apply br <;> intro h3 <;> conv => whnf
 ·have hi0 : (i : Int) < rows.length := of_decide_eq_true h3
  have hi1 : i < rows.length := by omega
  obtain ⟨r, hr1⟩ : ∃ r, rows[i]? = some r := ⟨_, List.getElem?_eq_getElem hi1⟩
  have hdrop : rows.drop i = r :: rows.drop (i + 1) := by
   rw [List.drop_eq_getElem_cons hi1]
   have e1 : rows[i] = r := by rw [List.getElem?_eq_getElem hi1] at hr1; exact Option.some.inj hr1
   rw [e1]
  rw [hdrop, whereX] at hw
  obtain ⟨p, off, hrb, hhs⟩ := hhas (fun e => by rw [e] at hr1; simp at hr1)
  obtain ⟨c, hc0⟩ : ∃ c, cin[i]? = some c := ⟨_, List.getElem?_eq_getElem (by rw [hcin.len]; exact hi1)⟩
  have hcell := has_one hhs hc0
  have hrow := hcin.at' i r c hr1 hc0
  subst hrb
  obtain ⟨rbase, rcap, hrv⟩ := row_shape hrow
  subst hrv
  have hone : off + i * 1 = off + i := by omega
  refine IdxN.of (by omega) (by omega) ?_; conv => whnf
  refine LoadN.of (hcell.mono le_auto) 0 (by show off + i * 1 = off + i + 0; omega) rfl ?_; conv => whnf
  refine CallN.pure (hh r (List.mem_of_getElem? hr1) (.slice rbase r.length rcap) _ le_auto (hrow.mono le_auto)) fun v V2 _ hV2 hv => ?_
  subst hv; conv => whnf
  have hwi := wrap_nat (i := i) (by omega)
  apply br <;> intro h4 <;> conv => whnf
  ·have h4 : (hold r).2 ≠ 0 := by simpa using h4
   rw [if_pos h4] at hw
   simp only [if_neg h4] at hw
   have hw2 : (whereX hold rows).2 = (hold r).2 := congrArg Prod.snd hw
   exact ret_pure ⟨_, by rw [hw2]; rfl, ⟨_, _, _, _, _, _, rfl⟩, fun h => absurd (hw2 ▸ h) h4⟩
  ·have h4 : (hold r).2 = 0 := by simpa using h4
   rw [if_neg (show ¬ (hold r).2 ≠ 0 from fun h => h h4)] at hw
   apply br <;> intro h5 <;> conv => whnf
   ·rw [if_pos h5] at hw
    intro b3 V3 hV3 h6
    conv => whnf
    rcases out with _ | ⟨r0, out1⟩
    ·obtain ⟨rfl, rfl⟩ := hnil rfl
     conv => whnf
     have hce : cells = [] := List.eq_nil_of_length_eq_zero (by rw [hca.len]; rfl)
     refine AppN.toN (([] : List (List Val)) ++ [r]).length rfl cells [.slice rbase r.length rcap] (by rw [hce]; rfl) (by rw [hce]; rfl) (.inr h6) rfl rfl (by simp) (by decide) fun base' cap' V4 hV4 hc4 _ hnw => ?_; conv => whnf
     refine ⟨j - 1, (i + 1, base', cap', ([] : List (List Val)) ++ [r], cells ++ [.slice rbase r.length rcap]), by omega, ?_, ?_, ?_⟩
     ·repeat' (first | exact sees_nil | refine sees_cons rfl rfl rfl ?_ | refine sees_cons rfl rfl (by rw [← hwi]; rfl) ?_)
     ·repeat' (first | exact keeps_nil | refine keeps_cons rfl ?_ | refine keeps_free ?_)
     ·refine ⟨View.le_trans hV le_auto, hi1, by show _ - (i + 1) = _; omega, by show (([] : List (List Val)) ++ [r]).length ≤ i + 1; simp only [List.length_append, List.length_cons, List.length_nil] at hl ⊢; omega, fun h => by simp at h, (fun W hW => (hcw W hW).snoc (hW.at' i r _ hr1 hc0)), (fun p o hb => (hnw (by simp) p o hb).1.elim (fun h => by simp [rowBlk] at h) fun h => View.none_of le_auto h), hc4, ?_⟩
      show _ = if _ then ((([] : List (List Val)) ++ [r]) ++ _, (0 : Int)) else _
      rw [List.append_assoc]; exact hw
    ·conv => whnf
     refine ⟨⟨40, _, rfl, ?_⟩⟩
     refine AppN.toN ((r0 :: out1) ++ [r]).length (by simp) cells [.slice rbase r.length rcap] (hcl.mono le_auto) (by rw [hca.len]; exact (Nat.mul_one _).symm) (.inr h6) rfl rfl (by simp only [List.length_append, List.length_cons, List.length_nil] at hl ⊢; omega) (by decide) fun base' cap' V4 hV4 hc4 _ hnw => ?_; conv => whnf
     refine ⟨j - 1, (i + 1, base', cap', (r0 :: out1) ++ [r], cells ++ [.slice rbase r.length rcap]), by omega, ?_, ?_, ?_⟩
     ·repeat' (first | exact sees_nil | refine sees_cons rfl rfl rfl ?_ | refine sees_cons rfl rfl (by rw [← hwi]; rfl) ?_)
     ·repeat' (first | exact keeps_nil | refine keeps_cons rfl ?_ | refine keeps_free ?_)
     ·refine ⟨View.le_trans hV le_auto, hi1, by show _ - (i + 1) = _; omega, by show ((r0 :: out1) ++ [r]).length ≤ i + 1; simp only [List.length_append, List.length_cons, List.length_nil] at hl ⊢; omega, fun h => by simp at h, (fun W hW => (hcw W hW).snoc (hW.at' i r _ hr1 hc0)), (fun p o hb => (hnw (by simp) p o hb).1.elim (fun h => nb_of hcl hnb h) fun h => View.none_of le_auto h), hc4, ?_⟩
      show _ = if _ then (((r0 :: out1) ++ [r]) ++ _, (0 : Int)) else _
      rw [List.append_assoc]; exact hw
   ·rw [if_neg (show ¬ (hold r).1 = true from by rw [h5]; simp)] at hw
    refine ⟨j - 1, (i + 1, base, cp, out, cells), by omega, ?_, ?_, ?_⟩
    ·repeat' (first | exact sees_nil | refine sees_cons rfl rfl rfl ?_ | refine sees_cons rfl rfl (by rw [← hwi]; rfl) ?_)
    ·repeat' (first | exact keeps_nil | refine keeps_cons rfl ?_ | refine keeps_free ?_)
    ·exact ⟨View.le_trans hV hV2, hi1, by show _ - (i + 1) = _; omega, by show out.length ≤ i + 1; omega, hnil, hcw, hnb, hcl.mono hV2, hw⟩
 ·have hi0 : ¬ (i : Int) < rows.length := of_decide_eq_false h3
  rw [List.drop_eq_nil_of_le (by omega)] at hw
  have hw : whereX hold rows = (out, 0) := by
   rw [hw]; simp [whereX]
  rw [hw]
  exact ret_pure ⟨_, rfl, ⟨_, _, _, _, _, _, rfl⟩, fun _ => ⟨base, cp, rfl, cells, new_cells hnb hcl, hcw⟩⟩
theorem where_spec (its : List Item) (cb : Option Addr) (cc : Nat) (rows : List (List Val)) (rb : Option Addr) (rc : Nat) (wv : Value) (hold : List Val → Bool × Int) (V : View)
  (hc : V.cells (.slice cb its.length cc) (its.flatMap icells)) (hr : RowsAt V rows rb) (hs : rows.length ≤ 1000)
  (hh : ∀ r ∈ rows, ∀ v V', V.le V' → RowAt V' r v → PSpec 51 [.slice cb its.length cc, v, wv] V' (fun v _ => v = .tuple #[.bool (hold r).1, .int .i64 (hold r).2])) :
  PSpec 20 [.agg #[.slice cb its.length cc, .slice rb rows.length rc], wv] V (fun v V' => ∃ t, v = .tuple #[t, .int .i64 (whereX hold rows).2] ∧ (∃ a n c a' n' c', t = .agg #[.slice a n c, .slice a' n' c']) ∧
   ((whereX hold rows).2 = 0 → ∃ rb' rc', t = .agg #[.slice cb its.length cc, .slice rb' (whereX hold rows).1.length rc'] ∧ Plain rb' ∧ RowsAt V' (whereX hold rows).1 rb')) := by
 obtain ⟨cin, hcin, hhas⟩ := hr.get
 refine (where_new its cb cc rows rb rc wv hold V hc cin hcin hhas hs hh).mono fun v V' _ hV ⟨t, h1, h2, h3⟩ => ⟨t, h1, h2, fun h0 => ?_⟩
 obtain ⟨rb', rc', h4, cells', h5, h6⟩ := h3 h0
 have h7 : V'.cells (.slice rb' (whereX hold rows).1.length rc') cells' := h5.mono View.new_le
 have hl := whereX_len hold rows
 exact ⟨rb', rc', h4, plain_cells h7, RowsAt.of_cells (h6 V' (hcin.mono hV)) h7 (by omega)⟩
/-- rows that lie in new blocks, and their headers in another -/
def NewV (V : View) (rows : List (List Val)) (v : Value) (V' : View) : Prop := ∃ base cap cells W, v = .slice base rows.length cap ∧ V.le W ∧ W.le V' ∧ W.cells (.slice base rows.length cap) cells ∧ CellsAt (W.new V') rows cells
theorem NewV.of {V V1 V' : View} {rows : List (List Val)} {base : Option Addr} {cap : Nat} {cells : List Value} (h1 : V.le V1) (h2 : V1.le V') (hc : CellsAt (V.new V1) rows cells) (ho : V'.cells (.slice base rows.length cap) cells) (hn : ∀ p o, base = some ⟨p, o, none⟩ → ∀ k, V1 p k = none) : NewV V rows (.slice base rows.length cap) V' := by
 rcases plain_cells ho with rfl | ⟨p, o, rfl⟩
 ·exact ⟨none, cap, cells, V, rfl, View.le_refl _, View.le_trans h1 h2, ho, hc.mono (View.new_step (View.le_refl _) h2)⟩
 ·have hp := hn p o rfl
  refine ⟨_, cap, cells, fun b k => if b = p then V' p k else V b k, rfl, fun b k u hu => ?_, fun b k u hu => ?_, fun i u hi => ?_, hc.mono fun b k u hu => ?_⟩
  ·have hbp : b ≠ p := fun e => by subst e; have := h1 b k u hu; rw [hp k] at this; cases this
   show (if b = p then _ else _) = _
   rw [if_neg hbp]; exact hu
  ·have hu : (if b = p then V' p k else V b k) = some u := hu
   split at hu
   ·rename_i e; subst e; exact hu
   ·exact h2 _ _ _ (h1 _ _ _ hu)
  ·show (if p = p then _ else _) = _
   rw [if_pos rfl]; exact ho i u hi
  ·obtain ⟨hb, hu1⟩ := View.new_some hu
   have hbp : b ≠ p := fun e => by subst e; rw [hp k] at hu1; cases hu1
   refine View.new_of (fun k' => ?_) (h2 _ _ _ hu1)
   show (if b = p then _ else _) = _
   rw [if_neg hbp]; exact hb k'
theorem NewV.nil {V V' : View} {base : Option Addr} {cap : Nat} (h : V.le V') (hp : Plain base) : NewV V [] (.slice base 0 cap) V' :=
  ⟨base, cap, [], V, rfl, View.le_refl _, h, by rcases hp with rfl | ⟨p, o, rfl⟩; · rfl
                                                · exact fun i u hi => by simp at hi, CellsAt.nil⟩
theorem NewV.of2 {V V' : View} {rows : List (List Val)} {base : Option Addr} {cap : Nat} {cells : List Value} (h : V.le V') (ho : V'.cells (.slice base rows.length cap) cells) (hc : CellsAt (V.new V') rows cells) (hc2 : ∀ p o, base = some ⟨p, o, none⟩ → CellsAt ((V.new V').cut p) rows cells) : NewV V rows (.slice base rows.length cap) V' := by
 rcases plain_cells ho with rfl | ⟨p, o, rfl⟩
 ·exact ⟨none, cap, cells, V, rfl, View.le_refl _, h, ho, hc⟩
 ·refine ⟨_, cap, cells, fun b k => if b = p then V' p k else V b k, rfl, fun b k u hu => ?_, fun b k u hu => ?_, fun i u hi => ?_, (hc2 p o rfl).mono fun b k u hu => ?_⟩
  ·show (if b = p then _ else _) = _
   split
   ·rename_i e; subst e; exact h b k u hu
   ·exact hu
  ·have hu : (if b = p then V' p k else V b k) = some u := hu
   split at hu
   ·rename_i e; subst e; exact hu
   ·exact h _ _ _ hu
  ·show (if p = p then _ else _) = _
   rw [if_pos rfl]; exact ho i u hi
  ·obtain ⟨hbp, hu⟩ := View.cut_some hu
   obtain ⟨hb, hu1⟩ := View.new_some hu
   refine View.new_of (fun k' => ?_) hu1
   show (if b = p then _ else _) = _
   rw [if_neg hbp]; exact hb k'
/-- new rows, and a block of headers apart from them -/
def Apart (V V' : View) (base : Option Addr) (out : List (List Val)) (cells : List Value) : Prop := CellsAt (V.new V') out cells ∧ ∀ p o, base = some ⟨p, o, none⟩ → CellsAt ((V.new V').cut p) out cells
theorem Apart.snoc {V Vi Vx V' : View} {base base' : Option Addr} {out : List (List Val)} {cells : List Value} {r : List Val} {c : Value} {n cap : Nat} (h : Apart V Vi base out cells) (hcl : Vi.cells (.slice base n cap) cells) (hnil : out = [] → base = none) (hV : V.le Vi) (hx : Vi.le Vx) (hr : RowAt (Vi.new Vx) r c) (hV' : Vx.le V')
  (hb : ∀ p o, base' = some ⟨p, o, none⟩ → (∃ o', base = some ⟨p, o', none⟩) ∨ ∀ k, Vx p k = none) : Apart V V' base' (out ++ [r]) (cells ++ [c]) := by
 have hle := View.le_trans hx hV'
 refine ⟨(h.1.mono (View.new_step (View.le_refl _) hle)).snoc (hr.mono (View.new_step hV hV')), fun p o hp => ?_⟩
 have hne : ∀ b o u, Vi.new Vx b o = some u → b ≠ p := fun b k u hu e => by
  subst e
  obtain ⟨h1, h2⟩ := View.new_some hu
  rcases hb b o hp with ⟨o', hb'⟩ | hb'
  ·subst hb'
   have hcn : cells ≠ [] := fun e => by
    have := hnil (List.eq_nil_of_length_eq_zero (by rw [← h.1.len, e]; rfl))
    cases this
   obtain ⟨x, l, hcl0⟩ := List.exists_cons_of_ne_nil hcn
   have := hcl 0 x (by rw [hcl0]; rfl)
   rw [h1] at this; cases this
  ·rw [hb' k] at h2; cases h2
 refine CellsAt.snoc ?_ (hr.mono fun b k u hu => View.cut_of (View.new_step hV hV' b k u hu) (hne b k u hu))
 rcases hb p o hp with ⟨o', hb'⟩ | hb'
 ·refine (h.2 p o' hb').mono fun b k u hu => ?_
  obtain ⟨h1, h2⟩ := View.cut_some hu
  exact View.cut_of (View.new_step (View.le_refl _) hle b k u h2) h1
 ·refine h.1.mono fun b k u hu => View.cut_of (View.new_step (View.le_refl _) hle b k u hu) fun e => ?_
  subst e
  have := hx _ _ _ (View.new_some hu).2
  rw [hb' k] at this; cases this
/-- a statement, as its cells: Kind Table Name Cols Tags Values Items Join On Where Order Desc Inner -/
structure StV where
 kind : Int
 tb : ByteArray
 nm : ByteArray
 s3 : Option Addr × Nat × Nat
 s4 : Option Addr × Nat × Nat
 s5 : Option Addr × Nat × Nat
 items : Option Addr × Nat × Nat
 join : ByteArray
 on : Option Addr × Nat × Nat
 wh : Option Addr × Nat × Nat
 order : Option Addr × Nat × Nat
 desc : Bool
 inner : Option Addr × Nat × Nat
def sl (x : Option Addr × Nat × Nat) : Value := .slice x.1 x.2.1 x.2.2
def stv (s : StV) : Value := .agg #[.int .i64 s.kind, .string s.tb, .string s.nm, .slice s.s3.1 s.s3.2.1 s.s3.2.2, .slice s.s4.1 s.s4.2.1 s.s4.2.2, .slice s.s5.1 s.s5.2.1 s.s5.2.2, .slice s.items.1 s.items.2.1 s.items.2.2, .string s.join,
 .slice s.on.1 s.on.2.1 s.on.2.2, .slice s.wh.1 s.wh.2.1 s.wh.2.2, .slice s.order.1 s.order.2.1 s.order.2.2, .bool s.desc, .slice s.inner.1 s.inner.2.1 s.inner.2.2]
/-- what rel.rows hands back: columns, new rows -/
def RowsN (V : View) (its : List Item) (rows : List (List Val)) (v : Value) (V' : View) : Prop := ∃ cb cc rb' rc' cells, v = .tuple #[.agg #[.slice cb its.length cc, .slice rb' rows.length rc'], .int .i64 0] ∧ V'.cells (.slice cb its.length cc) (its.flatMap icells) ∧ V'.cells (.slice rb' rows.length rc') cells ∧ CellsAt (V.new V') rows cells
set_option maxHeartbeats 4000000 in
/-- a select's rows, of one table -/
theorem rows1_new (s : StV) (t u : TabV) (u1 : Value) (hu : u1 = .agg #[.string u.nm, .slice none 0 0, .slice none 0 0]) (rows : List (List Val)) (rb ob : Option Addr) (rc on oc : Nat) (V : View) (hjn : s.join.toList = []) (ht : TabOk V t) (hr : RowsAt V rows rb) (hs : rows.length ≤ 1000) (hw : ∀ r ∈ rows, r.length ≤ 1000) :
  PSpec 19 [stv s, tabv t, u1, .slice rb rows.length rc, .slice ob on oc] V (RowsN V (itemsOf t) rows) := by
 subst hu
 obtain ⟨skind, stb, snm, s3, s4, s5, sit, sjoin, son, swh, sord, sdesc, sinn⟩ := s
 obtain ⟨tnm, tp, tcols, tcap, tq, tql, tqc⟩ := t
 simp only at hjn
 refine does_of_zfun [(5, [(0, []), (1, []), (2, []), (3, []), (4, []), (5, []), (6, []), (7, [])])] mixed (args := [.v _, .v _, .v _, .v _, .v _]) (ms := []) Tryz.func19 (by kernel_rfl) rfl ?_; conv => whnf
 repeat' ((first | refine br_t rfl ?_ | refine br_f rfl ?_ | refine IdxN.lit rfl rfl ?_ | intro _); conv => whnf)
 rename_i b5 b6 b7 b10 bt V1 hV1 h1
 refine CallN.pure (named_spec [⟨tnm, tp, tcols, tcap, tq, tql, tqc⟩] bt 1 1 _ h1 (fun t' ht' => by rw [List.mem_singleton.1 ht']; exact ht.mono le_auto) rfl (by show 1 ≤ 4; decide)) fun v V2 _ hV2 ⟨cb, cc, hv, hc⟩ => ?_
 simp only [List.flatMap_cons, List.flatMap_nil, List.append_nil] at hv hc
 subst hv; conv => whnf
 repeat' ((first | refine br_t rfl ?_ | refine br_f rfl ?_ | refine IdxN.lit rfl rfl ?_ | intro _); conv => whnf)
 rename_i b12
 refine loopz (σ := Nat × Option Addr × Nat × List (List Val) × List Value)
  (fun x => [(5, .own 5 0), (10, .own 10 0), (12, .own 12 0), (19, .v (.slice rb rows.length rc)), (20, .v (.int .i64 rows.length)), (21, .v (.int .i64 x.1))])
  (fun x => (5, .box b5 30 [.int .i64 skind, .string stb, .string snm, .slice s3.1 s3.2.1 s3.2.2, .slice s4.1 s4.2.1 s4.2.2, .slice s5.1 s5.2.1 s5.2.2, .slice sit.1 sit.2.1 sit.2.2, .string sjoin, .slice son.1 son.2.1 son.2.2, .slice swh.1 swh.2.1 swh.2.2, .slice sord.1 sord.2.1 sord.2.2, .bool sdesc, .slice sinn.1 sinn.2.1 sinn.2.2]) ::
   (10, .box b10 63 [.slice none 0 0, .slice none 0 0]) :: (12, .box b12 63 [.slice cb (itemsOf ⟨tnm, tp, tcols, tcap, tq, tql, tqc⟩).length cc, .slice x.2.1 x.2.2.2.1.length x.2.2.1]) ::
   (match x.2.2.2.1 with | [] => [] | _ :: _ => [(30, .row (.slice x.2.1 x.2.2.2.1.length x.2.2.1) 42 1 x.2.2.2.1.length)]))
  (fun j x V' => V2.le V' ∧ x.1 ≤ rows.length ∧ rows.length - x.1 = j ∧ x.2.2.2.1 = rows.take x.1 ∧ (x.2.2.2.1 = [] → x.2.1 = none ∧ x.2.2.1 = 0) ∧ CellsAt (V.new V') x.2.2.2.1 x.2.2.2.2 ∧ V'.cells (.slice x.2.1 x.2.2.2.1.length x.2.2.1) x.2.2.2.2)
  rows.length (0, none, 0, [], []) ?_ ?_ ?_ ?_
 ·repeat' (first | exact sees_nil | refine sees_cons rfl rfl rfl ?_)
 ·repeat' (first | exact keeps_nil | refine keeps_cons rfl ?_ | refine keeps_free ?_)
 ·exact ⟨View.le_refl _, Nat.zero_le _, by simp, rfl, fun _ => ⟨rfl, rfl⟩, CellsAt.nil, rfl⟩
 rintro j ⟨i, base, cp, out, cells⟩ V' ⟨hV, hi, hj, hout, hnil, hca, hcl⟩
 simp only at hi hj hout hnil hca hcl
 rcases out with _ | ⟨r0, out1⟩
 ·obtain ⟨hb0, hcp0⟩ := hnil rfl
  subst hb0; subst hcp0
  conv => whnf
  apply br <;> intro h3 <;> conv => whnf
  ·have hi0 : (i : Int) < rows.length := of_decide_eq_true h3
   have hi1 : i < rows.length := by omega
   obtain ⟨r, hr1⟩ : ∃ r, rows[i]? = some r := ⟨_, List.getElem?_eq_getElem hi1⟩
   obtain ⟨p, off, c, rfl, hcell, hrow⟩ := hr.at hr1
   obtain ⟨rbase, rcap, hrv, hrp, hrva⟩ := hrow
   subst hrv
   refine IdxN.of (by omega) (by omega) ?_; conv => whnf
   refine LoadN.of (hcell.mono le_auto) 0 (by show off + i * 1 = off + i + 0; omega) rfl ?_; conv => whnf
   refine CallN.pure (clone_new r rbase rcap _ hrp (hrva.mono le_auto) (hw r (List.mem_of_getElem? hr1))) fun v V3 _ hV3 hv => ?_
   obtain ⟨qb, qc, hqv⟩ := row_shape hv
   subst hqv
   refine Prot.refl ?_; conv => whnf
   repeat' ((first | refine br_t rfl ?_ | refine br_f rfl ?_ | refine IdxN.lit rfl rfl ?_ | intro _); conv => whnf)
   rename_i lb lk
   skip
   refine AppN.to (([] : List (List Val)) ++ [r]).length (by simp) cells [.slice qb r.length qc] (hcl.mono le_auto) (by rw [hca.len]; exact (Nat.mul_one _).symm) lk.has rfl rfl (by simp only [List.length_append, List.length_cons, List.length_nil]; have := congrArg List.length hout; rw [List.length_take] at this; simp only [List.length_cons, List.length_nil] at this; omega) (by decide) fun base' cap' V4 hV4 hc4 => ?_; conv => whnf
   have hwi := wrap_nat (i := i) (by omega)
   refine ⟨j - 1, (i + 1, base', cap', ([] : List (List Val)) ++ [r], cells ++ [.slice qb r.length qc]), by omega, ?_, ?_, ?_⟩
   ·repeat' (first | exact sees_nil | refine sees_cons rfl rfl rfl ?_ | refine sees_cons rfl rfl (by rw [← hwi]; rfl) ?_)
   ·repeat' (first | exact keeps_nil | refine keeps_cons rfl ?_ | refine keeps_free ?_)
   ·refine ⟨View.le_trans hV le_auto, hi1, by show _ - (i + 1) = _; omega, ?_, fun h => by simp at h, (hca.mono (View.new_step (View.le_refl _) le_auto)).snoc (hv.mono (View.new_step le_auto le_auto)), hc4⟩
    show ([] : List (List Val)) ++ [r] = _
    rw [List.take_add_one, hr1, ← hout]; rfl
  ·have hi0 : ¬ (i : Int) < rows.length := of_decide_eq_false h3
   refine br_t (by rw [hjn]; simp [ByteArray.toList_eq]) ?_; conv => whnf
   have hall : ([] : List (List Val)) = rows := by rw [hout]; exact List.take_of_length_le (by omega)
   have hlr : rows.length = (([] : List (List Val))).length := by rw [hall]
   have hca' : CellsAt (V.new V') rows cells := hall ▸ hca
   refine ret_pure ⟨cb, cc, none, 0, cells, ?_, hc.mono le_auto, by rw [hlr]; exact hcl, hca'⟩
   rw [hlr]; rfl
 ·conv => whnf
  apply br <;> intro h3 <;> conv => whnf
  ·have hi0 : (i : Int) < rows.length := of_decide_eq_true h3
   have hi1 : i < rows.length := by omega
   obtain ⟨r, hr1⟩ : ∃ r, rows[i]? = some r := ⟨_, List.getElem?_eq_getElem hi1⟩
   obtain ⟨p, off, c, rfl, hcell, hrow⟩ := hr.at hr1
   obtain ⟨rbase, rcap, hrv, hrp, hrva⟩ := hrow
   subst hrv
   refine IdxN.of (by omega) (by omega) ?_; conv => whnf
   refine LoadN.of (hcell.mono le_auto) 0 (by show off + i * 1 = off + i + 0; omega) rfl ?_; conv => whnf
   refine CallN.pure (clone_new r rbase rcap _ hrp (hrva.mono le_auto) (hw r (List.mem_of_getElem? hr1))) fun v V3 _ hV3 hv => ?_
   obtain ⟨qb, qc, hqv⟩ := row_shape hv
   subst hqv
   refine Prot.refl ?_; conv => whnf
   repeat' ((first | refine br_t rfl ?_ | refine br_f rfl ?_ | refine IdxN.lit rfl rfl ?_ | intro _); conv => whnf)
   rename_i lb lk
   refine ⟨⟨30, _, rfl, rfl, ?_⟩⟩
   refine AppN.to ((r0 :: out1) ++ [r]).length (by simp) cells [.slice qb r.length qc] (hcl.mono le_auto) (by rw [hca.len]; exact (Nat.mul_one _).symm) lk.has rfl rfl (by simp only [List.length_append, List.length_cons, List.length_nil]; have := congrArg List.length hout; rw [List.length_take] at this; simp only [List.length_cons, List.length_nil] at this; omega) (by decide) fun base' cap' V4 hV4 hc4 => ?_; conv => whnf
   have hwi := wrap_nat (i := i) (by omega)
   refine ⟨j - 1, (i + 1, base', cap', (r0 :: out1) ++ [r], cells ++ [.slice qb r.length qc]), by omega, ?_, ?_, ?_⟩
   ·repeat' (first | exact sees_nil | refine sees_cons rfl rfl rfl ?_ | refine sees_cons rfl rfl (by rw [← hwi]; rfl) ?_)
   ·repeat' (first | exact keeps_nil | refine keeps_cons rfl ?_ | refine keeps_free ?_)
   ·refine ⟨View.le_trans hV le_auto, hi1, by show _ - (i + 1) = _; omega, ?_, fun h => by simp at h, (hca.mono (View.new_step (View.le_refl _) le_auto)).snoc (hv.mono (View.new_step le_auto le_auto)), hc4⟩
    show (r0 :: out1) ++ [r] = _
    rw [List.take_add_one, hr1, ← hout]; rfl
  ·have hi0 : ¬ (i : Int) < rows.length := of_decide_eq_false h3
   refine br_t (by rw [hjn]; simp [ByteArray.toList_eq]) ?_; conv => whnf
   have hall : (r0 :: out1) = rows := by rw [hout]; exact List.take_of_length_le (by omega)
   have hlr : rows.length = ((r0 :: out1)).length := by rw [hall]
   have hca' : CellsAt (V.new V') rows cells := hall ▸ hca
   refine ret_pure ⟨cb, cc, base, cp, cells, ?_, hc.mono le_auto, by rw [hlr]; exact hcl, hca'⟩
   rw [hlr]; rfl
theorem rows1_spec (s : StV) (t u : TabV) (u1 : Value) (hu : u1 = .agg #[.string u.nm, .slice none 0 0, .slice none 0 0]) (rows : List (List Val)) (rb ob : Option Addr) (rc on oc : Nat) (V : View) (hjn : s.join.toList = []) (ht : TabOk V t) (hr : RowsAt V rows rb) (hs : rows.length ≤ 1000) (hw : ∀ r ∈ rows, r.length ≤ 1000) :
  PSpec 19 [stv s, tabv t, u1, .slice rb rows.length rc, .slice ob on oc] V (fun v V' => ∃ cb cc rb' rc', v = .tuple #[.agg #[.slice cb (itemsOf t).length cc, .slice rb' rows.length rc'], .int .i64 0] ∧ V'.cells (.slice cb (itemsOf t).length cc) ((itemsOf t).flatMap icells) ∧ Plain rb' ∧ RowsAt V' rows rb') :=
 (rows1_new s t u u1 hu rows rb ob rc on oc V hjn ht hr hs hw).mono fun v V' _ _ ⟨cb, cc, rb', rc', cells, h1, h2, h3, h4⟩ => ⟨cb, cc, rb', rc', h1, h2, plain_cells h3, RowsAt.of_cells (h4.mono View.new_le) h3 (by omega)⟩
theorem of0_spec (cv : Option Addr) (cn cc : Nat) (rb : Option Addr) (rn rc : Nat) (ib : Option Addr) (ic : Nat) (V : View) :
  PSpec 23 [.agg #[.slice cv cn cc, .slice rb rn rc], .slice ib 0 ic] V (fun v _ => v = .slice rb rn rc) := by
 refine does_of_zfun [] mixed (args := [.v _, .v _]) (ms := []) Tryz.func23 (by kernel_rfl) rfl ?_; conv => whnf
 repeat' ((first | refine br_t rfl ?_ | refine br_f rfl ?_ | refine IdxN.lit rfl rfl ?_ | intro _); conv => whnf)
 exact ret_pure rfl
theorem select1_spec (s : StV) (t u : TabV) (u1 : Value) (hu : u1 = .agg #[.string u.nm, .slice none 0 0, .slice none 0 0]) (rows : List (List Val)) (rb ob : Option Addr) (rc on oc : Nat) (hold : List Val → Bool × Int) (V : View) (hjn : s.join.toList = []) (hit : s.items.2.1 = 0) (hor : s.order.2.1 = 0)
  (ht : TabOk V t) (hr : RowsAt V rows rb) (hs : rows.length ≤ 1000) (hw : ∀ r ∈ rows, r.length ≤ 1000)
  (hh : ∀ cb cc, ∀ V1, V.le V1 → V1.cells (.slice cb (itemsOf t).length cc) ((itemsOf t).flatMap icells) → ∀ r ∈ rows, ∀ v V', V1.le V' → RowAt V' r v → PSpec 51 [.slice cb (itemsOf t).length cc, v, .slice s.wh.1 s.wh.2.1 s.wh.2.2] V' (fun v _ => v = .tuple #[.bool (hold r).1, .int .i64 (hold r).2])) :
  PSpec 7 [stv s, tabv t, u1, .slice rb rows.length rc, .slice ob on oc] V (fun v V' => ∃ x, v = .tuple #[x, .int .i64 (whereX hold rows).2] ∧ ((whereX hold rows).2 = 0 → RowsV V' (whereX hold rows).1 x) ∧ ((whereX hold rows).2 ≠ 0 → x = .slice none 0 0)) := by
 obtain ⟨skind, stb, snm, s3, s4, s5, sit, sjoin, son, swh, sord, sdesc, sinn⟩ := s
 obtain ⟨itb, itn, itc⟩ := sit
 obtain ⟨orb, orn, orc⟩ := sord
 simp only at hit hor hjn hh
 subst hit; subst hor
 subst hu
 refine does_of_zfun [(12, [(0, []), (1, []), (2, []), (3, []), (4, []), (5, []), (6, []), (8, []), (9, []), (7, []), (10, []), (11, []), (12, [])])] mixed (args := [.v _, .v _, .v _, .v _, .v _]) (ms := []) Tryz.func7 (by kernel_rfl) rfl ?_
 obtain ⟨tnm, tp, tcols, tcap, tq, tql, tqc⟩ := t
 conv => whnf
 repeat' ((first | refine br_t rfl ?_ | refine br_f rfl ?_ | refine IdxN.lit rfl rfl ?_ | intro _); conv => whnf)
 refine CallN.pure (rows1_spec ⟨skind, stb, snm, s3, s4, s5, (itb, 0, itc), sjoin, son, swh, (orb, 0, orc), sdesc, sinn⟩ ⟨tnm, tp, tcols, tcap, tq, tql, tqc⟩ u _ rfl rows rb ob rc on oc _ hjn (ht.mono le_auto) (hr.mono le_auto) hs hw) fun v V1 _ hV1 ⟨cb, cc, rb', rc', hv, hc, hpl, hr'⟩ => ?_
 subst hv; conv => whnf
 repeat' ((first | refine br_t rfl ?_ | refine br_f rfl ?_ | refine IdxN.lit rfl rfl ?_ | intro _); conv => whnf)
 refine CallN.pure (where_spec (itemsOf ⟨tnm, tp, tcols, tcap, tq, tql, tqc⟩) cb cc rows rb' rc' (.slice swh.1 swh.2.1 swh.2.2) hold _ (hc.mono le_auto) (hr'.mono le_auto) hs (fun r hrm v V' hV' hra => hh cb cc V1 le_auto hc r hrm v V' le_auto hra)) fun v V2 _ hV2 ⟨tv, hv, ⟨a1, n1, c1, a2, n2, c2, ht2⟩, hok⟩ => ?_
 subst hv
 subst ht2; conv => whnf
 generalize hW : whereX hold rows = W at *
 apply br <;> intro h3 <;> conv => whnf
 ·have h3 : W.2 ≠ 0 := by simpa using h3
  exact ret_pure ⟨_, rfl, fun h => absurd h h3, fun _ => rfl⟩
 ·have h3 : W.2 = 0 := by simpa using h3
  obtain ⟨rb2, rc2, he, hp2, hr2⟩ := hok h3
  simp only [Value.agg.injEq, Array.mk.injEq, List.cons.injEq, Value.slice.injEq, and_true] at he
  obtain ⟨_, rfl, rfl, rfl⟩ := he
  repeat' ((first | refine br_t rfl ?_ | refine br_f rfl ?_ | refine IdxN.lit rfl rfl ?_ | intro _); conv => whnf)
  refine unrollz 1 ?_; conv => whnf
  repeat' ((first | refine br_t rfl ?_ | refine br_f rfl ?_ | refine IdxN.lit rfl rfl ?_ | intro _); conv => whnf)
  refine CallN.pure (of0_spec _ _ _ _ _ _ itb itc _) fun v V3 _ hV3 hv => ?_
  subst hv; conv => whnf
  repeat' ((first | refine br_t rfl ?_ | refine br_f rfl ?_ | refine IdxN.lit rfl rfl ?_ | intro _); conv => whnf)
  exact ret_pure ⟨_, by rw [h3]; rfl, fun _ => ⟨a2, c2, rfl, hp2, hr2.mono le_auto⟩, fun h => absurd h3 h⟩
theorem ins1_spec (b : Option Addr) (c : Nat) (f : Value) (V : View) : PSpec 95 [.slice b 1 c, .int .i64 0, .int .i64 1, f] V (fun v _ => v = .tuple #[]) := by
 refine does_of_zfun [(4, [(0, []), (1, []), (2, []), (3, []), (4, []), (5, []), (6, []), (7, []), (8, []), (9, []), (10, []), (11, []), (12, []), (13, []), (14, []), (15, []), (16, [])]), (6, [(1000, [0, 1, 2, 3, 4, 5, 6, 7, 8, 10, 11, 12, 9, 13, 14, 15, 16, 17])])] mixed (args := [.v _, .v _, .v _, .v _]) (ms := []) Tryz.func95 (by kernel_rfl) rfl ?_; conv => whnf
 repeat' ((first | refine br_t rfl ?_ | refine br_f rfl ?_ | refine IdxN.lit rfl rfl ?_ | intro _); conv => whnf)
 refine unrollz 1 ?_; conv => whnf
 repeat' ((first | refine br_t rfl ?_ | refine br_f rfl ?_ | refine IdxN.lit rfl rfl ?_ | intro _); conv => whnf)
 exact ret_pure rfl
theorem stable1_spec (b : Option Addr) (c : Nat) (f : Value) (V : View) : PSpec 81 [.slice b 1 c, .int .i64 1, f] V (fun v _ => v = .tuple #[]) := by
 refine does_of_zfun [] mixed (args := [.v _, .v _, .v _]) (ms := []) Tryz.func81 (by kernel_rfl) rfl ?_; conv => whnf
 repeat' ((first | refine br_t rfl ?_ | refine br_f rfl ?_ | refine IdxN.lit rfl rfl ?_ | intro _); conv => whnf)
 refine unrollz 1 ?_; conv => whnf
 repeat' ((first | refine br_t rfl ?_ | refine br_f rfl ?_ | refine IdxN.lit rfl rfl ?_ | intro _); conv => whnf)
 refine CallN.pure (ins1_spec b c f _) fun v V1 _ hV1 hv => ?_
 subst hv; conv => whnf
 repeat' ((first | refine br_t rfl ?_ | refine br_f rfl ?_ | refine IdxN.lit rfl rfl ?_ | intro _); conv => whnf)
 refine unrollz 1 ?_; conv => whnf
 repeat' ((first | refine br_t rfl ?_ | refine br_f rfl ?_ | refine IdxN.lit rfl rfl ?_ | intro _); conv => whnf)
 exact ret_pure rfl
theorem sorts1_spec (b : Option Addr) (c : Nat) (f : Value) (V : View) : PSpec 62 [.slice b 1 c, f] V (fun v _ => v = .tuple #[]) := by
 refine does_of_zfun [] mixed (args := [.v _, .v _]) (ms := []) Tryz.func62 (by kernel_rfl) rfl ?_; conv => whnf
 repeat' ((first | refine br_t rfl ?_ | refine br_f rfl ?_ | refine IdxN.lit rfl rfl ?_ | intro _); conv => whnf)
 refine CallN.pure (stable1_spec b c f _) fun v V1 _ hV1 hv => ?_
 subst hv; conv => whnf
 repeat' ((first | refine br_t rfl ?_ | refine br_f rfl ?_ | refine IdxN.lit rfl rfl ?_ | intro _); conv => whnf)
 exact ret_pure rfl
theorem clone1_spec (p off c : Nat) (x : Value) (hx : x.oneCell' = true) (hxc : x.cells.toList = [x]) (V : View) (h : V.has p off [x]) : PSpec 61 [.slice (some ⟨p, off, none⟩) 1 c] V (fun v _ => ∃ b' c', v = .slice b' 1 c') := by
 refine does_of_zfun [] mixed (args := [.v _]) (ms := []) Tryz.func61 (by kernel_rfl) rfl ?_; conv => whnf
 repeat' ((first | refine br_t rfl ?_ | refine br_f rfl ?_ | refine IdxN.lit rfl rfl ?_ | intro _); conv => whnf)
 rename_i b1 V1 hV1 h1
 refine AppN.to 1 rfl [] [x] h1 rfl (h.mono le_auto) rfl (by show (match x.oneCell' with | true => true | false => false) = true; rw [hx]) (by decide) (by decide) fun base' cap' V3 hV3 hc3 => ?_; conv => whnf
 exact ret_pure ⟨base', cap', rfl⟩
theorem sorted1_spec (p off c : Nat) (x : Value) (hx : x.oneCell' = true) (hxc : x.cells.toList = [x]) (a : Nat) (d : Bool) (V : View) (h : V.has p off [x]) : PSpec 35 [.slice (some ⟨p, off, none⟩) 1 c, .func (.func 36) #[] #[.pointer (some ⟨a, 0, none⟩)], .bool d] V (fun v _ => ∃ b' c', v = .slice b' 1 c') := by
 refine does_of_zfun [] mixed (args := [.v _, .v _, .v _]) (ms := []) Tryz.func35 (by kernel_rfl) rfl ?_; conv => whnf
 repeat' ((first | refine br_t rfl ?_ | refine br_f rfl ?_ | refine IdxN.lit rfl rfl ?_ | intro _); conv => whnf)
 refine CallN.pure (clone1_spec p off c x hx hxc _ (h.mono le_auto)) fun v V1 _ hV1 ⟨b', c', hv⟩ => ?_
 subst hv; conv => whnf
 repeat' ((first | refine br_t rfl ?_ | refine br_f rfl ?_ | refine IdxN.lit rfl rfl ?_ | intro _); conv => whnf)
 refine CallN.pure (sorts1_spec b' c' _ _) fun v V2 _ hV2 hv => ?_
 subst hv; conv => whnf
 repeat' ((first | refine br_t rfl ?_ | refine br_f rfl ?_ | refine IdxN.lit rfl rfl ?_ | intro _); conv => whnf)
 exact ret_pure ⟨b', c', rfl⟩
theorem sort51_spec (b : Option Addr) (n c : Nat) (k : Int) (a : Nat) (V : View) (h : V.has a 0 [.int .i64 k]) : PSpec 34 [.slice b n c, .pointer (some ⟨a, 0, none⟩)] V (fun v _ => v = .bool (decide (k ≥ (n : Int)))) := by
 refine does_of_zfun [] mixed (args := [.v _, .v _]) (ms := []) Tryz.func34 (by kernel_rfl) rfl ?_; conv => whnf
 refine LoadN.of (h.mono le_auto) 0 rfl rfl ?_; conv => whnf
 repeat' ((first | refine br_t rfl ?_ | refine br_f rfl ?_ | refine IdxN.lit rfl rfl ?_ | intro _); conv => whnf)
 exact ret_pure rfl
theorem index1_spec (p off c a : Nat) (b : Option Addr) (n cp : Nat) (k : Int) (hk : k < n) (V : View) (h : V.has p off [.slice b n cp]) (ha : V.has a 0 [.int .i64 k]) :
  PSpec 60 [.slice (some ⟨p, off, none⟩) 1 c, .func (.func 34) #[] #[.pointer (some ⟨a, 0, none⟩)]] V (fun v _ => v = .int .i64 (-1)) := by
 refine does_of_zfun [] mixed (args := [.v _, .v _]) (ms := []) Tryz.func60 (by kernel_rfl) rfl ?_; conv => whnf
 repeat' ((first | refine br_t rfl ?_ | refine br_f rfl ?_ | refine IdxN.lit rfl rfl ?_ | intro _); conv => whnf)
 refine unrollz 2 ?_; conv => whnf
 repeat' ((first | refine br_t rfl ?_ | refine br_f rfl ?_ | refine IdxN.lit rfl rfl ?_ | intro _); conv => whnf)
 refine LoadN.of (h.mono le_auto) 0 rfl rfl ?_; conv => whnf
 repeat' ((first | refine br_t rfl ?_ | refine br_f rfl ?_ | refine IdxN.lit rfl rfl ?_ | intro _); conv => whnf)
 refine CallN.pure (sort51_spec b n cp k a _ (ha.mono le_auto)) fun v V1 _ hV1 hv => ?_
 subst hv; conv => whnf
 refine br_f (by simp; omega) ?_; conv => whnf
 repeat' ((first | refine br_t rfl ?_ | refine br_f rfl ?_ | refine IdxN.lit rfl rfl ?_ | intro _); conv => whnf)
 exact ret_pure rfl
theorem contains1_spec (p off c a : Nat) (b : Option Addr) (n cp : Nat) (k : Int) (hk : k < n) (V : View) (h : V.has p off [.slice b n cp]) (ha : V.has a 0 [.int .i64 k]) :
  PSpec 33 [.slice (some ⟨p, off, none⟩) 1 c, .func (.func 34) #[] #[.pointer (some ⟨a, 0, none⟩)]] V (fun v _ => v = .bool false) := by
 refine does_of_zfun [] mixed (args := [.v _, .v _]) (ms := []) Tryz.func33 (by kernel_rfl) rfl ?_; conv => whnf
 repeat' ((first | refine br_t rfl ?_ | refine br_f rfl ?_ | refine IdxN.lit rfl rfl ?_ | intro _); conv => whnf)
 refine CallN.pure (index1_spec p off c a b n cp k hk _ (h.mono le_auto) (ha.mono le_auto)) fun v V1 _ hV1 hv => ?_
 subst hv; conv => whnf
 repeat' ((first | refine br_t rfl ?_ | refine br_f rfl ?_ | refine IdxN.lit rfl rfl ?_ | intro _); conv => whnf)
 exact ret_pure rfl
theorem sort1_spec (r : List Val) (b : Option Addr) (cap p off c : Nat) (d : Bool) (hr0 : 0 < r.length) (hrs : r.length ≤ 1000) (hp : Plain b) (V : View) (h : V.has p off [.slice b r.length cap]) (hr : ValsAt V r b) :
  PSpec 10 [.slice (some ⟨p, off, none⟩) 1 c, .int .i64 0, .bool d] V (fun v _ => ∃ b' c', v = .slice b' 1 c') := by
 refine does_of_zfun [] mixed (args := [.v _, .v _, .v _]) (ms := []) Tryz.func10 (by kernel_rfl) rfl ?_; conv => whnf
 repeat' ((first | refine br_t rfl ?_ | refine br_f rfl ?_ | refine IdxN.lit rfl rfl ?_ | intro _); conv => whnf)
 rename_i b4
 refine unrollz 2 ?_; conv => whnf
 repeat' ((first | refine br_t rfl ?_ | refine br_f rfl ?_ | refine IdxN.lit rfl rfl ?_ | intro _); conv => whnf)
 refine LoadN.of (h.mono le_auto) 0 rfl rfl ?_; conv => whnf
 refine CallN.pure (clone_spec r b cap _ (.inr hp) (hr.mono le_auto) hrs) fun v V1 _ hV1 hv => ?_
 obtain ⟨qb, qc, hqv⟩ := row_shape hv
 subst hqv; conv => whnf
 intro b2 V2 hV2 h2
 conv => whnf
 refine AppN.to 1 rfl [] [.slice qb r.length qc] rfl rfl h2 rfl rfl (by decide) (by decide) fun base' cap' V3 hV3 hc3 => ?_; conv => whnf
 repeat' ((first | refine br_t rfl ?_ | refine br_f rfl ?_ | refine IdxN.lit rfl rfl ?_ | intro _); conv => whnf)
 obtain ⟨q3, o3, rfl, hh3⟩ := cells_some hc3 (by simp)
 refine CallN.lend 4 rfl fun l4 => CallN.pure (contains1_spec p off c b4 b r.length cap 0 (by omega) _ (h.mono le_auto) View.add_has) fun v V4 _ hV4 hv => ⟨⟨_, rfl⟩, rfl, ?_⟩
 subst hv; conv => whnf
 repeat' ((first | refine br_t rfl ?_ | refine br_f rfl ?_ | refine IdxN.lit rfl rfl ?_ | intro _); conv => whnf)
 have hh3 : V3.has q3 o3 [.slice qb r.length qc] := hh3
 refine CallN.pure (sorted1_spec q3 o3 cap' _ rfl rfl b4 d _ (hh3.mono le_auto)) fun v V5 _ hV5 ⟨b', c', hv⟩ => ?_
 subst hv; conv => whnf
 repeat' ((first | refine br_t rfl ?_ | refine br_f rfl ?_ | refine IdxN.lit rfl rfl ?_ | intro _); conv => whnf)
 exact ret_pure ⟨b', c', rfl⟩
theorem holdsN_spec (cb vb : Option Addr) (cl cc vl vc : Nat) (V : View) : PSpec 51 [.slice cb cl cc, .slice vb vl vc, .slice none 0 0] V (fun v _ => v = .tuple #[.bool true, .int .i64 0]) := by
 have h47 : ∀ sc V', PSpec 75 [.slice none 0 0, closure sc] V' (fun v _ => v = .tuple #[.slice none 0 0, .int .i64 0]) := fun sc V' => by
  refine does_of_zfun [] mixed (args := [.v _, .v _]) (ms := []) Tryz.func75 (by kernel_rfl) rfl ?_; conv => whnf
  repeat' ((first | refine br_t rfl ?_ | refine br_f rfl ?_ | refine IdxN.lit rfl rfl ?_ | intro _); conv => whnf)
  refine unrollz 1 ?_; conv => whnf
  repeat' ((first | refine br_t rfl ?_ | refine br_f rfl ?_ | refine IdxN.lit rfl rfl ?_ | intro _); conv => whnf)
  exact ret_pure rfl
 refine does_of_zfun [] mixed (args := [.v _, .v _, .v _]) (ms := []) Tryz.func51 (by kernel_rfl) rfl ?_; conv => whnf
 repeat' ((first | refine br_t rfl ?_ | refine br_f rfl ?_ | refine IdxN.lit rfl rfl ?_ | intro _); conv => whnf)
 refine CallN.pure (h47 _ _) fun v V1 _ hV1 hv => ?_
 subst hv; conv => whnf
 repeat' ((first | refine br_t rfl ?_ | refine br_f rfl ?_ | refine IdxN.lit rfl rfl ?_ | intro _); conv => whnf)
 refine unrollz 1 ?_; conv => whnf
 repeat' ((first | refine br_t rfl ?_ | refine br_f rfl ?_ | refine IdxN.lit rfl rfl ?_ | intro _); conv => whnf)
 exact ret_pure rfl
theorem whereX_all {hold : List Val → Bool × Int} (h : ∀ r, hold r = (true, 0)) : ∀ l, whereX hold l = (l, 0)
 | [] => rfl
 | r :: l => by rw [whereX, h r, whereX_all h l]; simp
theorem begun12_spec (V : View) : PSpec 4 [] V (fun v _ => v = .bool true) := by
 refine does_of_zfun [] mixed (args := []) (ms := []) Tryz.func4 (by kernel_rfl) rfl ?_; conv => whnf
 repeat' ((first | refine br_t rfl ?_ | refine br_f rfl ?_ | refine IdxN.lit rfl rfl ?_ | intro _); conv => whnf)
 rename_i b1 V1 hV1 h1 blk b2 V2 hV2 h2 b3 V3 hV3 h3
 have hvals : ValsAt V3 [⟨1, 3, noText⟩] (some ⟨b2, 0, none⟩) := ⟨fun _ => ⟨b2, 0, rfl, h2.mono le_auto⟩, by decide⟩
 have hrow : RowAt V3 [⟨1, 3, noText⟩] (.slice (some ⟨b2, 0, none⟩) 1 1) := ⟨_, 1, rfl, .inr (.inr ⟨b2, 0, rfl⟩), hvals⟩
 have hrows : RowsAt V3 [[⟨1, 3, noText⟩]] (some ⟨b3, 0, none⟩) := ⟨⟨[.slice (some ⟨b2, 0, none⟩) 1 1], CellsAt.snoc CellsAt.nil hrow, fun _ => ⟨b3, 0, rfl, h3⟩⟩, by decide⟩
 have hcols : ColsLie V3 [⟨txt [107], 1, noText⟩] b1 := ⟨h1.mono le_auto, fun c hc => by rw [List.mem_singleton.1 hc]; exact .inl rfl, by decide⟩
 refine CallN.pure (select1_spec ⟨6, txt [116], noText, (none, 0, 0), (none, 0, 0), (none, 0, 0), (none, 0, 0), noText, (none, 0, 0), (none, 0, 0), (none, 0, 0), false, (none, 0, 0)⟩ ⟨txt [116], b1, [⟨txt [107], 1, noText⟩], 1, none, 0, 0⟩ ⟨noText, 0, [], 0, none, 0, 0⟩ _ rfl
  [[⟨1, 3, noText⟩]] (some ⟨b3, 0, none⟩) none 1 0 0 (fun _ => (true, 0)) _ noText_list rfl rfl hcols hrows (by decide) (fun r hr => by rw [List.mem_singleton.1 hr]; decide) (fun cb cc V4 hV4 hc r hr v V5 hV5 hra => by
   obtain ⟨qb, qc, hqv⟩ := row_shape hra
   subst hqv
   exact holdsN_spec _ _ _ _ _ _ _)) fun v V4 _ hV4 ⟨x, hv, hok, _⟩ => ?_
 rw [whereX_all (fun _ => rfl)] at hv hok
 obtain ⟨rb, rc, hx, hpl, hr⟩ := hok rfl
 subst hx
 subst hv
 obtain ⟨p, off, c, hb, hcell, hrow2⟩ := hr.at (i := 0) rfl
 subst hb
 obtain ⟨qb, qc, hqv, hqp, hqvals⟩ := hrow2
 subst hqv
 obtain ⟨p2, off2, hb2, hval⟩ := hqvals.at (i := 0) rfl
 subst hb2; conv => whnf
 repeat' ((first | refine br_t rfl ?_ | refine br_f rfl ?_ | refine IdxN.lit rfl rfl ?_ | intro _); conv => whnf)
 refine LoadN.of (hcell.mono le_auto) 0 rfl rfl ?_; conv => whnf
 repeat' ((first | refine br_t rfl ?_ | refine br_f rfl ?_ | refine IdxN.lit rfl rfl ?_ | intro _); conv => whnf)
 refine LoadN.of (hcell.mono le_auto) 0 rfl rfl ?_; conv => whnf
 repeat' ((first | refine br_t rfl ?_ | refine br_f rfl ?_ | refine IdxN.lit rfl rfl ?_ | intro _); conv => whnf)
 refine LoadN.of (hval.mono le_auto) 1 rfl rfl ?_; conv => whnf
 repeat' ((first | refine br_t rfl ?_ | refine br_f rfl ?_ | refine IdxN.lit rfl rfl ?_ | intro _); conv => whnf)
 refine CallN.pure (sort1_spec [⟨1, 3, noText⟩] (some ⟨p2, off2, none⟩) qc p (off + 0) rc true (by decide) (by decide) (.inr ⟨p2, off2, rfl⟩) _ (hcell.mono le_auto) (hqvals.mono le_auto)) fun v V5 _ hV5 ⟨b', c', hv⟩ => ?_
 subst hv; conv => whnf
 repeat' ((first | refine br_t rfl ?_ | refine br_f rfl ?_ | refine IdxN.lit rfl rfl ?_ | intro _); conv => whnf)
 exact ret_pure rfl
theorem samerow_spec (r : List Val) (b1 b2 : Option Addr) (c1 c2 : Nat) (V : View) (h1 : ValsAt V r b1) (h2 : ValsAt V r b2) :
  PSpec 31 [.slice b1 r.length c1, .slice b2 r.length c2] V (fun v _ => v = .bool true) := by
 have hlen := h1.len
 refine does_of_zfun [(6, [(0, []), (1, []), (2, []), (3, []), (4, []), (5, []), (6, []), (7, []), (8, [])])] mixed (args := [.v _, .v _]) (ms := []) Tryz.func31 (by kernel_rfl) rfl ?_; conv => whnf
 refine br_f (by simp) ?_; conv => whnf
 refine loopz (σ := Nat) (fun i => [(0, .v (.slice b1 r.length c1)), (1, .v (.slice b2 r.length c2)), (5, .v (.int .i64 i))]) (fun _ => []) (fun j i V' => V.le V' ∧ i ≤ r.length ∧ r.length - i = j) r.length 0 ?_ ?_ ?_ ?_
 ·repeat' (first | exact sees_nil | refine sees_cons rfl rfl rfl ?_)
 ·exact keeps_nil
 ·exact ⟨View.le_refl _, Nat.zero_le _, rfl⟩
 rintro j i V' ⟨hV, hi, hj⟩
 conv => whnf
 apply br <;> intro h3 <;> conv => whnf
 ·have hi1 : i < r.length := by simpa using h3
  obtain ⟨x, hx⟩ : ∃ x, r[i]? = some x := ⟨_, List.getElem?_eq_getElem hi1⟩
  obtain ⟨p, off, hb, hh⟩ := h1.at hx
  obtain ⟨q, off2, hb2, hh2⟩ := h2.at hx
  subst hb; subst hb2
  refine IdxN.of (by omega) (by omega) ?_; conv => whnf
  refine LoadN.of (hh.mono le_auto) 0 rfl rfl ?_; conv => whnf
  refine IdxN.of (by omega) (by omega) ?_; conv => whnf
  refine LoadN.of (hh2.mono le_auto) 0 rfl rfl ?_; conv => whnf
  refine ⟨⟨_, nev_run _ _ x x, ?_⟩⟩
  conv => whnf
  have hsame : (!sameV x x) = false := by rw [sameV_self]; rfl
  refine br_f hsame ?_; conv => whnf
  refine ⟨j - 1, i + 1, by omega, ?_, keeps_nil, hV, hi1, by omega⟩
  have hw := wrap_big hi1 hlen
  repeat' (first | exact sees_nil | refine sees_cons rfl rfl rfl ?_ | refine sees_cons rfl rfl (by rw [← hw]; rfl) ?_)
 ·repeat' ((first | refine br_t rfl ?_ | refine br_f rfl ?_ | refine IdxN.lit rfl rfl ?_ | intro _); conv => whnf)
  exact ret_pure rfl
theorem samerows_spec (rows : List (List Val)) (b1 b2 : Option Addr) (c1 c2 : Nat) (V : View) (h1 : RowsAt V rows b1) (h2 : RowsAt V rows b2) :
  PSpec 9 [.slice b1 rows.length c1, .slice b2 rows.length c2] V (fun v _ => v = .bool true) := by
 have hlen := h1.len
 refine does_of_zfun [(6, [(0, []), (1, []), (2, []), (3, []), (4, []), (5, []), (6, []), (7, []), (8, []), (9, [])])] mixed (args := [.v _, .v _]) (ms := []) Tryz.func9 (by kernel_rfl) rfl ?_; conv => whnf
 refine br_f (by simp) ?_; conv => whnf
 refine loopz (σ := Nat) (fun i => [(0, .v (.slice b1 rows.length c1)), (1, .v (.slice b2 rows.length c2)), (5, .v (.int .i64 i))]) (fun _ => []) (fun j i V' => V.le V' ∧ i ≤ rows.length ∧ rows.length - i = j) rows.length 0 ?_ ?_ ?_ ?_
 ·repeat' (first | exact sees_nil | refine sees_cons rfl rfl rfl ?_)
 ·exact keeps_nil
 ·exact ⟨View.le_refl _, Nat.zero_le _, rfl⟩
 rintro j i V' ⟨hV, hi, hj⟩
 conv => whnf
 apply br <;> intro h3 <;> conv => whnf
 ·have hi1 : i < rows.length := by simpa using h3
  obtain ⟨r, hr1⟩ : ∃ r, rows[i]? = some r := ⟨_, List.getElem?_eq_getElem hi1⟩
  obtain ⟨p, off, c, hb, hcell, hrow⟩ := h1.at hr1
  obtain ⟨q, off2, c2, hb2, hcell2, hrow2⟩ := h2.at hr1
  obtain ⟨rb, rcap, hrv, _, hv1⟩ := hrow
  obtain ⟨rb2, rcap2, hrv2, _, hv2⟩ := hrow2
  subst hb; subst hb2; subst hrv; subst hrv2
  refine IdxN.of (by omega) (by omega) ?_; conv => whnf
  refine LoadN.of (hcell.mono le_auto) 0 (by show off + i * 1 = off + i + 0; omega) rfl ?_; conv => whnf
  refine IdxN.of (by omega) (by omega) ?_; conv => whnf
  refine LoadN.of (hcell2.mono le_auto) 0 (by show off2 + i * 1 = off2 + i + 0; omega) rfl ?_; conv => whnf
  refine CallN.pure (samerow_spec r rb rb2 rcap rcap2 _ (hv1.mono le_auto) (hv2.mono le_auto)) fun v V2 _ hV2 hv => ?_
  subst hv
  refine Prot.refl ?_; conv => whnf
  repeat' ((first | refine br_t rfl ?_ | refine br_f rfl ?_ | refine IdxN.lit rfl rfl ?_ | intro _); conv => whnf)
  refine ⟨j - 1, i + 1, by omega, ?_, keeps_nil, View.le_trans hV hV2, hi1, by omega⟩
  have hw := wrap_big hi1 hlen
  repeat' (first | exact sees_nil | refine sees_cons rfl rfl rfl ?_ | refine sees_cons rfl rfl (by rw [← hw]; rfl) ?_)
 ·repeat' ((first | refine br_t rfl ?_ | refine br_f rfl ?_ | refine IdxN.lit rfl rfl ?_ | intro _); conv => whnf)
  exact ret_pure rfl
/-- the reference's Holds -/
theorem rholds_spec (cs vs : Value) (p off cap : Nat) (x : XC) (r : Val × Int) (V : View) (hs : V.has p off (xcells x))
  (h : ∀ V', V.le V' → PSpec 25 [cs, vs, xagg x] V' (fun v _ => v = pairX r)) :
  PSpec 27 [cs, vs, .slice (some ⟨p, off, none⟩) 1 cap] V (fun v _ => v = .tuple #[.bool (holdsX r).1, .int .i64 (holdsX r).2]) := by
 refine does_of_zfun [] mixed (args := [.v _, .v _, .v _]) (ms := []) Tryz.func27 (by kernel_rfl) rfl ?_; conv => whnf
 repeat' ((first | refine br_t rfl ?_ | refine br_f rfl ?_ | refine IdxN.lit rfl rfl ?_ | intro _); conv => whnf)
 refine LoadN.of (hs.mono le_auto) 0 rfl rfl ?_; conv => whnf
 refine CallN.pure (h _ le_auto) fun v V1 _ hV1 hv => ?_
 subst hv
 obtain ⟨⟨rk, rn, rt⟩, re⟩ := r
 conv => whnf
 repeat' ((first | refine br_t rfl ?_ | refine br_f rfl ?_ | refine IdxN.lit rfl rfl ?_ | intro _); conv => whnf)
 apply br <;> intro h3 <;> conv => whnf
 ·repeat' ((first | refine br_t rfl ?_ | refine br_f rfl ?_ | refine IdxN.lit rfl rfl ?_ | intro _); conv => whnf)
  have h3 : re = 0 := by simpa using h3
  exact ret_pure (by rw [holdsX, if_pos h3]; subst h3; rfl)
 ·have h3 : re ≠ 0 := by simpa using h3
  exact ret_pure (by rw [holdsX, if_neg h3]; rfl)
theorem colsLie_T {V : View} {p : Nat} (h : V.has p 0 (colsT.flatMap ccells)) : ColsLie V colsT p := ⟨h, by decide, by decide⟩
theorem cmpV_bound (a b : Val) : -1 ≤ cmpV a b ∧ cmpV a b ≤ 1 := by
 unfold cmpV orI cmpI cmpS
 repeat' split
 all_goals omega
theorem sign_wrap {s : Int} (hs : s = 1 ∨ s = -1) (a b : Val) : IntKind.i64.wrap (s * cmpV a b) = s * cmpV a b := by
 have h := cmpV_bound a b
 rw [wrapE]
 rcases hs with rfl | rfl <;> omega
theorem best1_spec (a b : Val) (s : Int) (hs : s = 1 ∨ s = -1) (p : Nat) (V : View) (hp : V.has p 0 [.int .i64 s]) :
  PSpec 92 [vv a, vv b, .pointer (some ⟨p, 0, none⟩)] V (fun v _ => v = .int .i64 (s * cmpV a b)) := by
 refine does_of_zfun [(1, [(0, []), (1, []), (2, []), (3, []), (4, []), (5, [])])] mixed (args := [.v _, .v _, .v _]) (ms := []) Tryz.func92 (by kernel_rfl) rfl ?_; conv => whnf
 repeat' ((first | refine br_t rfl ?_ | refine br_f rfl ?_ | refine IdxN.lit rfl rfl ?_ | intro _); conv => whnf)
 refine LoadN.of (hp.mono le_auto) 0 rfl rfl ?_; conv => whnf
 refine CallN.pure (compare_spec a b _) fun v V1 _ hV1 hv => ?_
 subst hv
 refine Prot.refl ?_; conv => whnf
 repeat' ((first | refine br_t rfl ?_ | refine br_f rfl ?_ | refine IdxN.lit rfl rfl ?_ | intro _); conv => whnf)
 refine ret_pure ?_
 have h := sign_wrap hs a b
 show Value.int .i64 (IntKind.i64.wrap (s * cmpV a b)) = _
 rw [h]
/-- the value that stands ahead of all others -/
def maxF (s : Int) (m : Val) : List Val → Val
 | [] => m
 | y :: l => maxF s (if 0 < s * cmpV y m then y else m) l
set_option maxHeartbeats 4000000 in
theorem maxf_spec (x : Val) (l : List Val) (s : Int) (hs : s = 1 ∨ s = -1) (b p : Nat) (off cap : Nat) (V : View) (hb : V.has b 0 [.int .i64 s]) (hl : V.has p off ((x :: l).flatMap vcells)) (hlen : l.length ≤ 1000) :
  PSpec 91 [.slice (some ⟨p, off, none⟩) (x :: l).length cap, .func (.func 92) #[] #[.pointer (some ⟨b, 0, none⟩)]] V (fun v _ => v = vv (maxF s x l)) := by
 refine does_of_zfun [(7, [(0, []), (1, []), (2, []), (3, []), (4, []), (5, []), (6, []), (7, [])])] mixed (args := [.v _, .v _]) (ms := []) Tryz.func91 (by kernel_rfl) rfl ?_; conv => whnf
 repeat' ((first | refine br_t rfl ?_ | refine br_f rfl ?_ | refine IdxN.lit rfl rfl ?_ | intro _); conv => whnf)
 have h0 := has_flat (n := 3) (fun _ => rfl) (x :: l) off hl 0 x rfl
 refine IdxN.of (by omega) (by simp only [List.length_cons]; omega) ?_; conv => whnf
 refine LoadN.of (h0.mono le_auto) 0 rfl rfl ?_; conv => whnf
 repeat' ((first | refine br_t rfl ?_ | refine br_f rfl ?_ | refine IdxN.lit rfl rfl ?_ | intro _); conv => whnf)
 rename_i b4 b5
 refine loopz (σ := Nat × Val) (fun z => [(0, .v (.slice (some ⟨p, off, none⟩) (x :: l).length cap)), (1, .v (.func (.func 92) #[] #[.pointer (some ⟨b, 0, none⟩)])), (4, .own 4 0), (5, .own 5 0), (6, .v (.int .i64 z.1))])
  (fun z => [(4, .box b4 44 [.int .i64 0, .int .i64 0, .string noText]), (5, .box b5 44 (vcells z.2))])
  (fun j z V' => V.le V' ∧ 1 ≤ z.1 ∧ z.1 ≤ l.length + 1 ∧ l.length + 1 - z.1 = j ∧ maxF s z.2 (l.drop (z.1 - 1)) = maxF s x l) l.length (1, x) ?_ ?_ ?_ ?_
 ·repeat' (first | exact sees_nil | refine sees_cons rfl rfl rfl ?_)
 ·repeat' (first | exact keeps_nil | refine keeps_cons rfl ?_ | refine keeps_free ?_)
 ·exact ⟨View.le_refl _, Nat.le_refl _, by show 1 ≤ _; omega, by show l.length + 1 - 1 = _; omega, rfl⟩
 rintro j ⟨i, m⟩ V' ⟨hV, hi1, hi, hj, hm⟩
 simp only at hi1 hi hj hm
 obtain ⟨k, rfl⟩ : ∃ k, i = k + 1 := ⟨i - 1, by omega⟩
 conv => whnf
 apply br <;> intro h3 <;> conv => whnf
 ·have hk : k < l.length := by
   have := of_decide_eq_true h3
   simp only [List.length_cons] at this
   omega
  obtain ⟨y, hy⟩ : ∃ y, l[k]? = some y := ⟨_, List.getElem?_eq_getElem hk⟩
  have hy1 : (x :: l)[k + 1]? = some y := by simpa using hy
  have hyc := has_flat (n := 3) (fun _ => rfl) (x :: l) off hl (k + 1) y hy1
  have hdrop : l.drop k = y :: l.drop (k + 1) := by
   rw [List.drop_eq_getElem_cons hk]
   have e1 : l[k] = y := by rw [List.getElem?_eq_getElem hk] at hy; exact Option.some.inj hy
   rw [e1]
  have hm : maxF s m (y :: l.drop (k + 1)) = maxF s x l := by rw [← hdrop]; exact hm
  rw [maxF] at hm
  have hin : ((k + 1 : Nat) : Int) < (((x :: l).length : Nat) : Int) := by simp only [List.length_cons]; omega
  refine IdxN.of (by omega) hin ?_; conv => whnf
  refine LoadN.of (hyc.mono le_auto) 0 rfl rfl ?_; conv => whnf
  refine CallN.pure (best1_spec y m s hs b _ (hb.mono le_auto)) fun v V1 _ hV1 hv => ?_
  subst hv
  refine Prot.refl ?_; conv => whnf
  have hw := wrap_nat (i := k + 1) (by omega)
  apply br <;> intro h4 <;> conv => whnf
  ·have h4 : 0 < s * cmpV y m := of_decide_eq_true h4
   rw [if_pos h4] at hm
   refine IdxN.of (by omega) hin ?_; conv => whnf
   refine LoadN.of (hyc.mono le_auto) 0 rfl rfl ?_; conv => whnf
   refine ⟨j - 1, (k + 2, y), by omega, ?_, ?_, View.le_trans hV hV1, by show 1 ≤ k + 2; omega, by show k + 2 ≤ _; omega, by show _ - (k + 2) = _; omega, hm⟩
   ·repeat' (first | exact sees_nil | refine sees_cons rfl rfl rfl ?_ | refine sees_cons rfl rfl (by rw [← hw]; rfl) ?_)
   ·repeat' (first | exact keeps_nil | refine keeps_cons rfl ?_ | refine keeps_free ?_)
  ·have h4 : ¬ 0 < s * cmpV y m := of_decide_eq_false h4
   rw [if_neg h4] at hm
   refine ⟨j - 1, (k + 2, m), by omega, ?_, ?_, View.le_trans hV hV1, by show 1 ≤ k + 2; omega, by show k + 2 ≤ _; omega, by show _ - (k + 2) = _; omega, hm⟩
   ·repeat' (first | exact sees_nil | refine sees_cons rfl rfl rfl ?_ | refine sees_cons rfl rfl (by rw [← hw]; rfl) ?_)
   ·repeat' (first | exact keeps_nil | refine keeps_cons rfl ?_ | refine keeps_free ?_)
 ·have hk : ¬ k < l.length := by
   have := of_decide_eq_false h3
   simp only [List.length_cons] at this
   omega
  have hm : maxF s m (l.drop k) = maxF s x l := hm
  rw [List.drop_eq_nil_of_le (by omega)] at hm
  repeat' ((first | refine br_t rfl ?_ | refine br_f rfl ?_ | refine IdxN.lit rfl rfl ?_ | intro _); conv => whnf)
  exact ret_pure (by rw [← hm]; rfl)
/-- the best of values: none, an error -/
def bestX (s : Int) : List Val → Val × Int
 | [] => (v0, 23)
 | x :: l => (maxF s x l, 0)
theorem best_spec (l : List Val) (s : Int) (hs : s = 1 ∨ s = -1) (base : Option Addr) (cap : Nat) (V : View) (hl : ValsAt V l base) (hlen : l.length ≤ 1000) :
  PSpec 77 [.slice base l.length cap, .int .i64 s] V (fun v _ => v = pairX (bestX s l)) := by
 refine does_of_zfun [] mixed (args := [.v _, .v _]) (ms := []) Tryz.func77 (by kernel_rfl) rfl ?_; conv => whnf
 repeat' ((first | refine br_t rfl ?_ | refine br_f rfl ?_ | refine IdxN.lit rfl rfl ?_ | intro _); conv => whnf)
 rename_i b3 b4
 cases l with
 | nil =>
  refine br_t rfl ?_; conv => whnf
  repeat' ((first | refine br_t rfl ?_ | refine br_f rfl ?_ | refine IdxN.lit rfl rfl ?_ | intro _); conv => whnf)
  exact ret_pure rfl
 | cons x l =>
  refine br_f (by simp only [List.length_cons, decide_eq_false_iff_not, beq_eq_false_iff_ne]; omega) ?_; conv => whnf
  repeat' ((first | refine br_t rfl ?_ | refine br_f rfl ?_ | refine IdxN.lit rfl rfl ?_ | intro _); conv => whnf)
  obtain ⟨p, off, rfl, hh⟩ := hl.has (by simp)
  refine CallN.lend 3 rfl fun l3 => CallN.pure (maxf_spec x l s hs b3 p off cap _ View.add_has (hh.mono le_auto) (by simp only [List.length_cons] at hlen; omega)) fun v V2 _ hV2 hv => ⟨⟨_, rfl⟩, rfl, ?_⟩
  subst hv; conv => whnf
  repeat' ((first | refine br_t rfl ?_ | refine br_f rfl ?_ | refine IdxN.lit rfl rfl ?_ | intro _); conv => whnf)
  exact ret_pure rfl
end Go.Proofs.YtenpginanhnkbaaGreat
end
