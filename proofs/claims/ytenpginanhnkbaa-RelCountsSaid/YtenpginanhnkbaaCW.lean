/- One part of a proof: an evaluator of the model, shown right, and contracts that it yields. No condition beyond those that each theorem names. -/
import Derived.Test.YtenpginanhnkbaaCP
import Derived.Test.YtenpginanhnkbaaXY
section
set_option linter.unusedSimpArgs false
set_option linter.unusedVariables false
namespace Go.Proofs.Ytenpginanhnkbaa
open Go.X
set_option maxRecDepth 100000

/-! # RelCounts: statements as they are made -/
def kindsOf (t : TabV) : List Int := t.cols.map (·.kind)
def tv3 (r : Nat) : Value := .agg #[.slice (some ⟨r, 0, none⟩) 2 2, .slice none 0 0]
theorem items_snoc (t : TabV) (i : Nat) (c : ColT) (h : t.cols[i]? = some c) : (itemsOf t).take (i + 1) = (itemsOf t).take i ++ [⟨0, t.nm, c.nm⟩] := by
  rw [List.take_add_one, itemsOf, List.getElem?_map, h]; rfl
theorem kinds_snoc (t : TabV) (i : Nat) (c : ColT) (h : t.cols[i]? = some c) : (kindsOf t).take (i + 1) = (kindsOf t).take i ++ [c.kind] := by
  rw [List.take_add_one, kindsOf, List.getElem?_map, h]; rfl
/-- a table's columns, and their kinds: both lists may be appended to -/
def ColsO (t : TabV) (v : Value) (V' : View) (bs : List Res) : Prop := ∃ a ac b bc, v = .tuple #[.slice a t.cols.length ac, .slice b t.cols.length bc] ∧ V'.cells (.slice a t.cols.length ac) ((itemsOf t).flatMap icells) ∧ V'.cells (.slice b t.cols.length bc) ((kindsOf t).map (.int .i64 ·)) ∧
  bs = [.row (.slice a t.cols.length ac) 61 3 t.cols.length, .row (.slice b t.cols.length bc) 3 1 t.cols.length]
theorem colsP_spec (t : TabV) (V : View) (ht : TabOk V t) : Does Try.prog 16 [tabv t] V [] (ColsO t) := by
  obtain ⟨tnm, tp, tcols, tcap, tq, tql, tqc⟩ := t
  have hsm : tcols.length ≤ 20 := ht.small
  have hhas : V.has tp 0 (tcols.flatMap ccells) := ht.has
  refine does_of_zfun [(6, [(0, []), (1, []), (2, []), (3, []), (4, []), (5, []), (6, []), (7, []), (8, []), (9, []), (12, []), (13, []), (14, []), (15, []), (16, []), (17, []), (18, []), (10, [19]), (11, [19]), (19, []), (20, []), (21, []), (22, [])])] mixed (args := [.v _]) (ms := []) Try.func16 (by kernel_rfl) rfl ?_
  conv => whnf
  repeat' first
    | (refine br_t rfl ?_; conv => whnf)
    | (refine br_f rfl ?_; conv => whnf)
    | (refine IdxN.lit rfl rfl ?_; conv => whnf)
    | (intro _; conv => whnf)
  rename_i b1
  refine loopz (σ := Nat × (Option Addr × Nat) × (Option Addr × Nat))
    (fun x => [(1, .own 1 0), (4, .row 25), (5, .row 34), (6, .v (.int .i64 x.1))])
    (fun x => [(1, .box b1 27 [.string tnm, .slice (some ⟨tp, 0, none⟩) tcols.length tcap, .slice tq tql tqc]), (25, .row (.slice x.2.1.1 x.1 x.2.1.2) 61 3 x.1), (34, .row (.slice x.2.2.1 x.1 x.2.2.2) 3 1 x.1)])
    (fun j x V' => V.le V' ∧ x.1 ≤ tcols.length ∧ tcols.length - x.1 = j ∧ V'.cells (.slice x.2.1.1 x.1 x.2.1.2) (((itemsOf ⟨tnm, tp, tcols, tcap, tq, tql, tqc⟩).take x.1).flatMap icells) ∧ V'.cells (.slice x.2.2.1 x.1 x.2.2.2) (((kindsOf ⟨tnm, tp, tcols, tcap, tq, tql, tqc⟩).take x.1).map (.int .i64 ·)))
    tcols.length (0, (none, 0), (none, 0)) ?_ ?_ ?_ ?_
  · repeat' (first | exact sees_nil | refine sees_cons rfl rfl rfl ?_)
  · repeat' (first | exact keeps_nil | refine keeps_cons rfl ?_ | refine keeps_free ?_)
  · exact ⟨View.le_refl _, Nat.zero_le _, rfl, rfl, rfl⟩
  rintro j ⟨i, ⟨a, ac⟩, ⟨b, bc⟩⟩ V' ⟨hV, hi, hj, h1, h2⟩
  simp only at hi hj h1 h2
  conv => whnf
  apply br <;> intro h3 <;> conv => whnf
  · have hi1 : i < tcols.length := by have := of_decide_eq_true h3; omega
    obtain ⟨c, hc1⟩ : ∃ c, tcols[i]? = some c := ⟨_, List.getElem?_eq_getElem hi1⟩
    have hcc := has_flat (n := 3) (fun _ => rfl) tcols 0 hhas i c hc1
    refine IdxN.of (by omega) (by omega) ?_
    conv => whnf
    refine LoadN.of (hcc.mono (by repeat (first | exact View.le_refl _ | assumption | exact View.addU_le _ _ _ | refine View.le_trans ?_ (by assumption) | refine View.le_trans ?_ (View.addU_le _ _ _)))) 0 rfl rfl ?_
    conv => whnf
    refine IdxN.of (by omega) (by omega) ?_
    conv => whnf
    refine LoadN.of (hcc.mono (by repeat (first | exact View.le_refl _ | assumption | exact View.addU_le _ _ _ | refine View.le_trans ?_ (by assumption) | refine View.le_trans ?_ (View.addU_le _ _ _)))) 1 rfl rfl ?_
    conv => whnf
    repeat' first
      | (refine br_t rfl ?_; conv => whnf)
      | (refine br_f rfl ?_; conv => whnf)
      | (refine IdxN.lit rfl rfl ?_; conv => whnf)
      | (intro _; conv => whnf)
    rename_i lb lk
    have hl1 : (((itemsOf ⟨tnm, tp, tcols, tcap, tq, tql, tqc⟩).take i).flatMap icells).length = i * 3 := by
      rw [flat_len (n := 3) (fun _ => rfl), List.length_take, itemsOf_len]
      show min i tcols.length * 3 = _
      rw [Nat.min_eq_left hi]
    have hl2 : (((kindsOf ⟨tnm, tp, tcols, tcap, tq, tql, tqc⟩).take i).map (Value.int .i64 ·)).length = i * 1 := by
      rw [List.length_map, List.length_take]
      simp only [kindsOf, List.length_map]
      omega
    refine AppN.to (i + 1) rfl (((itemsOf ⟨tnm, tp, tcols, tcap, tq, tql, tqc⟩).take i).flatMap icells) (icells ⟨0, tnm, c.nm⟩) (h1.mono (by repeat (first | exact View.le_refl _ | assumption | exact View.addU_le _ _ _ | refine View.le_trans ?_ (by assumption) | refine View.le_trans ?_ (View.addU_le _ _ _)))) hl1 lk.has rfl rfl (by omega) (by decide) fun a' ac' V3 hV3 hc3 => ?_
    conv => whnf
    repeat' first
      | (refine br_t rfl ?_; conv => whnf)
      | (refine br_f rfl ?_; conv => whnf)
      | (refine IdxN.lit rfl rfl ?_; conv => whnf)
      | (intro _; conv => whnf)
    rename_i lb2 lk2
    refine AppN.to (i + 1) rfl (((kindsOf ⟨tnm, tp, tcols, tcap, tq, tql, tqc⟩).take i).map (Value.int .i64 ·)) [Value.int .i64 c.kind] (h2.mono (by repeat (first | exact View.le_refl _ | assumption | exact View.addU_le _ _ _ | refine View.le_trans ?_ (by assumption) | refine View.le_trans ?_ (View.addU_le _ _ _)))) hl2 lk2.has rfl rfl (by omega) (by decide) fun b' bc' V4 hV4 hc4 => ?_
    conv => whnf
    have hwi := wrap_nat (i := i) (by omega)
    refine ⟨j - 1, (i + 1, (a', ac'), (b', bc')), by omega, ?_, ?_, ?_⟩
    · repeat' (first | exact sees_nil | refine sees_cons rfl rfl rfl ?_ | refine sees_cons rfl rfl (by rw [← hwi]; rfl) ?_)
    · repeat' (first | exact keeps_nil | refine keeps_cons rfl ?_ | refine keeps_free ?_)
    · refine ⟨View.le_trans hV (by repeat (first | exact View.le_refl _ | assumption | exact View.addU_le _ _ _ | refine View.le_trans ?_ (by assumption) | refine View.le_trans ?_ (View.addU_le _ _ _))), hi1, by show _ - (i + 1) = _; omega, ?_, ?_⟩
      · show V4.cells (.slice a' (i + 1) ac') _
        rw [items_snoc _ i c hc1, List.flatMap_append]
        simpa using hc3.mono (by repeat (first | exact View.le_refl _ | assumption | exact View.addU_le _ _ _ | refine View.le_trans ?_ (by assumption) | refine View.le_trans ?_ (View.addU_le _ _ _)))
      · show V4.cells (.slice b' (i + 1) bc') _
        rw [kinds_snoc _ i c hc1, List.map_append]
        exact hc4
  · have hi1 : i = tcols.length := by have := of_decide_eq_false h3; omega
    subst hi1
    repeat' first
      | (refine br_t rfl ?_; conv => whnf)
      | (refine br_f rfl ?_; conv => whnf)
      | (refine IdxN.lit rfl rfl ?_; conv => whnf)
      | (intro _; conv => whnf)
    refine ⟨[25, 34], by simp, [_, _], rfl, a, ac, b, bc, rfl, ?_, ?_, rfl⟩
    · rw [List.take_of_length_le (by rw [itemsOf_len]; exact Nat.le_refl _)] at h1; exact h1
    · rw [List.take_of_length_le (by simp [kindsOf])] at h2; exact h2
theorem colsR_spec (t : TabV) (V : View) (ht : TabOk V t) : Does Try.prog 104 [tabv t] V [] (ColsO t) := by
  obtain ⟨tnm, tp, tcols, tcap, tq, tql, tqc⟩ := t
  have hsm : tcols.length ≤ 20 := ht.small
  have hhas : V.has tp 0 (tcols.flatMap ccells) := ht.has
  refine does_of_zfun [(6, [(0, []), (1, []), (2, []), (3, []), (4, []), (5, []), (6, []), (7, []), (8, []), (9, []), (12, []), (13, []), (14, []), (15, []), (16, []), (17, []), (18, []), (10, [19]), (11, [19]), (19, []), (20, []), (21, []), (22, [])])] mixed (args := [.v _]) (ms := []) Try.func104 (by kernel_rfl) rfl ?_
  conv => whnf
  repeat' first
    | (refine br_t rfl ?_; conv => whnf)
    | (refine br_f rfl ?_; conv => whnf)
    | (refine IdxN.lit rfl rfl ?_; conv => whnf)
    | (intro _; conv => whnf)
  rename_i b1
  refine loopz (σ := Nat × (Option Addr × Nat) × (Option Addr × Nat))
    (fun x => [(1, .own 1 0), (4, .row 25), (5, .row 34), (6, .v (.int .i64 x.1))])
    (fun x => [(1, .box b1 27 [.string tnm, .slice (some ⟨tp, 0, none⟩) tcols.length tcap, .slice tq tql tqc]), (25, .row (.slice x.2.1.1 x.1 x.2.1.2) 61 3 x.1), (34, .row (.slice x.2.2.1 x.1 x.2.2.2) 3 1 x.1)])
    (fun j x V' => V.le V' ∧ x.1 ≤ tcols.length ∧ tcols.length - x.1 = j ∧ V'.cells (.slice x.2.1.1 x.1 x.2.1.2) (((itemsOf ⟨tnm, tp, tcols, tcap, tq, tql, tqc⟩).take x.1).flatMap icells) ∧ V'.cells (.slice x.2.2.1 x.1 x.2.2.2) (((kindsOf ⟨tnm, tp, tcols, tcap, tq, tql, tqc⟩).take x.1).map (.int .i64 ·)))
    tcols.length (0, (none, 0), (none, 0)) ?_ ?_ ?_ ?_
  · repeat' (first | exact sees_nil | refine sees_cons rfl rfl rfl ?_)
  · repeat' (first | exact keeps_nil | refine keeps_cons rfl ?_ | refine keeps_free ?_)
  · exact ⟨View.le_refl _, Nat.zero_le _, rfl, rfl, rfl⟩
  rintro j ⟨i, ⟨a, ac⟩, ⟨b, bc⟩⟩ V' ⟨hV, hi, hj, h1, h2⟩
  simp only at hi hj h1 h2
  conv => whnf
  apply br <;> intro h3 <;> conv => whnf
  · have hi1 : i < tcols.length := by have := of_decide_eq_true h3; omega
    obtain ⟨c, hc1⟩ : ∃ c, tcols[i]? = some c := ⟨_, List.getElem?_eq_getElem hi1⟩
    have hcc := has_flat (n := 3) (fun _ => rfl) tcols 0 hhas i c hc1
    refine IdxN.of (by omega) (by omega) ?_
    conv => whnf
    refine LoadN.of (hcc.mono (by repeat (first | exact View.le_refl _ | assumption | exact View.addU_le _ _ _ | refine View.le_trans ?_ (by assumption) | refine View.le_trans ?_ (View.addU_le _ _ _)))) 0 rfl rfl ?_
    conv => whnf
    refine IdxN.of (by omega) (by omega) ?_
    conv => whnf
    refine LoadN.of (hcc.mono (by repeat (first | exact View.le_refl _ | assumption | exact View.addU_le _ _ _ | refine View.le_trans ?_ (by assumption) | refine View.le_trans ?_ (View.addU_le _ _ _)))) 1 rfl rfl ?_
    conv => whnf
    repeat' first
      | (refine br_t rfl ?_; conv => whnf)
      | (refine br_f rfl ?_; conv => whnf)
      | (refine IdxN.lit rfl rfl ?_; conv => whnf)
      | (intro _; conv => whnf)
    rename_i lb lk
    have hl1 : (((itemsOf ⟨tnm, tp, tcols, tcap, tq, tql, tqc⟩).take i).flatMap icells).length = i * 3 := by
      rw [flat_len (n := 3) (fun _ => rfl), List.length_take, itemsOf_len]
      show min i tcols.length * 3 = _
      rw [Nat.min_eq_left hi]
    have hl2 : (((kindsOf ⟨tnm, tp, tcols, tcap, tq, tql, tqc⟩).take i).map (Value.int .i64 ·)).length = i * 1 := by
      rw [List.length_map, List.length_take]
      simp only [kindsOf, List.length_map]
      omega
    refine AppN.to (i + 1) rfl (((itemsOf ⟨tnm, tp, tcols, tcap, tq, tql, tqc⟩).take i).flatMap icells) (icells ⟨0, tnm, c.nm⟩) (h1.mono (by repeat (first | exact View.le_refl _ | assumption | exact View.addU_le _ _ _ | refine View.le_trans ?_ (by assumption) | refine View.le_trans ?_ (View.addU_le _ _ _)))) hl1 lk.has rfl rfl (by omega) (by decide) fun a' ac' V3 hV3 hc3 => ?_
    conv => whnf
    repeat' first
      | (refine br_t rfl ?_; conv => whnf)
      | (refine br_f rfl ?_; conv => whnf)
      | (refine IdxN.lit rfl rfl ?_; conv => whnf)
      | (intro _; conv => whnf)
    rename_i lb2 lk2
    refine AppN.to (i + 1) rfl (((kindsOf ⟨tnm, tp, tcols, tcap, tq, tql, tqc⟩).take i).map (Value.int .i64 ·)) [Value.int .i64 c.kind] (h2.mono (by repeat (first | exact View.le_refl _ | assumption | exact View.addU_le _ _ _ | refine View.le_trans ?_ (by assumption) | refine View.le_trans ?_ (View.addU_le _ _ _)))) hl2 lk2.has rfl rfl (by omega) (by decide) fun b' bc' V4 hV4 hc4 => ?_
    conv => whnf
    have hwi := wrap_nat (i := i) (by omega)
    refine ⟨j - 1, (i + 1, (a', ac'), (b', bc')), by omega, ?_, ?_, ?_⟩
    · repeat' (first | exact sees_nil | refine sees_cons rfl rfl rfl ?_ | refine sees_cons rfl rfl (by rw [← hwi]; rfl) ?_)
    · repeat' (first | exact keeps_nil | refine keeps_cons rfl ?_ | refine keeps_free ?_)
    · refine ⟨View.le_trans hV (by repeat (first | exact View.le_refl _ | assumption | exact View.addU_le _ _ _ | refine View.le_trans ?_ (by assumption) | refine View.le_trans ?_ (View.addU_le _ _ _))), hi1, by show _ - (i + 1) = _; omega, ?_, ?_⟩
      · show V4.cells (.slice a' (i + 1) ac') _
        rw [items_snoc _ i c hc1, List.flatMap_append]
        simpa using hc3.mono (by repeat (first | exact View.le_refl _ | assumption | exact View.addU_le _ _ _ | refine View.le_trans ?_ (by assumption) | refine View.le_trans ?_ (View.addU_le _ _ _)))
      · show V4.cells (.slice b' (i + 1) bc') _
        rw [kinds_snoc _ i c hc1, List.map_append]
        exact hc4
  · have hi1 : i = tcols.length := by have := of_decide_eq_false h3; omega
    subst hi1
    repeat' first
      | (refine br_t rfl ?_; conv => whnf)
      | (refine br_f rfl ?_; conv => whnf)
      | (refine IdxN.lit rfl rfl ?_; conv => whnf)
      | (intro _; conv => whnf)
    refine ⟨[25, 34], by simp, [_, _], rfl, a, ac, b, bc, rfl, ?_, ?_, rfl⟩
    · rw [List.take_of_length_le (by rw [itemsOf_len]; exact Nat.le_refl _)] at h1; exact h1
    · rw [List.take_of_length_le (by simp [kindsOf])] at h2; exact h2
end Go.Proofs.Ytenpginanhnkbaa
end

section
set_option linter.unusedSimpArgs false
set_option linter.unusedVariables false
namespace Go.Proofs.Ytenpginanhnkbaa
open Go.X
set_option maxRecDepth 100000

theorem num_at (b : Nat) (s : Src) (k : Nat) (m x : Int) (hx : s.l[k]? = some x) (hm : 0 < m) (V : View) (hs : s.ok V) :
    Does Try.prog 37 [.pointer (some ⟨b, 0, none⟩), .int .i64 m] V [picks b s k] (fun v _ bs => v = .int .i64 (x.tmod m) ∧ bs = [picks b s ((k + 1 : Nat) : Int)]) := by
  refine does_of_zfun [(1, [(0, []), (1, []), (2, []), (3, []), (4, []), (5, []), (6, []), (7, []), (8, []), (9, [])]), (4, [(0, []), (1, []), (2, []), (3, []), (4, []), (5, []), (6, []), (7, []), (8, []), (9, []), (10, []), (11, []), (12, []), (13, []), (14, [])])] mixed (args := [.own 0 0, .v _]) (ms := [(0, picks b s k)]) Try.func37 (by kernel_rfl) rfl ?_
  conv => whnf
  have hlen := hs.len
  have hlt : k < s.l.length := (List.getElem?_eq_some_iff.1 hx).1
  refine br_f (decide_eq_false (by omega)) ?_
  conv => whnf
  have hw : IntKind.i64.wrap ((k : Int) + 1) = ((k + 1 : Nat) : Int) := by rw [wrapE]; omega
  have hw2 : IntKind.i64.wrap (IntKind.i64.wrap ((k : Int) + 1) - 1) = (k : Int) := by rw [hw, wrapE]; omega
  have hhas := hs.has (fun e => by rw [e] at hlt; simp at hlt)
  have hx2 := hs.num x (List.mem_of_getElem? hx)
  obtain ⟨p, off, hb, hh⟩ : ∃ p off, s.base = some ⟨p, off, none⟩ ∧ V.has p off s.cells := by
    have hne : s.cells ≠ [] := fun e => by
      have := congrArg List.length e
      simp only [Src.cells, List.length_map, List.length_nil] at this
      omega
    obtain ⟨y, l, hyl⟩ := List.exists_cons_of_ne_nil hne
    unfold Src.slice at hhas
    rw [hyl] at hhas ⊢
    exact cells_cut hhas
  have hone : V.has p (off + k) [.int .u8 x] := has_one hh (by simp [Src.cells, hx])
  refine ⟨⟨p, off, hb, by rw [hw2]; omega, by rw [hw2]; omega, ?_⟩⟩
  conv => whnf
  refine LoadN.of hone 0 (by rw [hw2]; show off + ((k : Nat) : Int).toNat * 1 = off + k + 0; omega) rfl ?_
  conv => whnf
  have hwx : IntKind.i64.wrap x = x := by rw [wrapE]; omega
  refine ⟨⟨_, rem_run _ _ _ _ (by omega), ?_⟩⟩
  conv => whnf
  exact ⟨[0], by simp, [picks b s (IntKind.i64.wrap ((k : Int) + 1))], rfl, by rw [hwx]; rfl, by rw [hw]⟩
/-- the last number, or 0 -/
theorem picks1_spec (s : Src) (V : View) (hs : s.ok V) : PSpec 55 [s.slice] V (fun v _ => ∃ x, v = .int .u8 x ∧ 0 ≤ x ∧ x ≤ 255) := by
  refine does_of_zfun [] mixed (args := [.v _]) (ms := []) Try.func55 (by kernel_rfl) rfl ?_
  conv => whnf
  have hlen := hs.len
  apply br <;> intro h1 <;> conv => whnf
  · exact ret_pure ⟨0, rfl, by decide, by decide⟩
  have h1 : s.l.length ≠ 0 := fun e => by rw [e] at h1; exact absurd h1 (by decide)
  have hhas := hs.has (fun e => h1 (by rw [e]; rfl))
  obtain ⟨x, hx⟩ : ∃ x, s.l[s.l.length - 1]? = some x := ⟨_, List.getElem?_eq_getElem (by omega)⟩
  have hx2 := hs.num x (List.mem_of_getElem? hx)
  obtain ⟨p, off, hb, hh⟩ : ∃ p off, s.base = some ⟨p, off, none⟩ ∧ V.has p off s.cells := by
    have hne : s.cells ≠ [] := fun e => by
      have := congrArg List.length e
      simp only [Src.cells, List.length_map, List.length_nil] at this
      omega
    obtain ⟨y, l, hyl⟩ := List.exists_cons_of_ne_nil hne
    unfold Src.slice at hhas
    rw [hyl] at hhas ⊢
    exact cells_cut hhas
  have hw : IntKind.i64.wrap ((s.l.length : Int) - 1) = ((s.l.length - 1 : Nat) : Int) := by rw [wrapE]; omega
  have hone : V.has p (off + (s.l.length - 1)) [.int .u8 x] := has_one hh (by simp [Src.cells, hx])
  refine ⟨⟨p, off, hb, by rw [hw]; omega, by rw [hw]; omega, ?_⟩⟩
  conv => whnf
  refine LoadN.of hone 0 (by rw [hw]; show off + (((s.l.length - 1 : Nat)) : Int).toNat * 1 = off + (s.l.length - 1) + 0; omega) rfl ?_
  conv => whnf
  exact ret_pure ⟨x, rfl, hx2⟩
/-- a where: none, or a condition -/
def WhereAt (V : View) (its : List Item) (kinds : List Int) (w : Option Addr × Nat × Nat) : Prop :=
  w = (none, 0, 0) ∨ ∃ g e x, w = (some ⟨g, 0, none⟩, 1, 1) ∧ V.has g 0 (xcells x) ∧ RepX V e x ∧ WT its kinds 3 e ∧ e.high ≤ 6
theorem WhereAt.mono {V V' : View} {its : List Item} {kinds : List Int} {w : Option Addr × Nat × Nat} (h : WhereAt V its kinds w) (hV : V.le V') : WhereAt V' its kinds w := by
  rcases h with h | ⟨g, e, x, h1, h2, h3, h4, h5⟩
  · exact .inl h
  · exact .inr ⟨g, e, x, h1, h2.mono hV, h3.mono hV, h4, h5⟩
theorem pwhere_spec (b : Nat) (s : Src) (k : Int) (hk : FarOk s k) (its : List Item) (kinds : List Int) (p off c q off2 d n : Nat) (V : View) (hs : s.ok V) (h : ColsAt V its kinds p off q off2) (hn : n = its.length) :
    Does Try.prog 81 [.pointer (some ⟨b, 0, none⟩), .slice (some ⟨p, off, none⟩) n c, .slice (some ⟨q, off2, none⟩) n d] V [picks b s k]
      (fun v V' bs => ∃ w k', v = .slice w.1 w.2.1 w.2.2 ∧ WhereAt V' its kinds w ∧ FarOk s k' ∧ bs = [picks b s k']) := by
  subst hn
  refine does_of_zfun [] mixed (args := [.own 0 0, .v _, .v _]) (ms := [(0, picks b s k)]) Try.func81 (by kernel_rfl) rfl ?_
  conv => whnf
  refine CallN.box 0 rfl (num_spec b s k 3 hk (by omega) _ hs) fun v V1 bs hV1 ⟨r1, k1, hv, h01, hr1, hf1, hb1⟩ => ⟨85, picksC s k1, hb1, ?_⟩
  subst hv
  conv => whnf
  apply br <;> intro h1 <;> conv => whnf
  · exact ⟨[0], by simp, [picks b s k1], rfl, (none, 0, 0), k1, rfl, .inl rfl, hf1, rfl⟩
  refine CallN.box 0 rfl (expr_spec b s its kinds p off c q off2 d 5 3 0 k1 _ hf1 (hs.mono (by repeat (first | exact View.le_refl _ | assumption | exact View.addU_le _ _ _ | refine View.le_trans ?_ (by assumption) | refine View.le_trans ?_ (View.addU_le _ _ _)))) (h.mono (by repeat (first | exact View.le_refl _ | assumption | exact View.addU_le _ _ _ | refine View.le_trans ?_ (by assumption) | refine View.le_trans ?_ (View.addU_le _ _ _)))) (by decide) (by decide) (by decide)) fun v V2 bs hV2 ⟨e, x, k2, hv, hrep, hwt, hf2, hb2, hh⟩ => ⟨85, picksC s k2, hb2, ?_⟩
  subst hv
  obtain ⟨xop, xv, xtb, xnm, xbase, xlen, xcap⟩ := x
  conv => whnf
  intro lb Vl hVl lk
  conv => whnf
  exact ⟨[0], by simp, [picks b s k2], rfl, (some ⟨lb, 0, none⟩, 1, 1), k2, rfl, .inr ⟨lb, e, _, rfl, lk, hrep.mono hVl, hwt, hh⟩, hf2, rfl⟩
end Go.Proofs.Ytenpginanhnkbaa
end
