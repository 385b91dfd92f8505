/- One part of a proof: an evaluator of the model, shown right, and contracts that it yields. No condition beyond those that each theorem names. -/
import Derived.Test.YtenpginanhnkbaaCR
import Derived.Test.YtenpginanhnkbaaCM
section
set_option linter.unusedSimpArgs false
set_option linter.unusedVariables false
namespace Go.Proofs.Ytenpginanhnkbaa
open Go.X Go.Sort
set_option maxRecDepth 100000

/-! ## Sort of any rows -/
theorem ins0_spec (b : Option Addr) (c : Nat) (f : Value) (V : View) : PSpec 111 [.slice b 0 c, .int .i64 0, .int .i64 0, f] V (fun v _ => v = .tuple #[]) := by
  refine does_of_zfun [(4, [(0, []), (1, []), (2, []), (3, []), (4, []), (5, []), (6, []), (7, []), (8, []), (9, []), (10, []), (11, []), (12, []), (13, []), (14, []), (15, []), (16, [])]), (6, [(0, []), (1, []), (2, []), (3, []), (4, []), (5, []), (6, []), (7, []), (8, []), (9, []), (10, []), (11, []), (12, []), (13, []), (14, []), (15, []), (16, []), (17, [])])] mixed (args := [.v _, .v _, .v _, .v _]) (ms := []) Try.func111 (by kernel_rfl) rfl ?_
  conv => whnf
  repeat' first
    | (refine br_t rfl ?_; conv => whnf)
    | (refine br_f rfl ?_; conv => whnf)
    | (refine IdxN.lit rfl rfl ?_; conv => whnf)
    | (intro _; conv => whnf)
  refine unrollz 1 ?_
  conv => whnf
  repeat' first
    | (refine br_t rfl ?_; conv => whnf)
    | (refine br_f rfl ?_; conv => whnf)
    | (refine IdxN.lit rfl rfl ?_; conv => whnf)
    | (intro _; conv => whnf)
  exact ret_pure rfl
theorem stable0_spec (b : Option Addr) (c : Nat) (f : Value) (V : View) : PSpec 99 [.slice b 0 c, .int .i64 0, f] V (fun v _ => v = .tuple #[]) := by
  refine does_of_zfun [] mixed (args := [.v _, .v _, .v _]) (ms := []) Try.func99 (by kernel_rfl) rfl ?_
  conv => whnf
  repeat' first
    | (refine br_t rfl ?_; conv => whnf)
    | (refine br_f rfl ?_; conv => whnf)
    | (refine IdxN.lit rfl rfl ?_; conv => whnf)
    | (intro _; conv => whnf)
  refine unrollz 1 ?_
  conv => whnf
  repeat' first
    | (refine br_t rfl ?_; conv => whnf)
    | (refine br_f rfl ?_; conv => whnf)
    | (refine IdxN.lit rfl rfl ?_; conv => whnf)
    | (intro _; conv => whnf)
  refine CallN.pure (ins0_spec b c f _) fun v V1 _ hV1 hv => ?_
  subst hv
  conv => whnf
  repeat' first
    | (refine br_t rfl ?_; conv => whnf)
    | (refine br_f rfl ?_; conv => whnf)
    | (refine IdxN.lit rfl rfl ?_; conv => whnf)
    | (intro _; conv => whnf)
  refine unrollz 1 ?_
  conv => whnf
  repeat' first
    | (refine br_t rfl ?_; conv => whnf)
    | (refine br_f rfl ?_; conv => whnf)
    | (refine IdxN.lit rfl rfl ?_; conv => whnf)
    | (intro _; conv => whnf)
  exact ret_pure rfl
theorem sorts0_spec (b : Option Addr) (c : Nat) (f : Value) (V : View) : PSpec 75 [.slice b 0 c, f] V (fun v _ => v = .tuple #[]) := by
  refine does_of_zfun [] mixed (args := [.v _, .v _]) (ms := []) Try.func75 (by kernel_rfl) rfl ?_
  conv => whnf
  repeat' first
    | (refine br_t rfl ?_; conv => whnf)
    | (refine br_f rfl ?_; conv => whnf)
    | (refine IdxN.lit rfl rfl ?_; conv => whnf)
    | (intro _; conv => whnf)
  refine CallN.pure (stable0_spec b c f _) fun v V1 _ hV1 hv => ?_
  subst hv
  conv => whnf
  repeat' first
    | (refine br_t rfl ?_; conv => whnf)
    | (refine br_f rfl ?_; conv => whnf)
    | (refine IdxN.lit rfl rfl ?_; conv => whnf)
    | (intro _; conv => whnf)
  exact ret_pure rfl
theorem clone0_spec (V : View) : PSpec 74 [.slice none 0 0] V (fun v _ => v = .slice none 0 0) := by
  refine does_of_zfun [] mixed (args := [.v _]) (ms := []) Try.func74 (by kernel_rfl) rfl ?_
  conv => whnf
  repeat' first
    | (refine br_t rfl ?_; conv => whnf)
    | (refine br_f rfl ?_; conv => whnf)
    | (refine IdxN.lit rfl rfl ?_; conv => whnf)
    | (intro _; conv => whnf)
  exact ret_pure rfl
theorem sorted0_spec (f : Value) (d : Bool) (V : View) (hf : f.cells.toList = [f]) (hf1 : f.oneCell' = true) : PSpec 52 [.slice none 0 0, .func (.func 53) #[] #[f], .bool d] V (fun v _ => v = .slice none 0 0) := by
  refine does_of_zfun [] mixed (args := [.v _, .v _, .v _]) (ms := []) Try.func52 (by kernel_rfl) rfl ?_
  conv => whnf
  repeat' first
    | (refine br_t rfl ?_; conv => whnf)
    | (refine br_f rfl ?_; conv => whnf)
    | (refine IdxN.lit rfl rfl ?_; conv => whnf)
    | (intro _; conv => whnf)
  refine CallN.pure (clone0_spec _) fun v V1 _ hV1 hv => ?_
  subst hv
  conv => whnf
  repeat' first
    | (refine br_t rfl ?_; conv => whnf)
    | (refine br_f rfl ?_; conv => whnf)
    | (refine IdxN.lit rfl rfl ?_; conv => whnf)
    | (intro _; conv => whnf)
  refine CallN.pure (sorts0_spec none 0 _ _) fun v V2 _ hV2 hv => ?_
  subst hv
  conv => whnf
  repeat' first
    | (refine br_t rfl ?_; conv => whnf)
    | (refine br_f rfl ?_; conv => whnf)
    | (refine IdxN.lit rfl rfl ?_; conv => whnf)
    | (intro _; conv => whnf)
  exact ret_pure rfl
/-- is there a row without the column? -/
def lacks (k : Int) (rows : List (List Val)) : Bool := rows.any fun r => decide (k ≥ (r.length : Int))
theorem indexR_spec (rows : List (List Val)) (rb : Option Addr) (rc a : Nat) (k : Int) (V : View) (hr : RowsAt V rows rb) (hs : rows.length ≤ 1000) (ha : V.has a 0 [.int .i64 k]) :
    PSpec 73 [.slice rb rows.length rc, .func (.func 51) #[] #[.pointer (some ⟨a, 0, none⟩)]] V (fun v _ => ∃ z, v = .int .i64 z ∧ decide (z ≥ 0) = lacks k rows) := by
  refine does_of_zfun [] mixed (args := [.v _, .v _]) (ms := []) Try.func73 (by kernel_rfl) rfl ?_
  conv => whnf
  repeat' first
    | (refine br_t rfl ?_; conv => whnf)
    | (refine br_f rfl ?_; conv => whnf)
    | (refine IdxN.lit rfl rfl ?_; conv => whnf)
    | (intro _; conv => whnf)
  refine loopz (σ := Nat) (fun i => [(0, .v (.slice rb rows.length rc)), (1, .v (.func (.func 51) #[] #[.pointer (some ⟨a, 0, none⟩)])), (7, .v (.int .i64 rows.length)), (8, .v (.int .i64 i))]) (fun _ => [])
    (fun j i V' => V.le V' ∧ i ≤ rows.length ∧ rows.length - i = j ∧ lacks k rows = lacks k (rows.drop i)) rows.length 0 ?_ ?_ ?_ ?_
  · repeat' (first | exact sees_nil | refine sees_cons rfl rfl rfl ?_)
  · exact keeps_nil
  · exact ⟨View.le_refl _, Nat.zero_le _, rfl, rfl⟩
  rintro j i V' ⟨hV, hi, hj, hp⟩
  conv => whnf
  apply br <;> intro h3 <;> conv => whnf
  · have hi1 : i < rows.length := by have := of_decide_eq_true h3; omega
    obtain ⟨r, hr1⟩ : ∃ r, rows[i]? = some r := ⟨_, List.getElem?_eq_getElem hi1⟩
    have hdrop : rows.drop i = r :: rows.drop (i + 1) := by
      rw [List.drop_eq_getElem_cons hi1]
      have e1 : rows[i] = r := by rw [List.getElem?_eq_getElem hi1] at hr1; exact Option.some.inj hr1
      rw [e1]
    obtain ⟨p, off, cv, rfl, hcell, hrow⟩ := hr.at hr1
    obtain ⟨rbase, rcap, hrv⟩ := row_shape hrow
    subst hrv
    refine IdxN.of (by omega) (by omega) ?_
    conv => whnf
    refine LoadN.of (hcell.mono (by repeat (first | exact View.le_refl _ | assumption | exact View.addU_le _ _ _ | refine View.le_trans ?_ (by assumption) | refine View.le_trans ?_ (View.addU_le _ _ _)))) 0 (by show off + i * 1 = off + i + 0; omega) rfl ?_
    conv => whnf
    refine CallN.pure (sort51_spec rbase r.length rcap k a _ (ha.mono (by repeat (first | exact View.le_refl _ | assumption | exact View.addU_le _ _ _ | refine View.le_trans ?_ (by assumption) | refine View.le_trans ?_ (View.addU_le _ _ _))))) fun v V2 _ hV2 hv => ?_
    subst hv
    conv => whnf
    apply br <;> intro h4 <;> conv => whnf
    · refine ret_pure ⟨_, rfl, ?_⟩
      rw [hp, hdrop, lacks, List.any_cons, h4, Bool.true_or]
      exact decide_eq_true (by omega)
    · have hw := wrap_nat (i := i) (by omega)
      refine ⟨j - 1, i + 1, by omega, ?_, keeps_nil, View.le_trans hV hV2, hi1, by omega, ?_⟩
      · repeat' (first | exact sees_nil | refine sees_cons rfl rfl rfl ?_ | refine sees_cons rfl rfl (by rw [← hw]; rfl) ?_)
      · rw [hp, hdrop, lacks, List.any_cons, h4, Bool.false_or]; rfl
  · have hi1 : ¬ i < rows.length := by have := of_decide_eq_false h3; omega
    repeat' first
      | (refine br_t rfl ?_; conv => whnf)
      | (refine br_f rfl ?_; conv => whnf)
      | (refine IdxN.lit rfl rfl ?_; conv => whnf)
      | (intro _; conv => whnf)
    refine ret_pure ⟨_, rfl, ?_⟩
    rw [hp, List.drop_eq_nil_of_le (by omega)]; rfl
theorem containsR_spec (rows : List (List Val)) (rb : Option Addr) (rc a : Nat) (k : Int) (V : View) (hr : RowsAt V rows rb) (hs : rows.length ≤ 1000) (ha : V.has a 0 [.int .i64 k]) :
    PSpec 50 [.slice rb rows.length rc, .func (.func 51) #[] #[.pointer (some ⟨a, 0, none⟩)]] V (fun v _ => v = .bool (lacks k rows)) := by
  refine does_of_zfun [] mixed (args := [.v _, .v _]) (ms := []) Try.func50 (by kernel_rfl) rfl ?_
  conv => whnf
  repeat' first
    | (refine br_t rfl ?_; conv => whnf)
    | (refine br_f rfl ?_; conv => whnf)
    | (refine IdxN.lit rfl rfl ?_; conv => whnf)
    | (intro _; conv => whnf)
  refine CallN.pure (indexR_spec rows rb rc a k _ hr hs ha) fun v V1 _ hV1 ⟨z, hv, hz⟩ => ?_
  subst hv
  conv => whnf
  repeat' first
    | (refine br_t rfl ?_; conv => whnf)
    | (refine br_f rfl ?_; conv => whnf)
    | (refine IdxN.lit rfl rfl ?_; conv => whnf)
    | (intro _; conv => whnf)
  exact ret_pure (by rw [← hz]; rfl)
theorem ret_free {v : Value} {mem : Nat → Option Res} {V : View} {A : Value → View → Prop} {B : Value → View → List Res → Prop} (h : A v V) : RetN v mem V (fun v V bs => (bs = [] ∧ A v V) ∨ B v V bs) := ⟨[], List.nodup_nil, [], rfl, .inl ⟨rfl, h⟩⟩
/-- rows in the order of a column that they all have; else as they stood -/
def sortX (k : Int) (d : Bool) (rows : List (List Val)) : List (List Val) := if k < 0 ∨ lacks k rows = true then rows else sortR k.toNat d rows
theorem sortO_spec (rows : List (List Val)) (rb : Option Addr) (rc : Nat) (k : Int) (d : Bool) (V : View) (hr : RowsAt V rows rb) (hs : rows.length ≤ 20) (hw : ∀ r ∈ rows, r.length ≤ 1000) :
    Does Try.prog 28 [.slice rb rows.length rc, .int .i64 k, .bool d] V [] (fun v V' bs => (bs = [] ∧ RowsV V' (sortX k d rows) v ∧ (rows = [] ∨ k < 0 ∨ lacks k rows = true)) ∨ ∃ g cap cells', v = .slice (some ⟨g, 0, none⟩) (sortX k d rows).length cap ∧ (sortX k d rows).length = rows.length ∧ bs = [.box g 45 cells'] ∧ ∃ cl ex, CellsAt V' (sortX k d rows) cl ∧ cells' = cl ++ ex) := by
  refine does_of_zfun [] mixed (args := [.v _, .v _, .v _]) (ms := []) Try.func28 (by kernel_rfl) rfl ?_
  conv => whnf
  repeat' first
    | (refine br_t rfl ?_; conv => whnf)
    | (refine br_f rfl ?_; conv => whnf)
    | (refine IdxN.lit rfl rfl ?_; conv => whnf)
    | (intro _; conv => whnf)
  rename_i b4
  refine loopz (σ := Nat × Option Addr × Nat × List (List Val) × List Value)
    (fun x => [(0, .v (.slice rb rows.length rc)), (2, .v (.bool d)), (4, .own 4 0), (7, .row 20), (10, .v (.slice rb rows.length rc)), (11, .v (.int .i64 rows.length)), (12, .v (.int .i64 x.1))])
    (fun x => [(4, .box b4 3 [.int .i64 k]), (20, .row (.slice x.2.1 x.2.2.2.1.length x.2.2.1) 45 1 x.2.2.2.1.length)])
    (fun j x V' => V.le V' ∧ x.1 ≤ rows.length ∧ rows.length - x.1 = j ∧ x.2.2.2.1 = rows.take x.1 ∧ (x.2.2.2.1 = [] → x.2.1 = none ∧ x.2.2.1 = 0) ∧ CellsAt V' x.2.2.2.1 x.2.2.2.2 ∧ V'.cells (.slice x.2.1 x.2.2.2.1.length x.2.2.1) x.2.2.2.2)
    rows.length (0, none, 0, [], []) ?_ ?_ ?_ ?_
  · repeat' (first | exact sees_nil | refine sees_cons rfl rfl rfl ?_)
  · repeat' (first | exact keeps_nil | refine keeps_cons rfl ?_ | refine keeps_free ?_)
  · exact ⟨View.le_refl _, Nat.zero_le _, by simp, rfl, fun _ => ⟨rfl, rfl⟩, CellsAt.nil, rfl⟩
  rintro j ⟨i, base, cp, out, cells⟩ V' ⟨hV, hi, hj, hout, hnil, hca, hcl⟩
  simp only at hi hj hout hnil hca hcl
  conv => whnf
  apply br <;> intro h3 <;> conv => whnf
  · have hi1 : i < rows.length := by have := of_decide_eq_true h3; omega
    obtain ⟨r, hr1⟩ : ∃ r, rows[i]? = some r := ⟨_, List.getElem?_eq_getElem hi1⟩
    obtain ⟨p, off, cv, rfl, hcell, hrow⟩ := hr.at hr1
    obtain ⟨rbase, rcap, hrv, hrp, hrva⟩ := hrow
    subst hrv
    refine IdxN.of (by omega) (by omega) ?_
    conv => whnf
    refine LoadN.of (hcell.mono (by repeat (first | exact View.le_refl _ | assumption | exact View.addU_le _ _ _ | refine View.le_trans ?_ (by assumption) | refine View.le_trans ?_ (View.addU_le _ _ _)))) 0 (by show off + i * 1 = off + i + 0; omega) rfl ?_
    conv => whnf
    refine CallN.pure (clone_spec r rbase rcap _ hrp (hrva.mono (by repeat (first | exact View.le_refl _ | assumption | exact View.addU_le _ _ _ | refine View.le_trans ?_ (by assumption) | refine View.le_trans ?_ (View.addU_le _ _ _)))) (hw r (List.mem_of_getElem? hr1))) fun v V3 _ hV3 hv => ?_
    obtain ⟨qb, qc, hqv⟩ := row_shape hv
    subst hqv
    conv => whnf
    intro lb Vl hVl lk
    conv => whnf
    have hol : out.length ≤ i := by rw [hout, List.length_take]; omega
    refine AppN.to (out ++ [r]).length (by simp) cells [.slice qb r.length qc] (hcl.mono (by repeat (first | exact View.le_refl _ | assumption | exact View.addU_le _ _ _ | refine View.le_trans ?_ (by assumption) | refine View.le_trans ?_ (View.addU_le _ _ _)))) (by rw [hca.len]; exact (Nat.mul_one _).symm) lk rfl rfl (by simp only [List.length_append, List.length_cons, List.length_nil]; omega) (by decide) fun base' cap' V4 hV4 hc4 => ?_
    conv => whnf
    have hwi := wrap_nat (i := i) (by omega)
    refine ⟨j - 1, (i + 1, base', cap', out ++ [r], cells ++ [.slice qb r.length qc]), by omega, ?_, ?_, ?_⟩
    · repeat' (first | exact sees_nil | refine sees_cons rfl rfl rfl ?_ | refine sees_cons rfl rfl (by rw [← hwi]; rfl) ?_)
    · repeat' (first | exact keeps_nil | refine keeps_cons rfl ?_ | refine keeps_free ?_)
    · refine ⟨View.le_trans hV (by repeat (first | exact View.le_refl _ | assumption | exact View.addU_le _ _ _ | refine View.le_trans ?_ (by assumption) | refine View.le_trans ?_ (View.addU_le _ _ _))), hi1, by show _ - (i + 1) = _; omega, ?_, fun h => by simp at h, (hca.mono (by repeat (first | exact View.le_refl _ | assumption | exact View.addU_le _ _ _ | refine View.le_trans ?_ (by assumption) | refine View.le_trans ?_ (View.addU_le _ _ _)))).snoc (hv.mono (by repeat (first | exact View.le_refl _ | assumption | exact View.addU_le _ _ _ | refine View.le_trans ?_ (by assumption) | refine View.le_trans ?_ (View.addU_le _ _ _)))), hc4⟩
      show out ++ [r] = _
      rw [List.take_add_one, hr1, ← hout]; rfl
  · have hi1 : ¬ i < rows.length := by have := of_decide_eq_false h3; omega
    have hall : out = rows := by rw [hout]; exact List.take_of_length_le (by omega)
    clear hout
    subst hall
    repeat' first
      | (refine br_t rfl ?_; conv => whnf)
      | (refine br_f rfl ?_; conv => whnf)
      | (refine IdxN.lit rfl rfl ?_; conv => whnf)
      | (intro _; conv => whnf)
    have hdone : RowsV V' out (.slice base out.length cp) := ⟨base, cp, rfl, plain_cells hcl, RowsAt.of_cells hca hcl (by omega)⟩
    apply br <;> intro g1 <;> conv => whnf
    · have g1 : k < 0 := of_decide_eq_true g1
      repeat' first
        | (refine br_t rfl ?_; conv => whnf)
        | (refine br_f rfl ?_; conv => whnf)
        | (refine IdxN.lit rfl rfl ?_; conv => whnf)
        | (intro _; conv => whnf)
      refine ret_free ?_
      rw [sortX, if_pos (.inl g1)]
      exact ⟨hdone, .inr (.inl g1)⟩
    have g1 : ¬ k < 0 := of_decide_eq_false g1
    refine CallN.lend 4 rfl fun l4 => CallN.pure (containsR_spec out rb rc b4 k _ (hr.mono (by repeat (first | exact View.le_refl _ | assumption | exact View.addU_le _ _ _ | refine View.le_trans ?_ (by assumption) | refine View.le_trans ?_ (View.addU_le _ _ _)))) (by omega) View.add_has) fun v V4 _ hV4 hv => ⟨⟨_, rfl⟩, rfl, ?_⟩
    subst hv
    conv => whnf
    apply br <;> intro g2 <;> conv => whnf
    · repeat' first
        | (refine br_t rfl ?_; conv => whnf)
        | (refine br_f rfl ?_; conv => whnf)
        | (refine IdxN.lit rfl rfl ?_; conv => whnf)
        | (intro _; conv => whnf)
      refine ret_free ?_
      rw [sortX, if_pos (.inr g2)]
      exact ⟨hdone, .inr (.inr g2)⟩
    have hsx : sortX k d out = sortR k.toNat d out := by
      rw [sortX, if_neg]
      rintro (h | h)
      · exact g1 h
      · rw [g2] at h; cases h
    obtain ⟨kn, hkn⟩ := Int.eq_ofNat_of_zero_le (show 0 ≤ k by omega)
    subst hkn
    have hkey : ∀ r ∈ out, kn < r.length ∧ r.length ≤ 1000 := fun r hr => by
      refine ⟨?_, hw r hr⟩
      rcases Nat.lt_or_ge kn r.length with h | h
      · exact h
      · have : lacks (kn : Int) out = true := List.any_eq_true.2 ⟨r, hr, decide_eq_true (by omega)⟩
        rw [g2] at this; cases this
    rw [hsx, Int.toNat_natCast]
    by_cases h0 : out = []
    · obtain ⟨rfl, rfl⟩ := hnil h0
      subst h0
      refine CallN.pure (sorted0_spec _ d _ rfl rfl) fun v V5 _ hV5 hv => ?_
      subst hv
      conv => whnf
      repeat' first
        | (refine br_t rfl ?_; conv => whnf)
        | (refine br_f rfl ?_; conv => whnf)
        | (refine IdxN.lit rfl rfl ?_; conv => whnf)
        | (intro _; conv => whnf)
      exact ret_free ⟨⟨none, 0, rfl, .inl rfl, ⟨⟨[], CellsAt.nil, fun h => absurd rfl h⟩, by show 0 ≤ _; decide⟩⟩, .inl rfl⟩
    · obtain ⟨p, off, hb, hh⟩ := cells_some hcl (fun e => h0 (List.eq_nil_of_length_eq_zero (by rw [← hca.len, e]; rfl)))
      subst hb
      refine CallN.lendM 4 rfl fun l5 => CallN.new 33 rfl (sortedB_spec out cells p off out.length cp kn b4 d _ hca.len.symm h0 (hca.mono (by repeat (first | exact View.le_refl _ | assumption | exact View.addU_le _ _ _ | refine View.le_trans ?_ (by assumption) | refine View.le_trans ?_ (View.addU_le _ _ _)))) (hh.mono (by repeat (first | exact View.le_refl _ | assumption | exact View.addU_le _ _ _ | refine View.le_trans ?_ (by assumption) | refine View.le_trans ?_ (View.addU_le _ _ _)))) hs hkey View.add_has) fun v V5 bs hV5 ⟨g, cap, cells', ex, hv, hc, hb⟩ => ⟨_, .v (.slice (some ⟨g, 0, none⟩) out.length cap), hb, by subst hv; rfl, ⟨_, rfl⟩, rfl, ?_⟩
      subst hv
      conv => whnf
      repeat' first
        | (refine br_t rfl ?_; conv => whnf)
        | (refine br_f rfl ?_; conv => whnf)
        | (refine IdxN.lit rfl rfl ?_; conv => whnf)
        | (intro _; conv => whnf)
      refine ⟨[33], by simp, [_], rfl, .inr ⟨g, cap, _, ?_, sortR_len kn d out, rfl, cells', ex, hc _ hca, rfl⟩⟩
      rw [sortR_len]; rfl
theorem sort_spec (rows : List (List Val)) (rb : Option Addr) (rc : Nat) (k : Int) (d : Bool) (V : View) (hr : RowsAt V rows rb) (hs : rows.length ≤ 20) (hw : ∀ r ∈ rows, r.length ≤ 1000) :
    PSpec 28 [.slice rb rows.length rc, .int .i64 k, .bool d] V (fun v V' => RowsV V' (sortX k d rows) v) := by
  refine (Does.freeze2 (Q := fun v V' => RowsV V' (sortX k d rows) v) (sortO_spec rows rb rc k d V hr hs hw) fun v V' bs _ h => ?_).mono fun v V' bs _ ⟨_, h⟩ => h
  rcases h with ⟨h, h', _⟩ | ⟨g, cap, cells', hv, hl, hb, cl, ex, hc, he⟩
  · exact .inl ⟨h, h'⟩
  · refine .inr ⟨g, _, cells', hb, fun hle => ?_⟩
    subst he
    refine ⟨some ⟨g, 0, none⟩, cap, hv, .inr ⟨g, 0, rfl⟩, ⟨cl, hc.mono hle, fun _ => ⟨g, 0, rfl, fun i x hx => View.add_has i x ?_⟩⟩, by omega⟩
    rw [List.getElem?_append_left (List.getElem?_eq_some_iff.1 hx).1]; exact hx
end Go.Proofs.Ytenpginanhnkbaa
end

section
set_option linter.unusedSimpArgs false
set_option linter.unusedVariables false
namespace Go.Proofs.Ytenpginanhnkbaa
open Go.X Go.Sort
set_option maxRecDepth 100000

/-! ## the document's Sort -/
theorem slice_hiP (t : TypeId) (base : Option Addr) (hp : Plain base) (n cap k : Nat) (ht : Try.prog.underlying t = some (.slice (Try.prog.elem t))) (hz : ∀ w, (sizeOf (Try.prog.elem t)).run Try.prog w = .ok 1 w) (h : k ≤ cap) (w : World) :
    (Instr.sliceAt t (.slice base n cap) none (some (.int .i64 k)) none).run Try.prog w = .ok (.slice base k cap) w := by
  rw [run_sliceAt_slice (h := ht), run_slice_h (ht := ht) (h0 := by omega) (h2 := by omega), hz]
  rcases hp with rfl | ⟨p, off, rfl⟩
  · simp [sliced]
  · simp [sliced, add_lit]
def cutB (base : Option Addr) (k cap : Nat) : Option Addr := match base with
  | some ⟨p, off, sp⟩ => some ⟨p, if cap = k then off else off + k, sp⟩
  | none => none
theorem slice_loP (t : TypeId) (base : Option Addr) (hp : Plain base) (n cap k : Nat) (ht : Try.prog.underlying t = some (.slice (Try.prog.elem t))) (hz : ∀ w, (sizeOf (Try.prog.elem t)).run Try.prog w = .ok 1 w) (h : k ≤ n) (w : World) :
    (Instr.sliceAt t (.slice base n cap) (some (.int .i64 k)) none none).run Try.prog w = .ok (.slice (cutB base k cap) (n - k) (cap - k)) w := by
  rcases hp with rfl | ⟨p, off, rfl⟩
  · rw [run_sliceAt_slice (h := ht), run_slice_l (ht := ht) (h0 := by omega) (h1 := by omega), hz]
    simp [sliced, cutB]
  · rw [slice_lo t p off n cap k ht hz h w]; rfl
theorem cells_take {V : View} {base : Option Addr} {n cap n' cap' : Nat} {l : List Value} (h : V.cells (.slice base n cap) l) (hp : Plain base) (k : Nat) : V.cells (.slice base n' cap') (l.take k) := by
  rcases hp with rfl | ⟨p, off, rfl⟩
  · have : l = [] := h
    subst this; simp; rfl
  · have h : V.has p off l := h
    show V.has p off (l.take k)
    intro i v hi
    rw [List.getElem?_take] at hi
    split at hi
    · exact h i v hi
    · cases hi
theorem cells_drop {V : View} {base : Option Addr} {n cap n' cap' : Nat} {l : List Value} (h : V.cells (.slice base n cap) l) (hp : Plain base) (k : Nat) (hl : l.length ≤ cap) : V.cells (.slice (cutB base k cap) n' cap') (l.drop k) := by
  rcases hp with rfl | ⟨p, off, rfl⟩
  · have : l = [] := h
    subst this; simp; rfl
  · have h : V.has p off l := h
    show V.has p (if cap = k then off else off + k) (l.drop k)
    intro i v hi
    rw [List.getElem?_drop] at hi
    have hlt := (List.getElem?_eq_some_iff.1 hi).1
    rw [if_neg (by omega), Nat.add_assoc]
    exact h (k + i) v hi
theorem CellsAt.ins {V : View} {rows : List (List Val)} {cells : List Value} (h : CellsAt V rows cells) {r : List Val} {c : Value} (hr : RowAt V r c) (k : Nat) : CellsAt V (insAt r rows k) (insAt c cells k) := by
  refine ⟨by rw [insAt_len, insAt_len, h.len], fun i r' c' h1 h2 => ?_⟩
  unfold insAt at h1 h2
  have e1 : (rows.take k).length = (cells.take k).length := by rw [List.length_take, List.length_take, h.len]
  by_cases hi : i < (rows.take k).length
  · rw [List.getElem?_append_left hi, List.getElem?_take] at h1
    rw [List.getElem?_append_left (by omega), List.getElem?_take] at h2
    split at h1
    · rename_i h3; rw [if_pos h3] at h2; exact h.at' i r' c' h1 h2
    · cases h1
  · rw [List.getElem?_append_right (by omega)] at h1
    rw [List.getElem?_append_right (by omega), ← e1] at h2
    cases hd : i - (rows.take k).length with
    | zero =>
      rw [hd] at h1 h2
      simp only [List.getElem?_cons_zero, Option.some.injEq] at h1 h2
      subst h1; subst h2; exact hr
    | succ d =>
      rw [hd] at h1 h2
      simp only [List.getElem?_cons_succ, List.getElem?_drop] at h1 h2
      exact h.at' (k + d) r' c' h1 h2
/-- where it goes: behind all, or where its order says -/
def placeX (w : Bool) (k : Nat) (d : Bool) (r : List Val) (l : List (List Val)) (n : Nat) : Nat := if w then kOf (ltR k d) r l n else n
def rsortF (w : Bool) (k : Nat) (d : Bool) : List (List Val) → List (List Val) → List (List Val)
  | acc, [] => acc
  | acc, r :: l => rsortF w k d (insAt r acc (placeX w k d r acc acc.length)) l
theorem rsortF_true (k : Nat) (d : Bool) : ∀ l acc, rsortF true k d acc l = sortF (ltR k d) acc l
  | [], acc => rfl
  | r :: l, acc => by rw [rsortF, sortF, rsortF_true k d l]; rfl
theorem rsortF_false (k : Nat) (d : Bool) : ∀ l acc, rsortF false k d acc l = acc ++ l
  | [], acc => by rw [rsortF, List.append_nil]
  | r :: l, acc => by
    rw [rsortF, rsortF_false k d l]
    show insAt r acc acc.length ++ l = _
    rw [insAt, List.take_length, List.drop_length]; simp
def allHave (k : Int) (rows : List (List Val)) : Bool := decide (k ≥ 0) && rows.all fun r => decide (k < (r.length : Int))
theorem rsort_eq (k : Int) (d : Bool) (rows : List (List Val)) : rsortF (allHave k rows) k.toNat d [] rows = sortX k d rows := by
  unfold sortX
  have hl : lacks k rows = !(rows.all fun r => decide (k < (r.length : Int))) := by
    unfold lacks
    rw [List.any_eq_not_all_not]
    congr 2
    funext r
    by_cases h : k < (r.length : Int)
    · rw [decide_eq_true h, decide_eq_false (by omega)]; rfl
    · rw [decide_eq_false h, decide_eq_true (by omega)]; rfl
  unfold allHave
  by_cases h0 : k < 0
  · rw [if_pos (.inl h0), decide_eq_false (by omega), Bool.false_and, rsortF_false]; rfl
  · rw [decide_eq_true (by omega), Bool.true_and]
    cases ha : rows.all fun r => decide (k < (r.length : Int)) with
    | true => rw [if_neg (by rw [hl, ha]; simp; omega), rsortF_true]; rfl
    | false => rw [if_pos (.inr (by rw [hl, ha]; rfl)), rsortF_false]; rfl
end Go.Proofs.Ytenpginanhnkbaa
end

section
set_option linter.unusedSimpArgs false
set_option linter.unusedVariables false
namespace Go.Proofs.Ytenpginanhnkbaa
open Go.X Go.Sort
set_option maxRecDepth 100000

theorem ltR_of {k : Nat} {d : Bool} {r s : List Val} : ltR k d r s = (if d then decide (cmpV (keyX k s) (keyX k r) < 0) else decide (cmpV (keyX k s) (keyX k r) > 0)) := by
  unfold ltR ordX
  cases d
  · simp only [Bool.false_eq_true, if_false]
    rw [cmpV_neg (keyX k s) (keyX k r)]
    congr 1
    apply propext
    constructor <;> intro h <;> omega
  · simp
theorem insAt_mem {α : Type} {x y : α} {l : List α} {k : Nat} (h : y ∈ insAt x l k) : y = x ∨ y ∈ l := by
  unfold insAt at h
  rcases List.mem_append.1 h with h | h
  · exact .inr (List.mem_of_mem_take h)
  · rcases List.mem_cons.1 h with h | h
    · exact .inl h
    · exact .inr (List.mem_of_mem_drop h)
theorem one_of : ∀ {l : List Value}, (∀ v ∈ l, v.oneCell' = true) → allOne l = true
  | [], _ => rfl
  | v :: l, hl => by
    unfold allOne
    rw [hl v List.mem_cons_self]
    exact one_of fun x hx => hl x (List.mem_cons_of_mem _ hx)
theorem one_take {l : List Value} (h : allOne l = true) (k : Nat) : allOne (l.take k) = true := one_of fun v hv => allOne_spec h v (List.mem_of_mem_take hv)
theorem one_drop {l : List Value} (h : allOne l = true) (k : Nat) : allOne (l.drop k) = true := one_of fun v hv => allOne_spec h v (List.mem_of_mem_drop hv)
theorem rsort_spec (rows : List (List Val)) (rb : Option Addr) (rc : Nat) (k : Int) (d : Bool) (V : View) (hr : RowsAt V rows rb) (hs : rows.length ≤ 20) (hw : ∀ r ∈ rows, r.length ≤ 1000) (hk : InR k)
    (hcmp : ∀ r ∈ rows, ∀ s ∈ rows, cmpR (keyX k.toNat s) (keyX k.toNat r) = cmpV (keyX k.toNat s) (keyX k.toNat r)) (htx : ∀ r ∈ rows, ∀ v ∈ r, (v.t.size : Int) ≤ 9223372036854775807) :
    PSpec 29 [.slice rb rows.length rc, .int .i64 k, .bool d] V (fun v V' => RowsV V' (sortX k d rows) v) := by
  refine does_of_zfun [(12, [(0, []), (1, []), (2, []), (3, []), (4, []), (5, []), (6, []), (7, []), (8, []), (9, []), (10, []), (11, []), (12, []), (13, []), (14, []), (15, []), (16, [])]), (15, [(1, []), (2, []), (3, []), (6, []), (7, []), (8, []), (9, []), (13, []), (14, []), (15, []), (0, [5]), (4, [5]), (5, []), (10, []), (11, []), (12, []), (16, []), (17, [])])] mixed (args := [.v _, .v _, .v _]) (ms := []) Try.func29 (by kernel_rfl) rfl ?_
  conv => whnf
  refine loopz (σ := Nat) (fun i => [(0, .v (.slice rb rows.length rc)), (1, .v (.int .i64 k)), (2, .v (.bool d)), (7, .v (.slice none 0 0)), (8, .v (.bool (allHave k (rows.take i)))), (9, .v (.int .i64 i))]) (fun _ => [])
    (fun j i V' => V.le V' ∧ i ≤ rows.length ∧ rows.length - i = j) rows.length 0 ?_ ?_ ?_ ?_
  · repeat' (first | exact sees_nil | refine sees_cons rfl rfl rfl ?_ | refine sees_cons rfl rfl (by rw [allHave]; simp [toVal]) ?_)
  · exact keeps_nil
  · exact ⟨View.le_refl _, Nat.zero_le _, rfl⟩
  rintro j i V' ⟨hV, hi, hj⟩
  conv => whnf
  apply br <;> intro g1 <;> conv => whnf
  · have hi1 : i < rows.length := by have := of_decide_eq_true g1; omega
    obtain ⟨r, hr1⟩ : ∃ r, rows[i]? = some r := ⟨_, List.getElem?_eq_getElem hi1⟩
    have htake : allHave k (rows.take (i + 1)) = (allHave k (rows.take i) && decide (k < (r.length : Int))) := by
      unfold allHave
      rw [List.take_add_one, hr1, List.all_append, Bool.and_assoc]
      simp
    have hwi := wrap_nat (i := i) (by omega)
    apply br <;> intro g2 <;> conv => whnf
    · obtain ⟨p, off, cv, rfl, hcell, hrow⟩ := hr.at hr1
      obtain ⟨rbase, rcap, hrv⟩ := row_shape hrow
      subst hrv
      refine IdxN.of (by omega) (by omega) ?_
      conv => whnf
      refine LoadN.of (hcell.mono (by repeat (first | exact View.le_refl _ | assumption | exact View.addU_le _ _ _ | refine View.le_trans ?_ (by assumption) | refine View.le_trans ?_ (View.addU_le _ _ _)))) 0 (by show off + i * 1 = off + i + 0; omega) rfl ?_
      conv => whnf
      refine ⟨j - 1, i + 1, by omega, ?_, keeps_nil, hV, hi1, by omega⟩
      repeat' (first | exact sees_nil | refine sees_cons rfl rfl rfl ?_ | refine sees_cons rfl rfl (by rw [htake, g2, Bool.true_and]; rfl) ?_ | refine sees_cons rfl rfl (by rw [← hwi]; rfl) ?_)
    · refine ⟨j - 1, i + 1, by omega, ?_, keeps_nil, hV, hi1, by omega⟩
      repeat' (first | exact sees_nil | refine sees_cons rfl rfl rfl ?_ | refine sees_cons rfl rfl (by rw [htake, g2]; rfl) ?_ | refine sees_cons rfl rfl (by rw [← hwi]; rfl) ?_)
  have hi1 : ¬ i < rows.length := by have := of_decide_eq_false g1; omega
  have hti : rows.take i = rows := List.take_of_length_le (by omega)
  have hWk : ∀ r ∈ rows, allHave k rows = true → 0 ≤ k ∧ k.toNat < r.length := fun r hr h => by
    rw [allHave, Bool.and_eq_true, List.all_eq_true] at h
    have h1 := of_decide_eq_true h.1
    have h2 := of_decide_eq_true (h.2 r hr)
    exact ⟨h1, by omega⟩
  have hfin := rsort_eq k d rows
  generalize hWd : allHave k rows = W at hWk hfin
  refine loopz (σ := Nat × Option Addr × Nat × List (List Val) × List Value) (fun x => [(0, .v (.slice rb rows.length rc)), (1, .v (.int .i64 k)), (2, .v (.bool d)), (7, .v (.slice x.2.1 x.2.2.2.1.length x.2.2.1)), (8, .v (.bool W)), (10, .v (.int .i64 x.1))]) (fun _ => [])
    (fun j x V2 => V'.le V2 ∧ x.1 ≤ rows.length ∧ rows.length - x.1 = j ∧ x.2.2.2.1.length = x.1 ∧ x.1 ≤ x.2.2.1 ∧ Plain x.2.1 ∧ CellsAt V2 x.2.2.2.1 x.2.2.2.2 ∧ V2.cells (.slice x.2.1 x.2.2.2.1.length x.2.2.1) x.2.2.2.2 ∧ (∀ s ∈ x.2.2.2.1, s ∈ rows) ∧ rsortF W k.toNat d x.2.2.2.1 (rows.drop x.1) = sortX k d rows) rows.length (0, none, 0, [], []) ?_ ?_ ?_ ?_
  · repeat' (first | exact sees_nil | refine sees_cons rfl rfl rfl ?_ | refine sees_cons rfl rfl (by rw [hti, hWd]; rfl) ?_)
  · exact keeps_nil
  · exact ⟨View.le_refl _, Nat.zero_le _, rfl, rfl, Nat.le_refl _, .inl rfl, CellsAt.nil, rfl, fun s h => (by cases h), hfin⟩
  rintro j2 ⟨i2, base, cp, out, cells⟩ V2 ⟨hV2, hi2, hj2, hol, hcp, hpl, hca, hcl, hin, hrs⟩
  simp only at hi2 hj2 hol hcp hpl hca hcl hin hrs
  conv => whnf
  apply br <;> intro g3 <;> conv => whnf
  · have hi3 : i2 < rows.length := by have := of_decide_eq_true g3; omega
    obtain ⟨r, hr1⟩ : ∃ r, rows[i2]? = some r := ⟨_, List.getElem?_eq_getElem hi3⟩
    have hrm := List.mem_of_getElem? hr1
    have hdrop : rows.drop i2 = r :: rows.drop (i2 + 1) := by
      rw [List.drop_eq_getElem_cons hi3]
      have e1 : rows[i2] = r := by rw [List.getElem?_eq_getElem hi3] at hr1; exact Option.some.inj hr1
      rw [e1]
    rw [hdrop, rsortF] at hrs
    have hwi := wrap_nat (i := i2) (by omega)
    obtain ⟨p, off, cv, hrb, hcell, hrow⟩ := hr.at hr1
    obtain ⟨rbase, rcap, hrv, hrp, hrva⟩ := hrow
    subst hrb; subst hrv
    repeat' first
      | (refine br_t rfl ?_; conv => whnf)
      | (refine br_f rfl ?_; conv => whnf)
      | (refine IdxN.lit rfl rfl ?_; conv => whnf)
      | (intro _; conv => whnf)
    refine loopz (σ := Nat) (fun kk => [(0, .v (.slice (some ⟨p, off, none⟩) rows.length rc)), (1, .v (.int .i64 k)), (2, .v (.bool d)), (7, .v (.slice base out.length cp)), (8, .v (.bool W)), (10, .v (.int .i64 i2)), (11, .v (.int .i64 kk))]) (fun _ => [])
      (fun j kk V3 => V2.le V3 ∧ kk ≤ out.length ∧ kk = j ∧ placeX W k.toNat d r out out.length = placeX W k.toNat d r out kk) out.length out.length ?_ ?_ ?_ ?_
    · repeat' (first | exact sees_nil | refine sees_cons rfl rfl rfl ?_)
    · exact keeps_nil
    · exact ⟨View.le_refl _, Nat.le_refl _, rfl, rfl⟩
    rintro j3 kk V3 ⟨hV3, hkk, hj3, hpx⟩
    conv => whnf
    apply br <;> intro g4 <;> conv => whnf
    · have hkp : 0 < kk := by have := of_decide_eq_true g4; omega
      apply br <;> intro g5 <;> conv => whnf
      · have g5 : W = true := g5
        obtain ⟨hk0, hkr⟩ := hWk r hrm g5
        obtain ⟨kn, hkn⟩ := Int.eq_ofNat_of_zero_le hk0
        subst hkn
        obtain ⟨s, hs1⟩ : ∃ s, out[kk - 1]? = some s := ⟨_, List.getElem?_eq_getElem (by omega)⟩
        have hsm := hin s (List.mem_of_getElem? hs1)
        obtain ⟨_, hks⟩ := hWk s hsm g5
        rw [Int.toNat_natCast] at hkr hks
        have hwk : IntKind.i64.wrap ((kk : Int) - 1) = ((kk - 1 : Nat) : Int) := by rw [wrapE]; omega
        obtain ⟨x, hx⟩ : ∃ x, s[kn]? = some x := ⟨_, List.getElem?_eq_getElem hks⟩
        obtain ⟨y, hy⟩ : ∃ y, r[kn]? = some y := ⟨_, List.getElem?_eq_getElem hkr⟩
        have ex : keyX (kn : Int).toNat s = x := by rw [Int.toNat_natCast, keyX, hx]
        have ey : keyX (kn : Int).toNat r = y := by rw [Int.toNat_natCast, keyX, hy]
        have hcc := hcmp r hrm s hsm
        rw [ex, ey] at hcc
        have hlt : ltR (kn : Int).toNat d r s = (if d then decide (cmpR x y < 0) else decide (cmpR x y > 0)) := by rw [ltR_of, ex, ey, hcc]
        obtain ⟨cs, hcs⟩ : ∃ cs, cells[kk - 1]? = some cs := ⟨_, List.getElem?_eq_getElem (by rw [hca.len]; omega)⟩
        obtain ⟨sb, sc, hsv, _, hsva⟩ := hca.at' (kk - 1) s cs hs1 hcs
        subst hsv
        obtain ⟨p3, o3, hb3, hh3⟩ := cells_some hcl (fun e => by rw [e] at hcs; simp at hcs)
        obtain ⟨p4, o4, hb4, hx4⟩ := hsva.at hx
        obtain ⟨p5, o5, hb5, hy5⟩ := hrva.at hy
        have hcell3 := has_one hh3 hcs
        have hbw : base = some ⟨p3, o3, none⟩ := hb3
        subst hb3; subst hb4; subst hb5
        refine IdxN.of (by omega) (by omega) ?_
        conv => whnf
        refine LoadN.of (hcell3.mono (by repeat (first | exact View.le_refl _ | assumption | exact View.addU_le _ _ _ | refine View.le_trans ?_ (by assumption) | refine View.le_trans ?_ (View.addU_le _ _ _)))) 0 (by show o3 + (IntKind.i64.wrap ((kk : Int) - 1)).toNat * 1 = o3 + (kk - 1) + 0; omega) rfl ?_
        conv => whnf
        refine IdxN.of (by omega) (by omega) ?_
        conv => whnf
        refine LoadN.of (hx4.mono (by repeat (first | exact View.le_refl _ | assumption | exact View.addU_le _ _ _ | refine View.le_trans ?_ (by assumption) | refine View.le_trans ?_ (View.addU_le _ _ _)))) 0 rfl rfl ?_
        conv => whnf
        refine IdxN.of (by omega) (by omega) ?_
        conv => whnf
        refine LoadN.of (hcell.mono (by repeat (first | exact View.le_refl _ | assumption | exact View.addU_le _ _ _ | refine View.le_trans ?_ (by assumption) | refine View.le_trans ?_ (View.addU_le _ _ _)))) 0 (by show off + i2 * 1 = off + i2 + 0; omega) rfl ?_
        conv => whnf
        refine IdxN.of (by omega) (by omega) ?_
        conv => whnf
        refine LoadN.of (hy5.mono (by repeat (first | exact View.le_refl _ | assumption | exact View.addU_le _ _ _ | refine View.le_trans ?_ (by assumption) | refine View.le_trans ?_ (View.addU_le _ _ _)))) 0 rfl rfl ?_
        conv => whnf
        refine CallN.pure (rcmpv_spec x y (htx s hsm x (List.mem_of_getElem? hx)) _) fun v V4 _ hV4 hv => ?_
        subst hv
        refine Prot.refl ?_
        have hstop : ltR (kn : Int).toNat d r s = false → placeX W (kn : Int).toNat d r out out.length = kk := fun h => by
          obtain ⟨k1, hk1⟩ : ∃ k1, kk = k1 + 1 := ⟨kk - 1, by omega⟩
          subst hk1
          rw [hpx, placeX, if_pos g5, kOf]
          rw [Nat.add_sub_cancel] at hs1
          rw [hs1]; simp only [h]; rfl
        have hgo : ltR (kn : Int).toNat d r s = true → placeX W (kn : Int).toNat d r out out.length = placeX W (kn : Int).toNat d r out (kk - 1) := fun h => by
          obtain ⟨k1, hk1⟩ : ∃ k1, kk = k1 + 1 := ⟨kk - 1, by omega⟩
          subst hk1
          rw [hpx, placeX, placeX, if_pos g5, if_pos g5, kOf]
          rw [Nat.add_sub_cancel] at hs1 ⊢
          rw [hs1]; simp only [h, if_true]
        have hkkw := hwk
        cases d
        · conv => whnf
          repeat' first
            | (refine br_t rfl ?_; conv => whnf)
            | (refine br_f rfl ?_; conv => whnf)
            | (refine IdxN.lit rfl rfl ?_; conv => whnf)
            | (intro _; conv => whnf)
          apply br <;> intro g7 <;> conv => whnf
          · have hpx2 : placeX W (kn : Int).toNat false r out out.length = kk := hstop (by rw [hlt]; have := of_decide_eq_true g7; simp; omega)
            have hpos := hpx2
            rw [hpos] at hrs
            have hcn : cells.length = out.length := hca.len
            have h1c := cells_one hca
            refine ⟨⟨_, fun w => slice_hiP _ _ hpl out.length cp kk under63 size63 (by omega) w, ?_⟩⟩
            conv => whnf
            refine IdxN.of (by omega) (by omega) ?_
            conv => whnf
            refine LoadN.of (hcell.mono (by repeat (first | exact View.le_refl _ | assumption | exact View.addU_le _ _ _ | refine View.le_trans ?_ (by assumption) | refine View.le_trans ?_ (View.addU_le _ _ _)))) 0 (by show off + i2 * 1 = off + i2 + 0; omega) rfl ?_
            conv => whnf
            refine ⟨⟨_, fun w => slice_loP _ _ hpl out.length cp kk under63 size63 hkk w, ?_⟩⟩
            conv => whnf
            repeat' first
              | (refine br_t rfl ?_; conv => whnf)
              | (refine br_f rfl ?_; conv => whnf)
              | (refine IdxN.lit rfl rfl ?_; conv => whnf)
              | (intro _; conv => whnf)
            refine AppN.to kk (Nat.zero_add _) [] (cells.take kk) (fun i v hv => by simp at hv) rfl (cells_take (hcl.mono (by repeat (first | exact View.le_refl _ | assumption | exact View.addU_le _ _ _ | refine View.le_trans ?_ (by assumption) | refine View.le_trans ?_ (View.addU_le _ _ _)))) hpl kk) (by rw [List.length_take, hcn, Nat.min_eq_left hkk]; exact (Nat.mul_one _).symm) (one_take h1c kk) (by omega) (by decide) fun b5 c5 V5 hV5 hc5 => ?_
            conv => whnf
            repeat' first
              | (refine br_t rfl ?_; conv => whnf)
              | (refine br_f rfl ?_; conv => whnf)
              | (refine IdxN.lit rfl rfl ?_; conv => whnf)
              | (intro _; conv => whnf)
            refine AppN.toR r.length (Nat.zero_add _) [] (r.flatMap vcells) (fun i v hv => by simp at hv) rfl (row_news hrp (hrva.mono (by repeat (first | exact View.le_refl _ | assumption | exact View.addU_le _ _ _ | refine View.le_trans ?_ (by assumption) | refine View.le_trans ?_ (View.addU_le _ _ _))))) (flat_len (f := vcells) (n := 3) (fun _ => rfl) _) (allOne_flat r) (by have := hw r hrm; omega) (by decide) fun b6 c6 V6 hV6 hc6 _ => ?_
            conv => whnf
            have hrow6 : RowAt V6 r (.slice b6 r.length c6) := ⟨b6, c6, rfl, .inr (plain_cells hc6), ValsAt.of_cells hc6 (by have := hw r hrm; omega)⟩
            repeat' first
              | (refine br_t rfl ?_; conv => whnf)
              | (refine br_f rfl ?_; conv => whnf)
              | (refine IdxN.lit rfl rfl ?_; conv => whnf)
              | (intro _; conv => whnf)
            rename_i l2 lk2
            refine AppN.to (kk + 1) rfl (cells.take kk) [.slice b6 r.length c6] (hc5.mono (by repeat (first | exact View.le_refl _ | assumption | exact View.addU_le _ _ _ | refine View.le_trans ?_ (by assumption) | refine View.le_trans ?_ (View.addU_le _ _ _)))) (by rw [List.length_take, hcn, Nat.min_eq_left hkk]; exact (Nat.mul_one _).symm) lk2.has rfl rfl (by omega) (by decide) fun b7 c7 V7 hV7 hc7 => ?_
            conv => whnf
            refine AppN.toc (out.length + 1) (by omega) (cells.take kk ++ [.slice b6 r.length c6]) (cells.drop kk) hc7 (by rw [List.length_append, List.length_take, hcn, Nat.min_eq_left hkk]; exact (Nat.mul_one _).symm) (cells_drop (hcl.mono (by repeat (first | exact View.le_refl _ | assumption | exact View.addU_le _ _ _ | refine View.le_trans ?_ (by assumption) | refine View.le_trans ?_ (View.addU_le _ _ _)))) hpl kk (by omega)) (by rw [List.length_drop, hcn]; exact (Nat.mul_one _).symm) (one_drop h1c kk) (by omega) (by decide) fun b8 c8 V8 hV8 hc8 hcp8 => ?_
            conv => whnf
            have hc8 : V8.cells (.slice b8 (insAt r out kk).length c8) (insAt (.slice b6 r.length c6) cells kk) := by
              rw [insAt_len, insAt]
              simpa using hc8
            refine ⟨j2 - 1, (i2 + 1, b8, c8, insAt r out kk, insAt (.slice b6 r.length c6) cells kk), by omega, ?_, keeps_nil, View.le_trans hV2 (by repeat (first | exact View.le_refl _ | assumption | exact View.addU_le _ _ _ | refine View.le_trans ?_ (by assumption) | refine View.le_trans ?_ (View.addU_le _ _ _))), hi3, by show _ - (i2 + 1) = _; omega, by show (insAt r out kk).length = i2 + 1; rw [insAt_len, hol], by show i2 + 1 ≤ c8; omega, plain_cells hc8, (hca.mono (by repeat (first | exact View.le_refl _ | assumption | exact View.addU_le _ _ _ | refine View.le_trans ?_ (by assumption) | refine View.le_trans ?_ (View.addU_le _ _ _)))).ins (hrow6.mono (by repeat (first | exact View.le_refl _ | assumption | exact View.addU_le _ _ _ | refine View.le_trans ?_ (by assumption) | refine View.le_trans ?_ (View.addU_le _ _ _)))) kk, hc8, fun s hs => ?_, hrs⟩
            · repeat' (first | exact sees_nil | refine sees_cons rfl rfl rfl ?_ | refine sees_cons rfl rfl (by rw [insAt_len]; rfl) ?_ | refine sees_cons rfl rfl (by rw [← hwi]; rfl) ?_)
            · rcases insAt_mem hs with rfl | hs
              · exact hrm
              · exact hin s hs
          · have h7 : ¬ cmpR x y ≤ 0 := of_decide_eq_false g7
            refine ⟨j3 - 1, kk - 1, by omega, ?_, keeps_nil, View.le_trans hV3 (by repeat (first | exact View.le_refl _ | assumption | exact View.addU_le _ _ _ | refine View.le_trans ?_ (by assumption) | refine View.le_trans ?_ (View.addU_le _ _ _))), by omega, by omega, hgo (by rw [hlt]; simp; omega)⟩
            repeat' (first | exact sees_nil | refine sees_cons rfl rfl rfl ?_ | refine sees_cons rfl rfl (by rw [← hwk]; rfl) ?_)
        · conv => whnf
          repeat' first
            | (refine br_t rfl ?_; conv => whnf)
            | (refine br_f rfl ?_; conv => whnf)
            | (refine IdxN.lit rfl rfl ?_; conv => whnf)
            | (intro _; conv => whnf)
          apply br <;> intro g7 <;> conv => whnf
          · have hpx2 : placeX W (kn : Int).toNat true r out out.length = kk := hstop (by rw [hlt]; have := of_decide_eq_true g7; simp; omega)
            repeat (first | (refine br_t g7 ?_; conv => whnf) | (refine br_t rfl ?_; conv => whnf) | (refine br_f rfl ?_; conv => whnf))
            have hpos := hpx2
            rw [hpos] at hrs
            have hcn : cells.length = out.length := hca.len
            have h1c := cells_one hca
            refine ⟨⟨_, fun w => slice_hiP _ _ hpl out.length cp kk under63 size63 (by omega) w, ?_⟩⟩
            conv => whnf
            refine IdxN.of (by omega) (by omega) ?_
            conv => whnf
            refine LoadN.of (hcell.mono (by repeat (first | exact View.le_refl _ | assumption | exact View.addU_le _ _ _ | refine View.le_trans ?_ (by assumption) | refine View.le_trans ?_ (View.addU_le _ _ _)))) 0 (by show off + i2 * 1 = off + i2 + 0; omega) rfl ?_
            conv => whnf
            refine ⟨⟨_, fun w => slice_loP _ _ hpl out.length cp kk under63 size63 hkk w, ?_⟩⟩
            conv => whnf
            repeat' first
              | (refine br_t rfl ?_; conv => whnf)
              | (refine br_f rfl ?_; conv => whnf)
              | (refine IdxN.lit rfl rfl ?_; conv => whnf)
              | (intro _; conv => whnf)
            refine AppN.to kk (Nat.zero_add _) [] (cells.take kk) (fun i v hv => by simp at hv) rfl (cells_take (hcl.mono (by repeat (first | exact View.le_refl _ | assumption | exact View.addU_le _ _ _ | refine View.le_trans ?_ (by assumption) | refine View.le_trans ?_ (View.addU_le _ _ _)))) hpl kk) (by rw [List.length_take, hcn, Nat.min_eq_left hkk]; exact (Nat.mul_one _).symm) (one_take h1c kk) (by omega) (by decide) fun b5 c5 V5 hV5 hc5 => ?_
            conv => whnf
            repeat' first
              | (refine br_t rfl ?_; conv => whnf)
              | (refine br_f rfl ?_; conv => whnf)
              | (refine IdxN.lit rfl rfl ?_; conv => whnf)
              | (intro _; conv => whnf)
            refine AppN.toR r.length (Nat.zero_add _) [] (r.flatMap vcells) (fun i v hv => by simp at hv) rfl (row_news hrp (hrva.mono (by repeat (first | exact View.le_refl _ | assumption | exact View.addU_le _ _ _ | refine View.le_trans ?_ (by assumption) | refine View.le_trans ?_ (View.addU_le _ _ _))))) (flat_len (f := vcells) (n := 3) (fun _ => rfl) _) (allOne_flat r) (by have := hw r hrm; omega) (by decide) fun b6 c6 V6 hV6 hc6 _ => ?_
            conv => whnf
            have hrow6 : RowAt V6 r (.slice b6 r.length c6) := ⟨b6, c6, rfl, .inr (plain_cells hc6), ValsAt.of_cells hc6 (by have := hw r hrm; omega)⟩
            repeat' first
              | (refine br_t rfl ?_; conv => whnf)
              | (refine br_f rfl ?_; conv => whnf)
              | (refine IdxN.lit rfl rfl ?_; conv => whnf)
              | (intro _; conv => whnf)
            rename_i l2 lk2
            refine AppN.to (kk + 1) rfl (cells.take kk) [.slice b6 r.length c6] (hc5.mono (by repeat (first | exact View.le_refl _ | assumption | exact View.addU_le _ _ _ | refine View.le_trans ?_ (by assumption) | refine View.le_trans ?_ (View.addU_le _ _ _)))) (by rw [List.length_take, hcn, Nat.min_eq_left hkk]; exact (Nat.mul_one _).symm) lk2.has rfl rfl (by omega) (by decide) fun b7 c7 V7 hV7 hc7 => ?_
            conv => whnf
            refine AppN.toc (out.length + 1) (by omega) (cells.take kk ++ [.slice b6 r.length c6]) (cells.drop kk) hc7 (by rw [List.length_append, List.length_take, hcn, Nat.min_eq_left hkk]; exact (Nat.mul_one _).symm) (cells_drop (hcl.mono (by repeat (first | exact View.le_refl _ | assumption | exact View.addU_le _ _ _ | refine View.le_trans ?_ (by assumption) | refine View.le_trans ?_ (View.addU_le _ _ _)))) hpl kk (by omega)) (by rw [List.length_drop, hcn]; exact (Nat.mul_one _).symm) (one_drop h1c kk) (by omega) (by decide) fun b8 c8 V8 hV8 hc8 hcp8 => ?_
            conv => whnf
            have hc8 : V8.cells (.slice b8 (insAt r out kk).length c8) (insAt (.slice b6 r.length c6) cells kk) := by
              rw [insAt_len, insAt]
              simpa using hc8
            refine ⟨j2 - 1, (i2 + 1, b8, c8, insAt r out kk, insAt (.slice b6 r.length c6) cells kk), by omega, ?_, keeps_nil, View.le_trans hV2 (by repeat (first | exact View.le_refl _ | assumption | exact View.addU_le _ _ _ | refine View.le_trans ?_ (by assumption) | refine View.le_trans ?_ (View.addU_le _ _ _))), hi3, by show _ - (i2 + 1) = _; omega, by show (insAt r out kk).length = i2 + 1; rw [insAt_len, hol], by show i2 + 1 ≤ c8; omega, plain_cells hc8, (hca.mono (by repeat (first | exact View.le_refl _ | assumption | exact View.addU_le _ _ _ | refine View.le_trans ?_ (by assumption) | refine View.le_trans ?_ (View.addU_le _ _ _)))).ins (hrow6.mono (by repeat (first | exact View.le_refl _ | assumption | exact View.addU_le _ _ _ | refine View.le_trans ?_ (by assumption) | refine View.le_trans ?_ (View.addU_le _ _ _)))) kk, hc8, fun s hs => ?_, hrs⟩
            · repeat' (first | exact sees_nil | refine sees_cons rfl rfl rfl ?_ | refine sees_cons rfl rfl (by rw [insAt_len]; rfl) ?_ | refine sees_cons rfl rfl (by rw [← hwi]; rfl) ?_)
            · rcases insAt_mem hs with rfl | hs
              · exact hrm
              · exact hin s hs
          · have h7 : ¬ cmpR x y ≥ 0 := of_decide_eq_false g7
            repeat (first | (refine br_f g7 ?_; conv => whnf) | (refine br_t rfl ?_; conv => whnf) | (refine br_f rfl ?_; conv => whnf))
            refine ⟨j3 - 1, kk - 1, by omega, ?_, keeps_nil, View.le_trans hV3 (by repeat (first | exact View.le_refl _ | assumption | exact View.addU_le _ _ _ | refine View.le_trans ?_ (by assumption) | refine View.le_trans ?_ (View.addU_le _ _ _))), by omega, by omega, hgo (by rw [hlt]; simp; omega)⟩
            repeat' (first | exact sees_nil | refine sees_cons rfl rfl rfl ?_ | refine sees_cons rfl rfl (by rw [← hwk]; rfl) ?_)
      · repeat (refine br_f g5 ?_; conv => whnf)
        have g5 : W = false := g5
        have hpx2 : placeX W k.toNat d r out out.length = kk := by rw [hpx, placeX, if_neg (by rw [g5]; simp)]
        have hpos := hpx2
        rw [hpos] at hrs
        have hcn : cells.length = out.length := hca.len
        have h1c := cells_one hca
        refine ⟨⟨_, fun w => slice_hiP _ _ hpl out.length cp kk under63 size63 (by omega) w, ?_⟩⟩
        conv => whnf
        refine IdxN.of (by omega) (by omega) ?_
        conv => whnf
        refine LoadN.of (hcell.mono (by repeat (first | exact View.le_refl _ | assumption | exact View.addU_le _ _ _ | refine View.le_trans ?_ (by assumption) | refine View.le_trans ?_ (View.addU_le _ _ _)))) 0 (by show off + i2 * 1 = off + i2 + 0; omega) rfl ?_
        conv => whnf
        refine ⟨⟨_, fun w => slice_loP _ _ hpl out.length cp kk under63 size63 hkk w, ?_⟩⟩
        conv => whnf
        repeat' first
          | (refine br_t rfl ?_; conv => whnf)
          | (refine br_f rfl ?_; conv => whnf)
          | (refine IdxN.lit rfl rfl ?_; conv => whnf)
          | (intro _; conv => whnf)
        refine AppN.to kk (Nat.zero_add _) [] (cells.take kk) (fun i v hv => by simp at hv) rfl (cells_take (hcl.mono (by repeat (first | exact View.le_refl _ | assumption | exact View.addU_le _ _ _ | refine View.le_trans ?_ (by assumption) | refine View.le_trans ?_ (View.addU_le _ _ _)))) hpl kk) (by rw [List.length_take, hcn, Nat.min_eq_left hkk]; exact (Nat.mul_one _).symm) (one_take h1c kk) (by omega) (by decide) fun b5 c5 V5 hV5 hc5 => ?_
        conv => whnf
        repeat' first
          | (refine br_t rfl ?_; conv => whnf)
          | (refine br_f rfl ?_; conv => whnf)
          | (refine IdxN.lit rfl rfl ?_; conv => whnf)
          | (intro _; conv => whnf)
        refine AppN.toR r.length (Nat.zero_add _) [] (r.flatMap vcells) (fun i v hv => by simp at hv) rfl (row_news hrp (hrva.mono (by repeat (first | exact View.le_refl _ | assumption | exact View.addU_le _ _ _ | refine View.le_trans ?_ (by assumption) | refine View.le_trans ?_ (View.addU_le _ _ _))))) (flat_len (f := vcells) (n := 3) (fun _ => rfl) _) (allOne_flat r) (by have := hw r hrm; omega) (by decide) fun b6 c6 V6 hV6 hc6 _ => ?_
        conv => whnf
        have hrow6 : RowAt V6 r (.slice b6 r.length c6) := ⟨b6, c6, rfl, .inr (plain_cells hc6), ValsAt.of_cells hc6 (by have := hw r hrm; omega)⟩
        repeat' first
          | (refine br_t rfl ?_; conv => whnf)
          | (refine br_f rfl ?_; conv => whnf)
          | (refine IdxN.lit rfl rfl ?_; conv => whnf)
          | (intro _; conv => whnf)
        rename_i l2 lk2
        refine AppN.to (kk + 1) rfl (cells.take kk) [.slice b6 r.length c6] (hc5.mono (by repeat (first | exact View.le_refl _ | assumption | exact View.addU_le _ _ _ | refine View.le_trans ?_ (by assumption) | refine View.le_trans ?_ (View.addU_le _ _ _)))) (by rw [List.length_take, hcn, Nat.min_eq_left hkk]; exact (Nat.mul_one _).symm) lk2.has rfl rfl (by omega) (by decide) fun b7 c7 V7 hV7 hc7 => ?_
        conv => whnf
        refine AppN.toc (out.length + 1) (by omega) (cells.take kk ++ [.slice b6 r.length c6]) (cells.drop kk) hc7 (by rw [List.length_append, List.length_take, hcn, Nat.min_eq_left hkk]; exact (Nat.mul_one _).symm) (cells_drop (hcl.mono (by repeat (first | exact View.le_refl _ | assumption | exact View.addU_le _ _ _ | refine View.le_trans ?_ (by assumption) | refine View.le_trans ?_ (View.addU_le _ _ _)))) hpl kk (by omega)) (by rw [List.length_drop, hcn]; exact (Nat.mul_one _).symm) (one_drop h1c kk) (by omega) (by decide) fun b8 c8 V8 hV8 hc8 hcp8 => ?_
        conv => whnf
        have hc8 : V8.cells (.slice b8 (insAt r out kk).length c8) (insAt (.slice b6 r.length c6) cells kk) := by
          rw [insAt_len, insAt]
          simpa using hc8
        refine ⟨j2 - 1, (i2 + 1, b8, c8, insAt r out kk, insAt (.slice b6 r.length c6) cells kk), by omega, ?_, keeps_nil, View.le_trans hV2 (by repeat (first | exact View.le_refl _ | assumption | exact View.addU_le _ _ _ | refine View.le_trans ?_ (by assumption) | refine View.le_trans ?_ (View.addU_le _ _ _))), hi3, by show _ - (i2 + 1) = _; omega, by show (insAt r out kk).length = i2 + 1; rw [insAt_len, hol], by show i2 + 1 ≤ c8; omega, plain_cells hc8, (hca.mono (by repeat (first | exact View.le_refl _ | assumption | exact View.addU_le _ _ _ | refine View.le_trans ?_ (by assumption) | refine View.le_trans ?_ (View.addU_le _ _ _)))).ins (hrow6.mono (by repeat (first | exact View.le_refl _ | assumption | exact View.addU_le _ _ _ | refine View.le_trans ?_ (by assumption) | refine View.le_trans ?_ (View.addU_le _ _ _)))) kk, hc8, fun s hs => ?_, hrs⟩
        · repeat' (first | exact sees_nil | refine sees_cons rfl rfl rfl ?_ | refine sees_cons rfl rfl (by rw [insAt_len]; rfl) ?_ | refine sees_cons rfl rfl (by rw [← hwi]; rfl) ?_)
        · rcases insAt_mem hs with rfl | hs
          · exact hrm
          · exact hin s hs
    · have hkp : kk = 0 := by have := of_decide_eq_false g4; omega
      repeat (refine br_f g4 ?_; conv => whnf)
      have hpx2 : placeX W k.toNat d r out out.length = kk := by rw [hpx, hkp, placeX]; cases W <;> rfl
      have hpos := hpx2
      rw [hpos] at hrs
      have hcn : cells.length = out.length := hca.len
      have h1c := cells_one hca
      refine ⟨⟨_, fun w => slice_hiP _ _ hpl out.length cp kk under63 size63 (by omega) w, ?_⟩⟩
      conv => whnf
      refine IdxN.of (by omega) (by omega) ?_
      conv => whnf
      refine LoadN.of (hcell.mono (by repeat (first | exact View.le_refl _ | assumption | exact View.addU_le _ _ _ | refine View.le_trans ?_ (by assumption) | refine View.le_trans ?_ (View.addU_le _ _ _)))) 0 (by show off + i2 * 1 = off + i2 + 0; omega) rfl ?_
      conv => whnf
      refine ⟨⟨_, fun w => slice_loP _ _ hpl out.length cp kk under63 size63 hkk w, ?_⟩⟩
      conv => whnf
      repeat' first
        | (refine br_t rfl ?_; conv => whnf)
        | (refine br_f rfl ?_; conv => whnf)
        | (refine IdxN.lit rfl rfl ?_; conv => whnf)
        | (intro _; conv => whnf)
      refine AppN.to kk (Nat.zero_add _) [] (cells.take kk) (fun i v hv => by simp at hv) rfl (cells_take (hcl.mono (by repeat (first | exact View.le_refl _ | assumption | exact View.addU_le _ _ _ | refine View.le_trans ?_ (by assumption) | refine View.le_trans ?_ (View.addU_le _ _ _)))) hpl kk) (by rw [List.length_take, hcn, Nat.min_eq_left hkk]; exact (Nat.mul_one _).symm) (one_take h1c kk) (by omega) (by decide) fun b5 c5 V5 hV5 hc5 => ?_
      conv => whnf
      repeat' first
        | (refine br_t rfl ?_; conv => whnf)
        | (refine br_f rfl ?_; conv => whnf)
        | (refine IdxN.lit rfl rfl ?_; conv => whnf)
        | (intro _; conv => whnf)
      refine AppN.toR r.length (Nat.zero_add _) [] (r.flatMap vcells) (fun i v hv => by simp at hv) rfl (row_news hrp (hrva.mono (by repeat (first | exact View.le_refl _ | assumption | exact View.addU_le _ _ _ | refine View.le_trans ?_ (by assumption) | refine View.le_trans ?_ (View.addU_le _ _ _))))) (flat_len (f := vcells) (n := 3) (fun _ => rfl) _) (allOne_flat r) (by have := hw r hrm; omega) (by decide) fun b6 c6 V6 hV6 hc6 _ => ?_
      conv => whnf
      have hrow6 : RowAt V6 r (.slice b6 r.length c6) := ⟨b6, c6, rfl, .inr (plain_cells hc6), ValsAt.of_cells hc6 (by have := hw r hrm; omega)⟩
      repeat' first
        | (refine br_t rfl ?_; conv => whnf)
        | (refine br_f rfl ?_; conv => whnf)
        | (refine IdxN.lit rfl rfl ?_; conv => whnf)
        | (intro _; conv => whnf)
      rename_i l2 lk2
      refine AppN.to (kk + 1) rfl (cells.take kk) [.slice b6 r.length c6] (hc5.mono (by repeat (first | exact View.le_refl _ | assumption | exact View.addU_le _ _ _ | refine View.le_trans ?_ (by assumption) | refine View.le_trans ?_ (View.addU_le _ _ _)))) (by rw [List.length_take, hcn, Nat.min_eq_left hkk]; exact (Nat.mul_one _).symm) lk2.has rfl rfl (by omega) (by decide) fun b7 c7 V7 hV7 hc7 => ?_
      conv => whnf
      refine AppN.toc (out.length + 1) (by omega) (cells.take kk ++ [.slice b6 r.length c6]) (cells.drop kk) hc7 (by rw [List.length_append, List.length_take, hcn, Nat.min_eq_left hkk]; exact (Nat.mul_one _).symm) (cells_drop (hcl.mono (by repeat (first | exact View.le_refl _ | assumption | exact View.addU_le _ _ _ | refine View.le_trans ?_ (by assumption) | refine View.le_trans ?_ (View.addU_le _ _ _)))) hpl kk (by omega)) (by rw [List.length_drop, hcn]; exact (Nat.mul_one _).symm) (one_drop h1c kk) (by omega) (by decide) fun b8 c8 V8 hV8 hc8 hcp8 => ?_
      conv => whnf
      have hc8 : V8.cells (.slice b8 (insAt r out kk).length c8) (insAt (.slice b6 r.length c6) cells kk) := by
        rw [insAt_len, insAt]
        simpa using hc8
      refine ⟨j2 - 1, (i2 + 1, b8, c8, insAt r out kk, insAt (.slice b6 r.length c6) cells kk), by omega, ?_, keeps_nil, View.le_trans hV2 (by repeat (first | exact View.le_refl _ | assumption | exact View.addU_le _ _ _ | refine View.le_trans ?_ (by assumption) | refine View.le_trans ?_ (View.addU_le _ _ _))), hi3, by show _ - (i2 + 1) = _; omega, by show (insAt r out kk).length = i2 + 1; rw [insAt_len, hol], by show i2 + 1 ≤ c8; omega, plain_cells hc8, (hca.mono (by repeat (first | exact View.le_refl _ | assumption | exact View.addU_le _ _ _ | refine View.le_trans ?_ (by assumption) | refine View.le_trans ?_ (View.addU_le _ _ _)))).ins (hrow6.mono (by repeat (first | exact View.le_refl _ | assumption | exact View.addU_le _ _ _ | refine View.le_trans ?_ (by assumption) | refine View.le_trans ?_ (View.addU_le _ _ _)))) kk, hc8, fun s hs => ?_, hrs⟩
      · repeat' (first | exact sees_nil | refine sees_cons rfl rfl rfl ?_ | refine sees_cons rfl rfl (by rw [insAt_len]; rfl) ?_ | refine sees_cons rfl rfl (by rw [← hwi]; rfl) ?_)
      · rcases insAt_mem hs with rfl | hs
        · exact hrm
        · exact hin s hs
  · have hi3 : ¬ i2 < rows.length := by have := of_decide_eq_false g3; omega
    repeat' first
      | (refine br_t rfl ?_; conv => whnf)
      | (refine br_f rfl ?_; conv => whnf)
      | (refine IdxN.lit rfl rfl ?_; conv => whnf)
      | (intro _; conv => whnf)
    rw [List.drop_eq_nil_of_le (by omega), rsortF] at hrs
    exact ret_pure ⟨base, cp, by rw [← hrs]; rfl, hpl, hrs ▸ RowsAt.of_cells hca hcl (by omega)⟩
end Go.Proofs.Ytenpginanhnkbaa
end
