/- One part of a proof: an evaluator of the model, shown right, and contracts that it yields. No condition beyond those that each theorem names. -/
import Derived.Test.YtenpginanhnkbaaCK
section
set_option linter.unusedSimpArgs false
set_option linter.unusedVariables false
namespace Go.Proofs.Ytenpginanhnkbaa
open Go.X
set_option maxRecDepth 100000

theorem cmpV_bound (a b : Val) : -1 ≤ cmpV a b ∧ cmpV a b ≤ 1 := by
  unfold cmpV orI cmpI cmpS
  repeat' split
  all_goals omega
theorem sign_wrap {s : Int} (hs : s = 1 ∨ s = -1) (a b : Val) : IntKind.i64.wrap (s * cmpV a b) = s * cmpV a b := by
  have h := cmpV_bound a b
  rw [wrapE]
  rcases hs with rfl | rfl <;> omega
theorem best1_spec (a b : Val) (s : Int) (hs : s = 1 ∨ s = -1) (p : Nat) (V : View) (hp : V.has p 0 [.int .i64 s]) :
    PSpec 118 [vv a, vv b, .pointer (some ⟨p, 0, none⟩)] V (fun v _ => v = .int .i64 (s * cmpV a b)) := by
  refine does_of_zfun [(1, [(0, []), (1, []), (2, []), (3, []), (4, []), (5, [])])] mixed (args := [.v _, .v _, .v _]) (ms := []) Try.func118 (by kernel_rfl) rfl ?_
  conv => whnf
  repeat' first
    | (refine br_t rfl ?_; conv => whnf)
    | (refine br_f rfl ?_; conv => whnf)
    | (refine IdxN.lit rfl rfl ?_; conv => whnf)
    | (intro _; conv => whnf)
  refine LoadN.of (hp.mono (by repeat (first | exact View.le_refl _ | assumption | exact View.addU_le _ _ _ | refine View.le_trans ?_ (by assumption) | refine View.le_trans ?_ (View.addU_le _ _ _)))) 0 rfl rfl ?_
  conv => whnf
  refine CallN.pure (compare_spec a b _) fun v V1 _ hV1 hv => ?_
  subst hv
  refine Prot.refl ?_
  conv => whnf
  repeat' first
    | (refine br_t rfl ?_; conv => whnf)
    | (refine br_f rfl ?_; conv => whnf)
    | (refine IdxN.lit rfl rfl ?_; conv => whnf)
    | (intro _; conv => whnf)
  refine ret_pure ?_
  have h := sign_wrap hs a b
  show Value.int .i64 (IntKind.i64.wrap (s * cmpV a b)) = _
  rw [h]
/-- the value that stands ahead of all others -/
def maxF (s : Int) (m : Val) : List Val → Val
  | [] => m
  | y :: l => maxF s (if 0 < s * cmpV y m then y else m) l
theorem maxf_spec (x : Val) (l : List Val) (s : Int) (hs : s = 1 ∨ s = -1) (b p : Nat) (off cap : Nat) (V : View) (hb : V.has b 0 [.int .i64 s]) (hl : V.has p off ((x :: l).flatMap vcells)) (hlen : l.length ≤ 1000) :
    PSpec 117 [.slice (some ⟨p, off, none⟩) (x :: l).length cap, .func (.func 118) #[] #[.pointer (some ⟨b, 0, none⟩)]] V (fun v _ => v = vv (maxF s x l)) := by
  refine does_of_zfun [(7, [(0, []), (1, []), (2, []), (3, []), (4, []), (5, []), (6, []), (7, [])])] mixed (args := [.v _, .v _]) (ms := []) Try.func117 (by kernel_rfl) rfl ?_
  conv => whnf
  repeat' first
    | (refine br_t rfl ?_; conv => whnf)
    | (refine br_f rfl ?_; conv => whnf)
    | (refine IdxN.lit rfl rfl ?_; conv => whnf)
    | (intro _; conv => whnf)
  have h0 := has_flat (n := 3) (fun _ => rfl) (x :: l) off hl 0 x rfl
  refine IdxN.of (by omega) (by simp only [List.length_cons]; omega) ?_
  conv => whnf
  refine LoadN.of (h0.mono (by repeat (first | exact View.le_refl _ | assumption | exact View.addU_le _ _ _ | refine View.le_trans ?_ (by assumption) | refine View.le_trans ?_ (View.addU_le _ _ _)))) 0 rfl rfl ?_
  conv => whnf
  repeat' first
    | (refine br_t rfl ?_; conv => whnf)
    | (refine br_f rfl ?_; conv => whnf)
    | (refine IdxN.lit rfl rfl ?_; conv => whnf)
    | (intro _; conv => whnf)
  rename_i b4 b5
  refine loopz (σ := Nat × Val) (fun z => [(0, .v (.slice (some ⟨p, off, none⟩) (x :: l).length cap)), (1, .v (.func (.func 118) #[] #[.pointer (some ⟨b, 0, none⟩)])), (4, .own 4 0), (5, .own 5 0), (6, .v (.int .i64 z.1))])
    (fun z => [(4, .box b4 38 [.int .i64 0, .int .i64 0, .string noText]), (5, .box b5 38 (vcells z.2))])
    (fun j z V' => V.le V' ∧ 1 ≤ z.1 ∧ z.1 ≤ l.length + 1 ∧ l.length + 1 - z.1 = j ∧ maxF s z.2 (l.drop (z.1 - 1)) = maxF s x l) l.length (1, x) ?_ ?_ ?_ ?_
  · repeat' (first | exact sees_nil | refine sees_cons rfl rfl rfl ?_)
  · repeat' (first | exact keeps_nil | refine keeps_cons rfl ?_ | refine keeps_free ?_)
  · exact ⟨View.le_refl _, Nat.le_refl _, by show 1 ≤ _; omega, by show l.length + 1 - 1 = _; omega, rfl⟩
  rintro j ⟨i, m⟩ V' ⟨hV, hi1, hi, hj, hm⟩
  simp only at hi1 hi hj hm
  obtain ⟨k, rfl⟩ : ∃ k, i = k + 1 := ⟨i - 1, by omega⟩
  conv => whnf
  apply br <;> intro h3 <;> conv => whnf
  · have hk : k < l.length := by
      have := of_decide_eq_true h3
      simp only [List.length_cons] at this
      omega
    obtain ⟨y, hy⟩ : ∃ y, l[k]? = some y := ⟨_, List.getElem?_eq_getElem hk⟩
    have hy1 : (x :: l)[k + 1]? = some y := by simpa using hy
    have hyc := has_flat (n := 3) (fun _ => rfl) (x :: l) off hl (k + 1) y hy1
    have hdrop : l.drop k = y :: l.drop (k + 1) := by
      rw [List.drop_eq_getElem_cons hk]
      have e1 : l[k] = y := by rw [List.getElem?_eq_getElem hk] at hy; exact Option.some.inj hy
      rw [e1]
    have hm : maxF s m (y :: l.drop (k + 1)) = maxF s x l := by rw [← hdrop]; exact hm
    rw [maxF] at hm
    have hin : ((k + 1 : Nat) : Int) < (((x :: l).length : Nat) : Int) := by simp only [List.length_cons]; omega
    refine IdxN.of (by omega) hin ?_
    conv => whnf
    refine LoadN.of (hyc.mono (by repeat (first | exact View.le_refl _ | assumption | exact View.addU_le _ _ _ | refine View.le_trans ?_ (by assumption) | refine View.le_trans ?_ (View.addU_le _ _ _)))) 0 rfl rfl ?_
    conv => whnf
    refine CallN.pure (best1_spec y m s hs b _ (hb.mono (by repeat (first | exact View.le_refl _ | assumption | exact View.addU_le _ _ _ | refine View.le_trans ?_ (by assumption) | refine View.le_trans ?_ (View.addU_le _ _ _))))) fun v V1 _ hV1 hv => ?_
    subst hv
    refine Prot.refl ?_
    conv => whnf
    have hw := wrap_nat (i := k + 1) (by omega)
    apply br <;> intro h4 <;> conv => whnf
    · have h4 : 0 < s * cmpV y m := of_decide_eq_true h4
      rw [if_pos h4] at hm
      refine IdxN.of (by omega) hin ?_
      conv => whnf
      refine LoadN.of (hyc.mono (by repeat (first | exact View.le_refl _ | assumption | exact View.addU_le _ _ _ | refine View.le_trans ?_ (by assumption) | refine View.le_trans ?_ (View.addU_le _ _ _)))) 0 rfl rfl ?_
      conv => whnf
      refine ⟨j - 1, (k + 2, y), by omega, ?_, ?_, View.le_trans hV hV1, by show 1 ≤ k + 2; omega, by show k + 2 ≤ _; omega, by show _ - (k + 2) = _; omega, hm⟩
      · repeat' (first | exact sees_nil | refine sees_cons rfl rfl rfl ?_ | refine sees_cons rfl rfl (by rw [← hw]; rfl) ?_)
      · repeat' (first | exact keeps_nil | refine keeps_cons rfl ?_ | refine keeps_free ?_)
    · have h4 : ¬ 0 < s * cmpV y m := of_decide_eq_false h4
      rw [if_neg h4] at hm
      refine ⟨j - 1, (k + 2, m), by omega, ?_, ?_, View.le_trans hV hV1, by show 1 ≤ k + 2; omega, by show k + 2 ≤ _; omega, by show _ - (k + 2) = _; omega, hm⟩
      · repeat' (first | exact sees_nil | refine sees_cons rfl rfl rfl ?_ | refine sees_cons rfl rfl (by rw [← hw]; rfl) ?_)
      · repeat' (first | exact keeps_nil | refine keeps_cons rfl ?_ | refine keeps_free ?_)
  · have hk : ¬ k < l.length := by
      have := of_decide_eq_false h3
      simp only [List.length_cons] at this
      omega
    have hm : maxF s m (l.drop k) = maxF s x l := hm
    rw [List.drop_eq_nil_of_le (by omega)] at hm
    repeat' first
      | (refine br_t rfl ?_; conv => whnf)
      | (refine br_f rfl ?_; conv => whnf)
      | (refine IdxN.lit rfl rfl ?_; conv => whnf)
      | (intro _; conv => whnf)
    exact ret_pure (by rw [← hm]; rfl)
/-- the best of values: none, an error -/
def bestX (s : Int) : List Val → Val × Int
  | [] => (v0, 23)
  | x :: l => (maxF s x l, 0)
theorem best_spec (l : List Val) (s : Int) (hs : s = 1 ∨ s = -1) (base : Option Addr) (cap : Nat) (V : View) (hl : ValsAt V l base) (hlen : l.length ≤ 1000) :
    PSpec 109 [.slice base l.length cap, .int .i64 s] V (fun v _ => v = pairX (bestX s l)) := by
  refine does_of_zfun [] mixed (args := [.v _, .v _]) (ms := []) Try.func109 (by kernel_rfl) rfl ?_
  conv => whnf
  repeat' first
    | (refine br_t rfl ?_; conv => whnf)
    | (refine br_f rfl ?_; conv => whnf)
    | (refine IdxN.lit rfl rfl ?_; conv => whnf)
    | (intro _; conv => whnf)
  rename_i b3 b4
  cases l with
  | nil =>
    refine br_t rfl ?_
    conv => whnf
    repeat' first
      | (refine br_t rfl ?_; conv => whnf)
      | (refine br_f rfl ?_; conv => whnf)
      | (refine IdxN.lit rfl rfl ?_; conv => whnf)
      | (intro _; conv => whnf)
    exact ret_pure rfl
  | cons x l =>
    refine br_f (by simp only [List.length_cons, decide_eq_false_iff_not, beq_eq_false_iff_ne]; omega) ?_
    conv => whnf
    repeat' first
      | (refine br_t rfl ?_; conv => whnf)
      | (refine br_f rfl ?_; conv => whnf)
      | (refine IdxN.lit rfl rfl ?_; conv => whnf)
      | (intro _; conv => whnf)
    obtain ⟨p, off, rfl, hh⟩ := hl.has (by simp)
    refine CallN.lend 3 rfl fun l3 => CallN.pure (maxf_spec x l s hs b3 p off cap _ View.add_has (hh.mono (by repeat (first | exact View.le_refl _ | assumption | exact View.addU_le _ _ _ | refine View.le_trans ?_ (by assumption) | refine View.le_trans ?_ (View.addU_le _ _ _)))) (by simp only [List.length_cons] at hlen; omega)) fun v V2 _ hV2 hv => ⟨⟨_, rfl⟩, rfl, ?_⟩
    subst hv
    conv => whnf
    repeat' first
      | (refine br_t rfl ?_; conv => whnf)
      | (refine br_f rfl ?_; conv => whnf)
      | (refine IdxN.lit rfl rfl ?_; conv => whnf)
      | (intro _; conv => whnf)
    exact ret_pure rfl
end Go.Proofs.Ytenpginanhnkbaa
end

section
set_option linter.unusedSimpArgs false
set_option linter.unusedVariables false
namespace Go.Proofs.Ytenpginanhnkbaa
open Go.X
set_option maxRecDepth 100000

/-- a column's values, of rows that have it -/
def valsOf (c : Int) : List (List Val) → List Val
  | [] => []
  | r :: l => (if 0 ≤ c then (match r[c.toNat]? with | some v => [v] | none => []) else []) ++ valsOf c l
theorem valsOf_append (c : Int) : ∀ a b, valsOf c (a ++ b) = valsOf c a ++ valsOf c b
  | [], b => rfl
  | r :: a, b => by simp only [List.cons_append, valsOf, valsOf_append c a b, List.append_assoc]
theorem valsOf_len (c : Int) : ∀ a, (valsOf c a).length ≤ a.length
  | [] => Nat.le_refl _
  | r :: a => by
    have := valsOf_len c a
    simp only [valsOf, List.length_append, List.length_cons]
    split
    · split <;> simp only [List.length_cons, List.length_nil] <;> omega
    · simp only [List.length_nil]; omega
theorem valsOf_mem {c : Int} : ∀ {a : List (List Val)} {v : Val}, v ∈ valsOf c a → ∃ r ∈ a, v ∈ r
  | [], v, h => by cases h
  | r :: a, v, h => by
    simp only [valsOf, List.mem_append] at h
    rcases h with h | h
    · split at h
      · split at h
        · rename_i u hu
          rw [List.mem_singleton.1 h]
          exact ⟨r, by simp, List.mem_of_getElem? hu⟩
        · cases h
      · cases h
    · obtain ⟨r2, h1, h2⟩ := valsOf_mem h
      exact ⟨r2, by simp [h1], h2⟩
/-- a sum, that may run over -/
def sumX (a : Int) : List Val → Val × Int
  | [] => (⟨1, a, noText⟩, 0)
  | v :: l => if (fits (a + v.n)).2 ≠ 0 then (v0, (fits (a + v.n)).2) else sumX (fits (a + v.n)).1 l
def aggX (its : List Item) (rows : List (List Val)) (x : Item) : Val × Int :=
  if x.agg = 1 then (⟨1, rows.length, noText⟩, 0) else
  if x.agg = 3 then bestX (-1) (valsOf (placeOf (hitI x.tb x.nm) its 0) rows) else
  if x.agg = 4 then bestX 1 (valsOf (placeOf (hitI x.tb x.nm) its 0) rows) else
  sumX 0 (valsOf (placeOf (hitI x.tb x.nm) its 0) rows)
theorem agg_spec (its : List Item) (cb : Option Addr) (cc : Nat) (rows : List (List Val)) (rb : Option Addr) (rc : Nat) (x : Item) (V : View) (hc : V.cells (.slice cb its.length cc) (its.flatMap icells)) (his : its.length ≤ 1000)
    (hr : RowsAt V rows rb) (hs : rows.length ≤ 1000) (hin : ∀ r ∈ rows, ∀ v ∈ r, InR v.n) (hw : ∀ r ∈ rows, r.length ≤ 1000) :
    PSpec 89 [.agg #[.slice cb its.length cc, .slice rb rows.length rc], iagg x] V (fun v _ => v = pairX (aggX its rows x)) := by
  obtain ⟨xa, xtb, xnm⟩ := x
  refine does_of_zfun [] mixed (args := [.v _, .v _]) (ms := []) Try.func89 (by kernel_rfl) rfl ?_
  conv => whnf
  repeat' first
    | (refine br_t rfl ?_; conv => whnf)
    | (refine br_f rfl ?_; conv => whnf)
    | (refine IdxN.lit rfl rfl ?_; conv => whnf)
    | (intro _; conv => whnf)
  rename_i b2 b3 b4
  apply br <;> intro h1 <;> conv => whnf
  · have h1 : xa = 1 := by simpa using h1
    repeat' first
      | (refine br_t rfl ?_; conv => whnf)
      | (refine br_f rfl ?_; conv => whnf)
      | (refine IdxN.lit rfl rfl ?_; conv => whnf)
      | (intro _; conv => whnf)
    exact ret_pure (by unfold aggX; rw [if_pos h1]; rfl)
  have h1 : ¬ xa = 1 := by simpa using h1
  unfold aggX
  simp only [if_neg h1]
  refine CallN.pure (place_spec its cb rb cc rows.length rc xtb xnm _ (hc.mono (by repeat (first | exact View.le_refl _ | assumption | exact View.addU_le _ _ _ | refine View.le_trans ?_ (by assumption) | refine View.le_trans ?_ (View.addU_le _ _ _)))) his) fun v V1 _ hV1 hv => ?_
  subst hv
  generalize placeOf (hitI xtb xnm) its 0 = c
  conv => whnf
  refine loopz (σ := Nat × Option Addr × Nat × List Val)
    (fun z => [(2, .own 2 0), (3, .own 3 0), (4, .own 4 0), (5, .v (.int .i64 0)), (6, .v (.int .i64 c)), (7, .row 49), (29, .v (.slice rb rows.length rc)), (30, .v (.int .i64 rows.length)), (31, .v (.int .i64 z.1))])
    (fun z => [(2, .box b2 113 [.slice cb its.length cc, .slice rb rows.length rc]), (3, .box b3 61 [.int .i64 xa, .string xtb, .string xnm]), (4, .box b4 38 [.int .i64 0, .int .i64 0, .string noText]), (49, .row (.slice z.2.1 z.2.2.2.length z.2.2.1) 38 3 z.2.2.2.length)])
    (fun j z V' => V1.le V' ∧ z.1 ≤ rows.length ∧ rows.length - z.1 = j ∧ z.2.2.2 = valsOf c (rows.take z.1) ∧ V'.cells (.slice z.2.1 z.2.2.2.length z.2.2.1) (z.2.2.2.flatMap vcells))
    rows.length (0, none, 0, []) ?_ ?_ ?_ ?_
  · repeat' (first | exact sees_nil | refine sees_cons rfl rfl rfl ?_)
  · repeat' (first | exact keeps_nil | refine keeps_cons rfl ?_ | refine keeps_free ?_)
  · exact ⟨View.le_refl _, Nat.zero_le _, by simp, rfl, rfl⟩
  rintro j ⟨i, base, cp, acc⟩ V' ⟨hV, hi, hj, hacc, hcl⟩
  simp only at hi hj hacc hcl
  have hlen : acc.length ≤ i := by
    rw [hacc]
    exact Nat.le_trans (valsOf_len _ _) (by rw [List.length_take]; omega)
  conv => whnf
  apply br <;> intro h3 <;> conv => whnf
  · have hi0 : (i : Int) < rows.length := of_decide_eq_true h3
    have hi1 : i < rows.length := by omega
    obtain ⟨r, hr1⟩ : ∃ r, rows[i]? = some r := ⟨_, List.getElem?_eq_getElem hi1⟩
    have htake : rows.take (i + 1) = rows.take i ++ [r] := by rw [List.take_add_one, hr1]; rfl
    obtain ⟨p, off, cv, rfl, hcell, hrow⟩ := hr.at hr1
    obtain ⟨rbase, rcap, hrv, hrp, hrva⟩ := hrow
    subst hrv
    have hwi := wrap_nat (i := i) (by omega)
    have hrl := hw r (List.mem_of_getElem? hr1)
    refine IdxN.of (by omega) (by omega) ?_
    conv => whnf
    refine LoadN.of (hcell.mono (by repeat (first | exact View.le_refl _ | assumption | exact View.addU_le _ _ _ | refine View.le_trans ?_ (by assumption) | refine View.le_trans ?_ (View.addU_le _ _ _)))) 0 (by show off + i * 1 = off + i + 0; omega) rfl ?_
    conv => whnf
    apply br <;> intro h4 <;> conv => whnf
    · have h4 : 0 ≤ c := of_decide_eq_true h4
      obtain ⟨k, rfl⟩ := Int.eq_ofNat_of_zero_le h4
      apply br <;> intro h5 <;> conv => whnf
      · have h5 : k < r.length := by have := of_decide_eq_true h5; omega
        obtain ⟨u, hu⟩ : ∃ u, r[k]? = some u := ⟨_, List.getElem?_eq_getElem h5⟩
        obtain ⟨q, off2, hb2, hval⟩ := hrva.at hu
        subst hb2
        refine IdxN.of (by omega) (by omega) ?_
        conv => whnf
        refine LoadN.of (hval.mono (by repeat (first | exact View.le_refl _ | assumption | exact View.addU_le _ _ _ | refine View.le_trans ?_ (by assumption) | refine View.le_trans ?_ (View.addU_le _ _ _)))) 0 rfl rfl ?_
        conv => whnf
        intro lb Vl hVl hln
        conv => whnf
        refine AppN.to (acc.length + 1) rfl (acc.flatMap vcells) (vcells u) (hcl.mono (by repeat (first | exact View.le_refl _ | assumption | exact View.addU_le _ _ _ | refine View.le_trans ?_ (by assumption) | refine View.le_trans ?_ (View.addU_le _ _ _)))) (by rw [flat_len (f := vcells) (n := 3) (fun _ => rfl)]; rfl) hln rfl rfl (by omega) (by decide) fun base' cap' Vm hVm hcm => ?_
        conv => whnf
        have hcm : Vm.cells (.slice base' (acc ++ [u]).length cap') ((acc ++ [u]).flatMap vcells) := by
          rw [List.flatMap_append, List.length_append]
          simpa using hcm
        refine ⟨j - 1, (i + 1, base', cap', acc ++ [u]), by omega, ?_, ?_, View.le_trans hV (by repeat (first | exact View.le_refl _ | assumption | exact View.addU_le _ _ _ | refine View.le_trans ?_ (by assumption) | refine View.le_trans ?_ (View.addU_le _ _ _))), hi1, by show _ - (i + 1) = _; omega, ?_, hcm⟩
        · repeat' (first | exact sees_nil | refine sees_cons rfl rfl (by simp only [List.length_append, List.length_cons, List.length_nil]; rfl) ?_ | refine sees_cons rfl rfl rfl ?_ | refine sees_cons rfl rfl (by rw [← hwi]; rfl) ?_)
        · repeat' (first | exact keeps_nil | refine keeps_cons rfl ?_ | refine keeps_cons (by simp only [List.length_append, List.length_cons, List.length_nil]; rfl) ?_ | refine keeps_free ?_)
        · show acc ++ [u] = valsOf _ (rows.take (i + 1))
          rw [htake, valsOf_append, ← hacc]
          simp [valsOf, hu]
      · have h5 : ¬ k < r.length := by have := of_decide_eq_false h5; omega
        refine ⟨j - 1, (i + 1, base, cp, acc), by omega, ?_, ?_, View.le_trans hV (by repeat (first | exact View.le_refl _ | assumption | exact View.addU_le _ _ _ | refine View.le_trans ?_ (by assumption) | refine View.le_trans ?_ (View.addU_le _ _ _))), hi1, by show _ - (i + 1) = _; omega, ?_, hcl.mono (by repeat (first | exact View.le_refl _ | assumption | exact View.addU_le _ _ _ | refine View.le_trans ?_ (by assumption) | refine View.le_trans ?_ (View.addU_le _ _ _)))⟩
        · repeat' (first | exact sees_nil | refine sees_cons rfl rfl rfl ?_ | refine sees_cons rfl rfl (by rw [← hwi]; rfl) ?_)
        · repeat' (first | exact keeps_nil | refine keeps_cons rfl ?_ | refine keeps_free ?_)
        rw [htake, valsOf_append, ← hacc]
        simp [valsOf, List.getElem?_eq_none (show r.length ≤ k by omega)]
    · have h4 : ¬ 0 ≤ c := of_decide_eq_false h4
      refine ⟨j - 1, (i + 1, base, cp, acc), by omega, ?_, ?_, View.le_trans hV (by repeat (first | exact View.le_refl _ | assumption | exact View.addU_le _ _ _ | refine View.le_trans ?_ (by assumption) | refine View.le_trans ?_ (View.addU_le _ _ _))), hi1, by show _ - (i + 1) = _; omega, ?_, hcl.mono (by repeat (first | exact View.le_refl _ | assumption | exact View.addU_le _ _ _ | refine View.le_trans ?_ (by assumption) | refine View.le_trans ?_ (View.addU_le _ _ _)))⟩
      · repeat' (first | exact sees_nil | refine sees_cons rfl rfl rfl ?_ | refine sees_cons rfl rfl (by rw [← hwi]; rfl) ?_)
      · repeat' (first | exact keeps_nil | refine keeps_cons rfl ?_ | refine keeps_free ?_)
      rw [htake, valsOf_append, ← hacc]
      simp [valsOf, h4]
  · have hi0 : ¬ (i : Int) < rows.length := of_decide_eq_false h3
    rw [List.take_of_length_le (by omega)] at hacc
    subst hacc
    have hva : ValsAt V' (valsOf c rows) base := ValsAt.of_cells hcl (by omega)
    repeat' first
      | (refine br_t rfl ?_; conv => whnf)
      | (refine br_f rfl ?_; conv => whnf)
      | (refine IdxN.lit rfl rfl ?_; conv => whnf)
      | (intro _; conv => whnf)
    apply br <;> intro g3 <;> conv => whnf
    · have g3 : xa = 3 := by simpa using g3
      rw [if_pos g3]
      refine CallN.pure (best_spec (valsOf c rows) (-1) (.inr rfl) base cp _ (hva.mono (by repeat (first | exact View.le_refl _ | assumption | exact View.addU_le _ _ _ | refine View.le_trans ?_ (by assumption) | refine View.le_trans ?_ (View.addU_le _ _ _)))) (by omega)) fun v V2 _ hV2 hv => ?_
      subst hv
      conv => whnf
      repeat' first
        | (refine br_t rfl ?_; conv => whnf)
        | (refine br_f rfl ?_; conv => whnf)
        | (refine IdxN.lit rfl rfl ?_; conv => whnf)
        | (intro _; conv => whnf)
      exact ret_pure rfl
    have g3 : ¬ xa = 3 := by simpa using g3
    rw [if_neg g3]
    apply br <;> intro g4 <;> conv => whnf
    · have g4 : xa = 4 := by simpa using g4
      rw [if_pos g4]
      refine CallN.pure (best_spec (valsOf c rows) 1 (.inl rfl) base cp _ (hva.mono (by repeat (first | exact View.le_refl _ | assumption | exact View.addU_le _ _ _ | refine View.le_trans ?_ (by assumption) | refine View.le_trans ?_ (View.addU_le _ _ _)))) (by omega)) fun v V2 _ hV2 hv => ?_
      subst hv
      conv => whnf
      repeat' first
        | (refine br_t rfl ?_; conv => whnf)
        | (refine br_f rfl ?_; conv => whnf)
        | (refine IdxN.lit rfl rfl ?_; conv => whnf)
        | (intro _; conv => whnf)
      exact ret_pure rfl
    have g4 : ¬ xa = 4 := by simpa using g4
    rw [if_neg g4]
    repeat' first
      | (refine br_t rfl ?_; conv => whnf)
      | (refine br_f rfl ?_; conv => whnf)
      | (refine IdxN.lit rfl rfl ?_; conv => whnf)
      | (intro _; conv => whnf)
    rename_i b10
    have hin2 : ∀ v ∈ valsOf c rows, InR v.n := fun v hv => by
      obtain ⟨r, h1, h2⟩ := valsOf_mem hv
      exact hin r h1 v h2
    have hl2 := valsOf_len c rows
    generalize valsOf c rows = l at *
    refine loopz (σ := Nat × Int) (fun z => [(4, .own 4 0), (10, .own 10 0), (66, .v (.slice base l.length cp)), (67, .v (.int .i64 l.length)), (68, .v (.int .i64 z.1))])
      (fun z => [(4, .box b4 38 [.int .i64 0, .int .i64 0, .string noText]), (10, .box b10 38 [.int .i64 1, .int .i64 z.2, .string noText])])
      (fun j z V2 => V'.le V2 ∧ z.1 ≤ l.length ∧ l.length - z.1 = j ∧ InR z.2 ∧ sumX z.2 (l.drop z.1) = sumX 0 l)
      l.length (0, 0) ?_ ?_ ?_ ?_
    · repeat' (first | exact sees_nil | refine sees_cons rfl rfl rfl ?_)
    · repeat' (first | exact keeps_nil | refine keeps_cons rfl ?_ | refine keeps_free ?_)
    · exact ⟨View.le_refl _, Nat.zero_le _, by simp, ⟨by decide, by decide⟩, rfl⟩
    rintro j2 ⟨k, a⟩ V2 ⟨hV2, hk, hj2, ha, hsum⟩
    simp only at hk hj2 ha hsum
    conv => whnf
    apply br <;> intro h5 <;> conv => whnf
    · have hk1 : k < l.length := by have := of_decide_eq_true h5; omega
      obtain ⟨u, hu⟩ : ∃ u, l[k]? = some u := ⟨_, List.getElem?_eq_getElem hk1⟩
      have hdrop : l.drop k = u :: l.drop (k + 1) := by
        rw [List.drop_eq_getElem_cons hk1]
        have e1 : l[k] = u := by rw [List.getElem?_eq_getElem hk1] at hu; exact Option.some.inj hu
        rw [e1]
      rw [hdrop, sumX] at hsum
      obtain ⟨p2, off2, hb2, hval⟩ := hva.at hu
      subst hb2
      refine IdxN.of (by omega) (by omega) ?_
      conv => whnf
      refine LoadN.of (hval.mono (by repeat (first | exact View.le_refl _ | assumption | exact View.addU_le _ _ _ | refine View.le_trans ?_ (by assumption) | refine View.le_trans ?_ (View.addU_le _ _ _)))) 0 rfl rfl ?_
      conv => whnf
      repeat' first
        | (refine br_t rfl ?_; conv => whnf)
        | (refine br_f rfl ?_; conv => whnf)
        | (refine IdxN.lit rfl rfl ?_; conv => whnf)
        | (intro _; conv => whnf)
      refine CallN.pure (add_spec a u.n ha (hin2 u (List.mem_of_getElem? hu)) _) fun v V3 _ hV3 hv => ?_
      subst hv
      have hf := fits_inR (a + u.n)
      generalize fits (a + u.n) = F at *
      obtain ⟨f1, f2⟩ := F
      simp only at hsum hf
      conv => whnf
      apply br <;> intro h6 <;> conv => whnf
      · have h6 : f2 ≠ 0 := by simpa using h6
        rw [if_pos h6] at hsum
        rw [← hsum]
        repeat' first
          | (refine br_t rfl ?_; conv => whnf)
          | (refine br_f rfl ?_; conv => whnf)
          | (refine IdxN.lit rfl rfl ?_; conv => whnf)
          | (intro _; conv => whnf)
        exact ret_pure rfl
      · have h6 : f2 = 0 := by simpa using h6
        rw [if_neg (fun h => h h6)] at hsum
        have hw := wrap_nat (i := k) (by omega)
        repeat' first
          | (refine br_t rfl ?_; conv => whnf)
          | (refine br_f rfl ?_; conv => whnf)
          | (refine IdxN.lit rfl rfl ?_; conv => whnf)
          | (intro _; conv => whnf)
        refine ⟨j2 - 1, (k + 1, f1), by omega, ?_, ?_, View.le_trans hV2 hV3, hk1, by show _ - (k + 1) = _; omega, hf, hsum⟩
        · repeat' (first | exact sees_nil | refine sees_cons rfl rfl rfl ?_ | refine sees_cons rfl rfl (by rw [← hw]; rfl) ?_)
        · repeat' (first | exact keeps_nil | refine keeps_cons rfl ?_ | refine keeps_free ?_)
    · have hk1 : ¬ k < l.length := by have := of_decide_eq_false h5; omega
      rw [List.drop_eq_nil_of_le (by omega)] at hsum
      rw [← hsum]
      repeat' first
        | (refine br_t rfl ?_; conv => whnf)
        | (refine br_f rfl ?_; conv => whnf)
        | (refine IdxN.lit rfl rfl ?_; conv => whnf)
        | (intro _; conv => whnf)
      exact ret_pure rfl
end Go.Proofs.Ytenpginanhnkbaa
end

section
set_option linter.unusedSimpArgs false
set_option linter.unusedVariables false
namespace Go.Proofs.Ytenpginanhnkbaa
open Go.X
set_option maxRecDepth 100000

/-- the row of items that are folded, up to the first error -/
def oneX (its : List Item) (rows : List (List Val)) : List Item → List Val × Int
  | [] => ([], 0)
  | x :: l => if (aggX its rows x).2 ≠ 0 then ([], (aggX its rows x).2) else ((aggX its rows x).1 :: (oneX its rows l).1, (oneX its rows l).2)
theorem oneX_len (its : List Item) (rows : List (List Val)) : ∀ l, (oneX its rows l).1.length ≤ l.length
  | [] => Nat.le_refl _
  | x :: l => by
    have := oneX_len its rows l
    rw [oneX]
    split
    · simp
    · simp only [List.length_cons]; omega
theorem oneR_spec (its : List Item) (cb : Option Addr) (cc : Nat) (rows : List (List Val)) (rb : Option Addr) (rc : Nat) (xs : List Item) (ib io ic : Nat) (V : View) (hc : V.cells (.slice cb its.length cc) (its.flatMap icells)) (his : its.length ≤ 1000)
    (hr : RowsAt V rows rb) (hs : rows.length ≤ 1000) (hin : ∀ r ∈ rows, ∀ v ∈ r, InR v.n) (hw : ∀ r ∈ rows, r.length ≤ 1000) (hx : V.has ib io (xs.flatMap icells)) (hxl : xs.length ≤ 1000) :
    PSpec 62 [.agg #[.slice cb its.length cc, .slice rb rows.length rc], .slice (some ⟨ib, io, none⟩) xs.length ic] V
      (fun v V' => ∃ x, v = .tuple #[x, .int .i64 (oneX its rows xs).2] ∧ ((oneX its rows xs).2 = 0 → RowsV V' [(oneX its rows xs).1] x) ∧ ((oneX its rows xs).2 ≠ 0 → x = .slice none 0 0)) := by
  refine does_of_zfun [] mixed (args := [.v _, .v _]) (ms := []) Try.func62 (by kernel_rfl) rfl ?_
  conv => whnf
  repeat' first
    | (refine br_t rfl ?_; conv => whnf)
    | (refine br_f rfl ?_; conv => whnf)
    | (refine IdxN.lit rfl rfl ?_; conv => whnf)
    | (intro _; conv => whnf)
  rename_i b2
  refine loopz (σ := Nat × Option Addr × Nat × List Val)
    (fun z => [(2, .own 2 0), (4, .v (.slice none 0 0)), (5, .v (.int .i64 0)), (6, .row 29), (11, .v (.slice (some ⟨ib, io, none⟩) xs.length ic)), (12, .v (.int .i64 xs.length)), (13, .v (.int .i64 z.1))])
    (fun z => [(2, .box b2 113 [.slice cb its.length cc, .slice rb rows.length rc]), (29, .row (.slice z.2.1 z.2.2.2.length z.2.2.1) 38 3 z.2.2.2.length)])
    (fun j z V' => V.le V' ∧ z.1 ≤ xs.length ∧ xs.length - z.1 = j ∧ z.2.2.2.length ≤ z.1 ∧ V'.cells (.slice z.2.1 z.2.2.2.length z.2.2.1) (z.2.2.2.flatMap vcells) ∧
      (oneX its rows xs).2 = (oneX its rows (xs.drop z.1)).2 ∧ ((oneX its rows xs).2 = 0 → (oneX its rows xs).1 = z.2.2.2 ++ (oneX its rows (xs.drop z.1)).1))
    xs.length (0, none, 0, []) ?_ ?_ ?_ ?_
  · repeat' (first | exact sees_nil | refine sees_cons rfl rfl rfl ?_)
  · repeat' (first | exact keeps_nil | refine keeps_cons rfl ?_ | refine keeps_free ?_)
  · exact ⟨View.le_refl _, Nat.zero_le _, by simp, Nat.le_refl _, rfl, rfl, fun _ => rfl⟩
  rintro j ⟨i, base, cp, acc⟩ V' ⟨hV, hi, hj, hlen, hcl, h1, h2⟩
  simp only at hi hj hlen hcl h1 h2
  conv => whnf
  apply br <;> intro h3 <;> conv => whnf
  · have hi1 : i < xs.length := by have := of_decide_eq_true h3; omega
    obtain ⟨x, hx1⟩ : ∃ x, xs[i]? = some x := ⟨_, List.getElem?_eq_getElem hi1⟩
    have hdrop : xs.drop i = x :: xs.drop (i + 1) := by
      rw [List.drop_eq_getElem_cons hi1]
      have e1 : xs[i] = x := by rw [List.getElem?_eq_getElem hi1] at hx1; exact Option.some.inj hx1
      rw [e1]
    rw [hdrop, oneX] at h1 h2
    have hxc := has_flat (n := 3) (fun _ => rfl) xs io hx i x hx1
    refine IdxN.of (by omega) (by omega) ?_
    conv => whnf
    refine LoadN.of (hxc.mono (by repeat (first | exact View.le_refl _ | assumption | exact View.addU_le _ _ _ | refine View.le_trans ?_ (by assumption) | refine View.le_trans ?_ (View.addU_le _ _ _)))) 0 rfl rfl ?_
    conv => whnf
    repeat' first
      | (refine br_t rfl ?_; conv => whnf)
      | (refine br_f rfl ?_; conv => whnf)
      | (refine IdxN.lit rfl rfl ?_; conv => whnf)
      | (intro _; conv => whnf)
    refine CallN.pure (agg_spec its cb cc rows rb rc x _ (hc.mono (by repeat (first | exact View.le_refl _ | assumption | exact View.addU_le _ _ _ | refine View.le_trans ?_ (by assumption) | refine View.le_trans ?_ (View.addU_le _ _ _)))) his (hr.mono (by repeat (first | exact View.le_refl _ | assumption | exact View.addU_le _ _ _ | refine View.le_trans ?_ (by assumption) | refine View.le_trans ?_ (View.addU_le _ _ _)))) hs hin hw) fun v V1 _ hV1 hv => ?_
    subst hv
    generalize aggX its rows x = A at *
    obtain ⟨av, ae⟩ := A
    simp only at h1 h2
    conv => whnf
    repeat' first
      | (refine br_t rfl ?_; conv => whnf)
      | (refine br_f rfl ?_; conv => whnf)
      | (refine IdxN.lit rfl rfl ?_; conv => whnf)
      | (intro _; conv => whnf)
    apply br <;> intro h4 <;> conv => whnf
    · have h4 : ae ≠ 0 := by simpa using h4
      rw [if_pos h4] at h1 h2
      simp only at h1 h2
      repeat' first
        | (refine br_t rfl ?_; conv => whnf)
        | (refine br_f rfl ?_; conv => whnf)
        | (refine IdxN.lit rfl rfl ?_; conv => whnf)
        | (intro _; conv => whnf)
      exact ret_pure ⟨_, by rw [h1]; rfl, fun h => absurd (h1 ▸ h) h4, fun _ => rfl⟩
    · have h4 : ae = 0 := by simpa using h4
      rw [if_neg (fun h => h h4)] at h1 h2
      simp only at h1 h2
      intro lb Vl hVl hln
      conv => whnf
      have hwi := wrap_nat (i := i) (by omega)
      refine AppN.to (acc.length + 1) rfl (acc.flatMap vcells) (vcells av) (hcl.mono (by repeat (first | exact View.le_refl _ | assumption | exact View.addU_le _ _ _ | refine View.le_trans ?_ (by assumption) | refine View.le_trans ?_ (View.addU_le _ _ _)))) (by rw [flat_len (f := vcells) (n := 3) (fun _ => rfl)]; rfl) hln rfl rfl (by omega) (by decide) fun base' cap' Vm hVm hcm => ?_
      conv => whnf
      have hcm : Vm.cells (.slice base' (acc ++ [av]).length cap') ((acc ++ [av]).flatMap vcells) := by
        rw [List.flatMap_append, List.length_append]
        simpa using hcm
      refine ⟨j - 1, (i + 1, base', cap', acc ++ [av]), by omega, ?_, ?_, View.le_trans hV (by repeat (first | exact View.le_refl _ | assumption | exact View.addU_le _ _ _ | refine View.le_trans ?_ (by assumption) | refine View.le_trans ?_ (View.addU_le _ _ _))), hi1, by show _ - (i + 1) = _; omega, by show (acc ++ [av]).length ≤ i + 1; simp only [List.length_append, List.length_cons, List.length_nil]; omega, hcm, h1, fun h => ?_⟩
      · repeat' (first | exact sees_nil | refine sees_cons rfl rfl (by simp only [List.length_append, List.length_cons, List.length_nil]; rfl) ?_ | refine sees_cons rfl rfl rfl ?_ | refine sees_cons rfl rfl (by rw [← hwi]; rfl) ?_)
      · repeat' (first | exact keeps_nil | refine keeps_cons rfl ?_ | refine keeps_cons (by simp only [List.length_append, List.length_cons, List.length_nil]; rfl) ?_ | refine keeps_free ?_)
      · rw [h2 h]; simp
  · have hi1 : ¬ i < xs.length := by have := of_decide_eq_false h3; omega
    rw [List.drop_eq_nil_of_le (by omega)] at h1 h2
    have h1 : (oneX its rows xs).2 = 0 := h1
    have h2 := h2 h1
    rw [oneX, List.append_nil] at h2
    intro lb Vl hVl hln
    conv => whnf
    repeat' first
      | (refine br_t rfl ?_; conv => whnf)
      | (refine br_f rfl ?_; conv => whnf)
      | (refine IdxN.lit rfl rfl ?_; conv => whnf)
      | (intro _; conv => whnf)
    refine ret_pure ⟨_, by rw [h1]; rfl, fun _ => ⟨some ⟨lb, 0, none⟩, 1, rfl, .inr ⟨lb, 0, rfl⟩, ?_⟩, fun h => absurd h1 h⟩
    rw [h2]
    exact ⟨⟨[_], CellsAt.snoc CellsAt.nil ⟨base, cp, rfl, .inr (plain_cells hcl), ValsAt.of_cells (hcl.mono (by repeat (first | exact View.le_refl _ | assumption | exact View.addU_le _ _ _ | refine View.le_trans ?_ (by assumption) | refine View.le_trans ?_ (View.addU_le _ _ _)))) (by omega)⟩, fun _ => ⟨lb, 0, rfl, hln⟩⟩, by show 1 ≤ _; decide⟩
end Go.Proofs.Ytenpginanhnkbaa
end

section
set_option linter.unusedSimpArgs false
set_option linter.unusedVariables false
namespace Go.Proofs.Ytenpginanhnkbaa
open Go.X
set_option maxRecDepth 100000

/-- what rel.rows hands back: columns, rows -/
def RowsR (its : List Item) (rows : List (List Val)) (v : Value) (V' : View) : Prop := ∃ cb cc rb' rc', v = .tuple #[.agg #[.slice cb its.length cc, .slice rb' rows.length rc'], .int .i64 0] ∧ V'.cells (.slice cb its.length cc) (its.flatMap icells) ∧ Plain rb' ∧ RowsAt V' rows rb'
theorem whereX_mem (hold : List Val → Bool × Int) : ∀ {l : List (List Val)} {r : List Val}, r ∈ (whereX hold l).1 → r ∈ l
  | [], r, h => by cases h
  | x :: l, r, h => by
    rw [whereX] at h
    split at h
    · cases h
    · simp only at h
      split at h
      · rcases List.mem_cons.1 h with rfl | h
        · exact List.mem_cons_self
        · exact List.mem_cons_of_mem _ (whereX_mem hold h)
      · exact List.mem_cons_of_mem _ (whereX_mem hold h)
def tabg (nm : ByteArray) (c i : Option Addr × Nat × Nat) : Value := .agg #[.string nm, .slice c.1 c.2.1 c.2.2, .slice i.1 i.2.1 i.2.2]
theorem selectA_spec (s : StV) (tnm unm : ByteArray) (tc ti uc ui : Option Addr × Nat × Nat) (lv rv : Value) (its : List Item) (rows : List (List Val)) (hold : List Val → Bool × Int) (x0 : Item) (xs : List Item) (ib io : Nat) (V : View)
    (hrows : ∀ V1, V.le V1 → PSpec 60 [stv s, tabg tnm tc ti, tabg unm uc ui, lv, rv] V1 (RowsR its rows))
    (hit : s.items.1 = some ⟨ib, io, none⟩) (hin : s.items.2.1 = (x0 :: xs).length) (hag : x0.agg ≠ 0) (hx : V.has ib io ((x0 :: xs).flatMap icells)) (hxl : (x0 :: xs).length ≤ 1000)
    (his : its.length ≤ 1000) (hs : rows.length ≤ 1000) (hir : ∀ r ∈ rows, ∀ v ∈ r, InR v.n) (hw : ∀ r ∈ rows, r.length ≤ 1000)
    (hh : ∀ cb cc, ∀ V1, V.le V1 → V1.cells (.slice cb its.length cc) (its.flatMap icells) → ∀ r ∈ rows, ∀ v V', V1.le V' → RowAt V' r v → PSpec 22 [.slice cb its.length cc, v, .slice s.wh.1 s.wh.2.1 s.wh.2.2] V' (fun v _ => v = .tuple #[.bool (hold r).1, .int .i64 (hold r).2])) :
    PSpec 32 [stv s, tabg tnm tc ti, tabg unm uc ui, lv, rv] V (fun v V' => ∃ x e, v = .tuple #[x, .int .i64 e] ∧ e = (if (whereX hold rows).2 = 0 then (oneX its (whereX hold rows).1 (x0 :: xs)).2 else (whereX hold rows).2) ∧ (e = 0 → RowsV V' [(oneX its (whereX hold rows).1 (x0 :: xs)).1] x) ∧ (e ≠ 0 → x = .slice none 0 0)) := by
  obtain ⟨skind, stb, snm, s3, s4, s5, sit, sjoin, son, swh, sord, sdesc, sinn⟩ := s
  obtain ⟨itb, itn, itc⟩ := sit
  simp only at hit hin hh
  subst hit; subst hin
  refine does_of_zfun [(12, [(0, []), (1, []), (2, []), (3, []), (4, []), (5, []), (6, []), (8, []), (9, []), (7, []), (10, []), (11, []), (12, [])])] mixed (args := [.v _, .v _, .v _, .v _, .v _]) (ms := []) Try.func32 (by kernel_rfl) rfl ?_
  conv => whnf
  repeat' first
    | (refine br_t rfl ?_; conv => whnf)
    | (refine br_f rfl ?_; conv => whnf)
    | (refine IdxN.lit rfl rfl ?_; conv => whnf)
    | (intro _; conv => whnf)
  refine CallN.pure (hrows _ (by repeat (first | exact View.le_refl _ | assumption | exact View.addU_le _ _ _ | refine View.le_trans ?_ (by assumption) | refine View.le_trans ?_ (View.addU_le _ _ _)))) fun v V1 _ hV1 ⟨cb, cc, rb', rc', hv, hc, hpl, hr'⟩ => ?_
  subst hv
  conv => whnf
  repeat' first
    | (refine br_t rfl ?_; conv => whnf)
    | (refine br_f rfl ?_; conv => whnf)
    | (refine IdxN.lit rfl rfl ?_; conv => whnf)
    | (intro _; conv => whnf)
  refine CallN.pure (where_spec its cb cc rows rb' rc' (.slice swh.1 swh.2.1 swh.2.2) hold _ (hc.mono (by repeat (first | exact View.le_refl _ | assumption | exact View.addU_le _ _ _ | refine View.le_trans ?_ (by assumption) | refine View.le_trans ?_ (View.addU_le _ _ _)))) (hr'.mono (by repeat (first | exact View.le_refl _ | assumption | exact View.addU_le _ _ _ | refine View.le_trans ?_ (by assumption) | refine View.le_trans ?_ (View.addU_le _ _ _)))) hs (fun r hrm v V' hV' hra => hh cb cc V1 (by repeat (first | exact View.le_refl _ | assumption | exact View.addU_le _ _ _ | refine View.le_trans ?_ (by assumption) | refine View.le_trans ?_ (View.addU_le _ _ _))) hc r hrm v V' (by repeat (first | exact View.le_refl _ | assumption | exact View.addU_le _ _ _ | refine View.le_trans ?_ (by assumption) | refine View.le_trans ?_ (View.addU_le _ _ _))) hra)) fun v V2 _ hV2 ⟨tv, hv, ⟨a1, n1, c1, a2, n2, c2, ht2⟩, hok⟩ => ?_
  subst hv
  subst ht2
  conv => whnf
  have hsub : ∀ r ∈ (whereX hold rows).1, r ∈ rows := fun r h => whereX_mem hold h
  have hwl := whereX_len hold rows
  generalize hW : whereX hold rows = W at *
  apply br <;> intro h3 <;> conv => whnf
  · have h3 : W.2 ≠ 0 := by simpa using h3
    exact ret_pure ⟨_, _, rfl, by rw [if_neg h3], fun h => absurd h h3, fun _ => rfl⟩
  · have h3 : W.2 = 0 := by simpa using h3
    obtain ⟨rb2, rc2, he, hp2, hr2⟩ := hok h3
    simp only [Value.agg.injEq, Array.mk.injEq, List.cons.injEq, Value.slice.injEq, and_true] at he
    obtain ⟨⟨rfl, rfl, rfl⟩, rfl, rfl, rfl⟩ := he
    repeat' first
      | (refine br_t rfl ?_; conv => whnf)
      | (refine br_f rfl ?_; conv => whnf)
      | (refine IdxN.lit rfl rfl ?_; conv => whnf)
      | (intro _; conv => whnf)
    have hx0 := has_flat (n := 3) (fun _ => rfl) (x0 :: xs) io hx 0 x0 rfl
    have hpos : decide ((((x0 :: xs).length : Nat) : Int) > 0) = true := decide_eq_true (by simp only [List.length_cons]; omega)
    refine br_t hpos ?_
    conv => whnf
    refine IdxN.of (by omega) (by simp only [List.length_cons]; omega) ?_
    conv => whnf
    refine LoadN.of (hx0.mono (by repeat (first | exact View.le_refl _ | assumption | exact View.addU_le _ _ _ | refine View.le_trans ?_ (by assumption) | refine View.le_trans ?_ (View.addU_le _ _ _)))) 0 rfl rfl ?_
    conv => whnf
    repeat (first | (refine br_t hpos ?_; conv => whnf) | (refine br_t (by simpa using hag) ?_; conv => whnf))
    repeat' first
      | (refine br_t rfl ?_; conv => whnf)
      | (refine br_f rfl ?_; conv => whnf)
      | (refine IdxN.lit rfl rfl ?_; conv => whnf)
      | (intro _; conv => whnf)
    refine CallN.pure (oneR_spec its a1 c1 W.1 a2 c2 (x0 :: xs) ib io itc _ (hc.mono (by repeat (first | exact View.le_refl _ | assumption | exact View.addU_le _ _ _ | refine View.le_trans ?_ (by assumption) | refine View.le_trans ?_ (View.addU_le _ _ _)))) his (hr2.mono (by repeat (first | exact View.le_refl _ | assumption | exact View.addU_le _ _ _ | refine View.le_trans ?_ (by assumption) | refine View.le_trans ?_ (View.addU_le _ _ _)))) (by omega) (fun r h => hir r (hsub r h)) (fun r h => hw r (hsub r h)) (hx.mono (by repeat (first | exact View.le_refl _ | assumption | exact View.addU_le _ _ _ | refine View.le_trans ?_ (by assumption) | refine View.le_trans ?_ (View.addU_le _ _ _)))) hxl) fun v V3 _ hV3 ⟨x, hv, h1, h2⟩ => ?_
    subst hv
    conv => whnf
    repeat' first
      | (refine br_t rfl ?_; conv => whnf)
      | (refine br_f rfl ?_; conv => whnf)
      | (refine IdxN.lit rfl rfl ?_; conv => whnf)
      | (intro _; conv => whnf)
    exact ret_pure ⟨x, _, rfl, by rw [if_pos h3], h1, h2⟩
end Go.Proofs.Ytenpginanhnkbaa
end
