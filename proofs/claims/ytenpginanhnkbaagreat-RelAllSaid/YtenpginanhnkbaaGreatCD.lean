/- One part of a proof: an evaluator of the model, shown right, and contracts that it yields. No condition beyond those that each theorem names. -/
import Derived.Test.YtenpginanhnkbaaGreatCC
import Derived.Shelf.Spec.SlicesGrow
import Derived.Ground.Names8Prog
section
set_option linter.unusedSimpArgs false
set_option linter.unusedVariables false
namespace Go.Proofs.YtenpginanhnkbaaGreat
open Go.X
set_option maxRecDepth 100000
/-- a column's values, of rows that have it -/
def valsOf (c : Int) : List (List Val) → List Val
 | [] => []
 | r :: l => (if 0 ≤ c then (match r[c.toNat]? with | some v => [v] | none => []) else []) ++ valsOf c l
theorem valsOf_append (c : Int) : ∀ a b, valsOf c (a ++ b) = valsOf c a ++ valsOf c b
 | [], b => rfl
 | r :: a, b => by simp only [List.cons_append, valsOf, valsOf_append c a b, List.append_assoc]
theorem valsOf_len (c : Int) : ∀ a, (valsOf c a).length ≤ a.length
 | [] => Nat.le_refl _
 | r :: a => by
  have := valsOf_len c a
  simp only [valsOf, List.length_append, List.length_cons]
  split
  ·split <;> simp only [List.length_cons, List.length_nil] <;> omega
  ·simp only [List.length_nil]; omega
theorem valsOf_mem {c : Int} : ∀ {a : List (List Val)} {v : Val}, v ∈ valsOf c a → ∃ r ∈ a, v ∈ r
 | [], v, h => by cases h
 | r :: a, v, h => by
  simp only [valsOf, List.mem_append] at h
  rcases h with h | h
  ·split at h
   ·split at h
    ·rename_i u hu
     rw [List.mem_singleton.1 h]
     exact ⟨r, by simp, List.mem_of_getElem? hu⟩
    ·cases h
   ·cases h
  ·obtain ⟨r2, h1, h2⟩ := valsOf_mem h
   exact ⟨r2, by simp [h1], h2⟩
/-- a sum, that may run over -/
def sumX (a : Int) : List Val → Val × Int
 | [] => (⟨1, a, noText⟩, 0)
 | v :: l => if (fits (a + v.n)).2 ≠ 0 then (v0, (fits (a + v.n)).2) else sumX (fits (a + v.n)).1 l
def aggX (its : List Item) (rows : List (List Val)) (x : Item) : Val × Int :=
 if x.agg = 1 then (⟨1, rows.length, noText⟩, 0) else
 if x.agg = 3 then bestX (-1) (valsOf (placeOf (hitI x.tb x.nm) its 0) rows) else
 if x.agg = 4 then bestX 1 (valsOf (placeOf (hitI x.tb x.nm) its 0) rows) else
 sumX 0 (valsOf (placeOf (hitI x.tb x.nm) its 0) rows)
set_option maxHeartbeats 4000000 in
theorem agg_spec (its : List Item) (cb : Option Addr) (cc : Nat) (rows : List (List Val)) (rb : Option Addr) (rc : Nat) (x : Item) (V : View) (hc : V.cells (.slice cb its.length cc) (its.flatMap icells)) (his : its.length ≤ 1000)
  (hr : RowsAt V rows rb) (hs : rows.length ≤ 1000) (hin : ∀ r ∈ rows, ∀ v ∈ r, InR v.n) (hw : ∀ r ∈ rows, r.length ≤ 1000) :
  PSpec 52 [.agg #[.slice cb its.length cc, .slice rb rows.length rc], iagg x] V (fun v _ => v = pairX (aggX its rows x)) := by
 obtain ⟨xa, xtb, xnm⟩ := x
 refine does_of_zfun [] mixed (args := [.v _, .v _]) (ms := []) Tryz.func52 (by kernel_rfl) rfl ?_; conv => whnf
 repeat' ((first | refine br_t rfl ?_ | refine br_f rfl ?_ | refine IdxN.lit rfl rfl ?_ | intro _); conv => whnf)
 rename_i b2 b3 b4
 apply br <;> intro h1 <;> conv => whnf
 ·have h1 : xa = 1 := by simpa using h1
  repeat' ((first | refine br_t rfl ?_ | refine br_f rfl ?_ | refine IdxN.lit rfl rfl ?_ | intro _); conv => whnf)
  exact ret_pure (by unfold aggX; rw [if_pos h1]; rfl)
 have h1 : ¬ xa = 1 := by simpa using h1
 unfold aggX
 simp only [if_neg h1]
 refine CallN.pure (place_spec its cb rb cc rows.length rc xtb xnm _ (hc.mono le_auto) his) fun v V1 _ hV1 hv => ?_
 subst hv
 generalize placeOf (hitI xtb xnm) its 0 = c
 conv => whnf
 refine loopz (σ := Nat × Option Addr × Nat × List Val)
  (fun z => [(2, .own 2 0), (3, .own 3 0), (4, .own 4 0), (5, .v (.int .i64 0)), (6, .v (.int .i64 c)), (7, .row 49), (29, .v (.slice rb rows.length rc)), (30, .v (.int .i64 rows.length)), (31, .v (.int .i64 z.1))])
  (fun z => [(2, .box b2 63 [.slice cb its.length cc, .slice rb rows.length rc]), (3, .box b3 68 [.int .i64 xa, .string xtb, .string xnm]), (4, .box b4 44 [.int .i64 0, .int .i64 0, .string noText]), (49, .row (.slice z.2.1 z.2.2.2.length z.2.2.1) 44 3 z.2.2.2.length)])
  (fun j z V' => V1.le V' ∧ z.1 ≤ rows.length ∧ rows.length - z.1 = j ∧ z.2.2.2 = valsOf c (rows.take z.1) ∧ V'.cells (.slice z.2.1 z.2.2.2.length z.2.2.1) (z.2.2.2.flatMap vcells))
  rows.length (0, none, 0, []) ?_ ?_ ?_ ?_
 ·repeat' (first | exact sees_nil | refine sees_cons rfl rfl rfl ?_)
 ·repeat' (first | exact keeps_nil | refine keeps_cons rfl ?_ | refine keeps_free ?_)
 ·exact ⟨View.le_refl _, Nat.zero_le _, by simp, rfl, rfl⟩
 rintro j ⟨i, base, cp, acc⟩ V' ⟨hV, hi, hj, hacc, hcl⟩
 simp only at hi hj hacc hcl
 have hlen : acc.length ≤ i := by
  rw [hacc]
  exact Nat.le_trans (valsOf_len _ _) (by rw [List.length_take]; omega)
 conv => whnf
 apply br <;> intro h3 <;> conv => whnf
 ·have hi0 : (i : Int) < rows.length := of_decide_eq_true h3
  have hi1 : i < rows.length := by omega
  obtain ⟨r, hr1⟩ : ∃ r, rows[i]? = some r := ⟨_, List.getElem?_eq_getElem hi1⟩
  have htake : rows.take (i + 1) = rows.take i ++ [r] := by rw [List.take_add_one, hr1]; rfl
  obtain ⟨p, off, cv, rfl, hcell, hrow⟩ := hr.at hr1
  obtain ⟨rbase, rcap, hrv, hrp, hrva⟩ := hrow
  subst hrv
  have hwi := wrap_nat (i := i) (by omega)
  have hrl := hw r (List.mem_of_getElem? hr1)
  refine IdxN.of (by omega) (by omega) ?_; conv => whnf
  refine LoadN.of (hcell.mono le_auto) 0 (by show off + i * 1 = off + i + 0; omega) rfl ?_; conv => whnf
  apply br <;> intro h4 <;> conv => whnf
  ·have h4 : 0 ≤ c := of_decide_eq_true h4
   obtain ⟨k, rfl⟩ := Int.eq_ofNat_of_zero_le h4
   apply br <;> intro h5 <;> conv => whnf
   ·have h5 : k < r.length := by have := of_decide_eq_true h5; omega
    obtain ⟨u, hu⟩ : ∃ u, r[k]? = some u := ⟨_, List.getElem?_eq_getElem h5⟩
    obtain ⟨q, off2, hb2, hval⟩ := hrva.at hu
    subst hb2
    refine IdxN.of (by omega) (by omega) ?_; conv => whnf
    refine LoadN.of (hval.mono le_auto) 0 rfl rfl ?_; conv => whnf
    intro lb Vl hVl hln
    conv => whnf
    refine AppN.to (acc.length + 1) rfl (acc.flatMap vcells) (vcells u) (hcl.mono le_auto) (by rw [flat_len (f := vcells) (n := 3) (fun _ => rfl)]; rfl) hln rfl rfl (by omega) (by decide) fun base' cap' Vm hVm hcm => ?_; conv => whnf
    have hcm : Vm.cells (.slice base' (acc ++ [u]).length cap') ((acc ++ [u]).flatMap vcells) := by
     rw [List.flatMap_append, List.length_append]
     simpa using hcm
    refine ⟨j - 1, (i + 1, base', cap', acc ++ [u]), by omega, ?_, ?_, View.le_trans hV le_auto, hi1, by show _ - (i + 1) = _; omega, ?_, hcm⟩
    ·repeat' (first | exact sees_nil | refine sees_cons rfl rfl (by simp only [List.length_append, List.length_cons, List.length_nil]; rfl) ?_ | refine sees_cons rfl rfl rfl ?_ | refine sees_cons rfl rfl (by rw [← hwi]; rfl) ?_)
    ·repeat' (first | exact keeps_nil | refine keeps_cons rfl ?_ | refine keeps_cons (by simp only [List.length_append, List.length_cons, List.length_nil]; rfl) ?_ | refine keeps_free ?_)
    ·show acc ++ [u] = valsOf _ (rows.take (i + 1))
     rw [htake, valsOf_append, ← hacc]
     simp [valsOf, hu]
   ·have h5 : ¬ k < r.length := by have := of_decide_eq_false h5; omega
    refine ⟨j - 1, (i + 1, base, cp, acc), by omega, ?_, ?_, View.le_trans hV le_auto, hi1, by show _ - (i + 1) = _; omega, ?_, hcl.mono le_auto⟩
    ·repeat' (first | exact sees_nil | refine sees_cons rfl rfl rfl ?_ | refine sees_cons rfl rfl (by rw [← hwi]; rfl) ?_)
    ·repeat' (first | exact keeps_nil | refine keeps_cons rfl ?_ | refine keeps_free ?_)
    rw [htake, valsOf_append, ← hacc]
    simp [valsOf, List.getElem?_eq_none (show r.length ≤ k by omega)]
  ·have h4 : ¬ 0 ≤ c := of_decide_eq_false h4
   refine ⟨j - 1, (i + 1, base, cp, acc), by omega, ?_, ?_, View.le_trans hV le_auto, hi1, by show _ - (i + 1) = _; omega, ?_, hcl.mono le_auto⟩
   ·repeat' (first | exact sees_nil | refine sees_cons rfl rfl rfl ?_ | refine sees_cons rfl rfl (by rw [← hwi]; rfl) ?_)
   ·repeat' (first | exact keeps_nil | refine keeps_cons rfl ?_ | refine keeps_free ?_)
   rw [htake, valsOf_append, ← hacc]
   simp [valsOf, h4]
 ·have hi0 : ¬ (i : Int) < rows.length := of_decide_eq_false h3
  rw [List.take_of_length_le (by omega)] at hacc
  subst hacc
  have hva : ValsAt V' (valsOf c rows) base := ValsAt.of_cells hcl (by omega)
  repeat' ((first | refine br_t rfl ?_ | refine br_f rfl ?_ | refine IdxN.lit rfl rfl ?_ | intro _); conv => whnf)
  apply br <;> intro g3 <;> conv => whnf
  ·have g3 : xa = 3 := by simpa using g3
   rw [if_pos g3]
   refine CallN.pure (best_spec (valsOf c rows) (-1) (.inr rfl) base cp _ (hva.mono le_auto) (by omega)) fun v V2 _ hV2 hv => ?_
   subst hv; conv => whnf
   repeat' ((first | refine br_t rfl ?_ | refine br_f rfl ?_ | refine IdxN.lit rfl rfl ?_ | intro _); conv => whnf)
   exact ret_pure rfl
  have g3 : ¬ xa = 3 := by simpa using g3
  rw [if_neg g3]
  apply br <;> intro g4 <;> conv => whnf
  ·have g4 : xa = 4 := by simpa using g4
   rw [if_pos g4]
   refine CallN.pure (best_spec (valsOf c rows) 1 (.inl rfl) base cp _ (hva.mono le_auto) (by omega)) fun v V2 _ hV2 hv => ?_
   subst hv; conv => whnf
   repeat' ((first | refine br_t rfl ?_ | refine br_f rfl ?_ | refine IdxN.lit rfl rfl ?_ | intro _); conv => whnf)
   exact ret_pure rfl
  have g4 : ¬ xa = 4 := by simpa using g4
  rw [if_neg g4]
  repeat' ((first | refine br_t rfl ?_ | refine br_f rfl ?_ | refine IdxN.lit rfl rfl ?_ | intro _); conv => whnf)
  rename_i b10
  have hin2 : ∀ v ∈ valsOf c rows, InR v.n := fun v hv => by
   obtain ⟨r, h1, h2⟩ := valsOf_mem hv
   exact hin r h1 v h2
  have hl2 := valsOf_len c rows
  generalize valsOf c rows = l at *
  refine loopz (σ := Nat × Int) (fun z => [(4, .own 4 0), (10, .own 10 0), (66, .v (.slice base l.length cp)), (67, .v (.int .i64 l.length)), (68, .v (.int .i64 z.1))])
   (fun z => [(4, .box b4 44 [.int .i64 0, .int .i64 0, .string noText]), (10, .box b10 44 [.int .i64 1, .int .i64 z.2, .string noText])])
   (fun j z V2 => V'.le V2 ∧ z.1 ≤ l.length ∧ l.length - z.1 = j ∧ InR z.2 ∧ sumX z.2 (l.drop z.1) = sumX 0 l)
   l.length (0, 0) ?_ ?_ ?_ ?_
  ·repeat' (first | exact sees_nil | refine sees_cons rfl rfl rfl ?_)
  ·repeat' (first | exact keeps_nil | refine keeps_cons rfl ?_ | refine keeps_free ?_)
  ·exact ⟨View.le_refl _, Nat.zero_le _, by simp, ⟨by decide, by decide⟩, rfl⟩
  rintro j2 ⟨k, a⟩ V2 ⟨hV2, hk, hj2, ha, hsum⟩
  simp only at hk hj2 ha hsum
  conv => whnf
  apply br <;> intro h5 <;> conv => whnf
  ·have hk1 : k < l.length := by have := of_decide_eq_true h5; omega
   obtain ⟨u, hu⟩ : ∃ u, l[k]? = some u := ⟨_, List.getElem?_eq_getElem hk1⟩
   have hdrop : l.drop k = u :: l.drop (k + 1) := by
    rw [List.drop_eq_getElem_cons hk1]
    have e1 : l[k] = u := by rw [List.getElem?_eq_getElem hk1] at hu; exact Option.some.inj hu
    rw [e1]
   rw [hdrop, sumX] at hsum
   obtain ⟨p2, off2, hb2, hval⟩ := hva.at hu
   subst hb2
   refine IdxN.of (by omega) (by omega) ?_; conv => whnf
   refine LoadN.of (hval.mono le_auto) 0 rfl rfl ?_; conv => whnf
   repeat' ((first | refine br_t rfl ?_ | refine br_f rfl ?_ | refine IdxN.lit rfl rfl ?_ | intro _); conv => whnf)
   refine CallN.pure (add_spec a u.n ha (hin2 u (List.mem_of_getElem? hu)) _) fun v V3 _ hV3 hv => ?_
   subst hv
   have hf := fits_inR (a + u.n)
   generalize fits (a + u.n) = F at *
   obtain ⟨f1, f2⟩ := F
   simp only at hsum hf
   conv => whnf
   apply br <;> intro h6 <;> conv => whnf
   ·have h6 : f2 ≠ 0 := by simpa using h6
    rw [if_pos h6] at hsum
    rw [← hsum]
    repeat' ((first | refine br_t rfl ?_ | refine br_f rfl ?_ | refine IdxN.lit rfl rfl ?_ | intro _); conv => whnf)
    exact ret_pure rfl
   ·have h6 : f2 = 0 := by simpa using h6
    rw [if_neg (fun h => h h6)] at hsum
    have hw := wrap_nat (i := k) (by omega)
    repeat' ((first | refine br_t rfl ?_ | refine br_f rfl ?_ | refine IdxN.lit rfl rfl ?_ | intro _); conv => whnf)
    refine ⟨j2 - 1, (k + 1, f1), by omega, ?_, ?_, View.le_trans hV2 hV3, hk1, by show _ - (k + 1) = _; omega, hf, hsum⟩
    ·repeat' (first | exact sees_nil | refine sees_cons rfl rfl rfl ?_ | refine sees_cons rfl rfl (by rw [← hw]; rfl) ?_)
    ·repeat' (first | exact keeps_nil | refine keeps_cons rfl ?_ | refine keeps_free ?_)
  ·have hk1 : ¬ k < l.length := by have := of_decide_eq_false h5; omega
   rw [List.drop_eq_nil_of_le (by omega)] at hsum
   rw [← hsum]
   repeat' ((first | refine br_t rfl ?_ | refine br_f rfl ?_ | refine IdxN.lit rfl rfl ?_ | intro _); conv => whnf)
   exact ret_pure rfl
/-- the row of items that are folded, up to the first error -/
def oneX (its : List Item) (rows : List (List Val)) : List Item → List Val × Int
 | [] => ([], 0)
 | x :: l => if (aggX its rows x).2 ≠ 0 then ([], (aggX its rows x).2) else ((aggX its rows x).1 :: (oneX its rows l).1, (oneX its rows l).2)
set_option maxHeartbeats 4000000 in
theorem one_new (its : List Item) (cb : Option Addr) (cc : Nat) (rows : List (List Val)) (rb : Option Addr) (rc : Nat) (xs : List Item) (ib io ic : Nat) (V : View) (hc : V.cells (.slice cb its.length cc) (its.flatMap icells)) (his : its.length ≤ 1000)
  (hr : RowsAt V rows rb) (hs : rows.length ≤ 1000) (hin : ∀ r ∈ rows, ∀ v ∈ r, InR v.n) (hw : ∀ r ∈ rows, r.length ≤ 1000) (hx : V.has ib io (xs.flatMap icells)) (hxl : xs.length ≤ 1000) :
  PSpec 21 [.agg #[.slice cb its.length cc, .slice rb rows.length rc], .slice (some ⟨ib, io, none⟩) xs.length ic] V
   (fun v V' => ∃ x, v = .tuple #[x, .int .i64 (oneX its rows xs).2] ∧ ((oneX its rows xs).2 = 0 → NewV V [(oneX its rows xs).1] x V') ∧ ((oneX its rows xs).2 ≠ 0 → x = .slice none 0 0)) := by
 refine does_of_zfun [] mixed (args := [.v _, .v _]) (ms := []) Tryz.func21 (by kernel_rfl) rfl ?_; conv => whnf
 repeat' ((first | refine br_t rfl ?_ | refine br_f rfl ?_ | refine IdxN.lit rfl rfl ?_ | intro _); conv => whnf)
 rename_i b2
 refine loopz (σ := Nat × Option Addr × Nat × List Val)
  (fun z => [(2, .own 2 0), (4, .v (.slice none 0 0)), (5, .v (.int .i64 0)), (6, .row 29), (11, .v (.slice (some ⟨ib, io, none⟩) xs.length ic)), (12, .v (.int .i64 xs.length)), (13, .v (.int .i64 z.1))])
  (fun z => [(2, .box b2 63 [.slice cb its.length cc, .slice rb rows.length rc]), (29, .row (.slice z.2.1 z.2.2.2.length z.2.2.1) 44 3 z.2.2.2.length)])
  (fun j z V' => V.le V' ∧ z.1 ≤ xs.length ∧ xs.length - z.1 = j ∧ z.2.2.2.length ≤ z.1 ∧ V'.cells (.slice z.2.1 z.2.2.2.length z.2.2.1) (z.2.2.2.flatMap vcells) ∧ (∀ p o, z.2.1 = some ⟨p, o, none⟩ → (∀ k, V p k = none) ∧ o = 0) ∧
   (oneX its rows xs).2 = (oneX its rows (xs.drop z.1)).2 ∧ ((oneX its rows xs).2 = 0 → (oneX its rows xs).1 = z.2.2.2 ++ (oneX its rows (xs.drop z.1)).1))
  xs.length (0, none, 0, []) ?_ ?_ ?_ ?_
 ·repeat' (first | exact sees_nil | refine sees_cons rfl rfl rfl ?_)
 ·repeat' (first | exact keeps_nil | refine keeps_cons rfl ?_ | refine keeps_free ?_)
 ·exact ⟨View.le_refl _, Nat.zero_le _, by simp, Nat.le_refl _, rfl, (fun p o h => by cases h), rfl, fun _ => rfl⟩
 rintro j ⟨i, base, cp, acc⟩ V' ⟨hV, hi, hj, hlen, hcl, hnb, h1, h2⟩
 simp only at hi hj hlen hcl hnb h1 h2
 conv => whnf
 apply br <;> intro h3 <;> conv => whnf
 ·have hi1 : i < xs.length := by have := of_decide_eq_true h3; omega
  obtain ⟨x, hx1⟩ : ∃ x, xs[i]? = some x := ⟨_, List.getElem?_eq_getElem hi1⟩
  have hdrop : xs.drop i = x :: xs.drop (i + 1) := by
   rw [List.drop_eq_getElem_cons hi1]
   have e1 : xs[i] = x := by rw [List.getElem?_eq_getElem hi1] at hx1; exact Option.some.inj hx1
   rw [e1]
  rw [hdrop, oneX] at h1 h2
  have hxc := has_flat (n := 3) (fun _ => rfl) xs io hx i x hx1
  refine IdxN.of (by omega) (by omega) ?_; conv => whnf
  refine LoadN.of (hxc.mono le_auto) 0 rfl rfl ?_; conv => whnf
  repeat' ((first | refine br_t rfl ?_ | refine br_f rfl ?_ | refine IdxN.lit rfl rfl ?_ | intro _); conv => whnf)
  refine CallN.pure (agg_spec its cb cc rows rb rc x _ (hc.mono le_auto) his (hr.mono le_auto) hs hin hw) fun v V1 _ hV1 hv => ?_
  subst hv
  generalize aggX its rows x = A at *
  obtain ⟨av, ae⟩ := A
  simp only at h1 h2
  conv => whnf
  repeat' ((first | refine br_t rfl ?_ | refine br_f rfl ?_ | refine IdxN.lit rfl rfl ?_ | intro _); conv => whnf)
  apply br <;> intro h4 <;> conv => whnf
  ·have h4 : ae ≠ 0 := by simpa using h4
   rw [if_pos h4] at h1 h2
   simp only at h1 h2
   repeat' ((first | refine br_t rfl ?_ | refine br_f rfl ?_ | refine IdxN.lit rfl rfl ?_ | intro _); conv => whnf)
   exact ret_pure ⟨_, by rw [h1]; rfl, fun h => absurd (h1 ▸ h) h4, fun _ => rfl⟩
  ·have h4 : ae = 0 := by simpa using h4
   rw [if_neg (fun h => h h4)] at h1 h2
   simp only at h1 h2
   intro lb Vl hVl hln
   conv => whnf
   have hwi := wrap_nat (i := i) (by omega)
   refine AppN.toN (acc.length + 1) rfl (acc.flatMap vcells) (vcells av) (hcl.mono le_auto) (by rw [flat_len (f := vcells) (n := 3) (fun _ => rfl)]; rfl) (.inr hln) rfl rfl (by omega) (by decide) fun base' cap' Vm hVm hcm _ hnw => ?_; conv => whnf
   have hcm : Vm.cells (.slice base' (acc ++ [av]).length cap') ((acc ++ [av]).flatMap vcells) := by
    rw [List.flatMap_append, List.length_append]
    simpa using hcm
   refine ⟨j - 1, (i + 1, base', cap', acc ++ [av]), by omega, ?_, ?_, View.le_trans hV le_auto, hi1, by show _ - (i + 1) = _; omega, by show (acc ++ [av]).length ≤ i + 1; simp only [List.length_append, List.length_cons, List.length_nil]; omega, hcm, ?_, h1, fun h => ?_⟩
   ·repeat' (first | exact sees_nil | refine sees_cons rfl rfl (by simp only [List.length_append, List.length_cons, List.length_nil]; rfl) ?_ | refine sees_cons rfl rfl rfl ?_ | refine sees_cons rfl rfl (by rw [← hwi]; rfl) ?_)
   ·repeat' (first | exact keeps_nil | refine keeps_cons rfl ?_ | refine keeps_cons (by simp only [List.length_append, List.length_cons, List.length_nil]; rfl) ?_ | refine keeps_free ?_)
   ·exact fun p o hb => ⟨((hnw (by omega) p o hb).1.elim (fun h => nb_of hcl (fun p o hb => (hnb p o hb).1) h) fun h => View.none_of le_auto h), (hnw (by omega) p o hb).2⟩
   ·rw [h2 h]; simp
 ·have hi1 : ¬ i < xs.length := by have := of_decide_eq_false h3; omega
  rw [List.drop_eq_nil_of_le (by omega)] at h1 h2
  have h1 : (oneX its rows xs).2 = 0 := h1
  have h2 := h2 h1
  rw [oneX, List.append_nil] at h2
  intro lb Vl hVl hln
  conv => whnf
  repeat' ((first | refine br_t rfl ?_ | refine br_f rfl ?_ | refine IdxN.lit rfl rfl ?_ | intro _); conv => whnf)
  refine ret_pure ⟨_, by rw [h1]; rfl, fun _ => ?_, fun h => absurd h1 h⟩
  rw [h2]
  have hrow : RowAt (V.new Vl) acc (.slice base acc.length cp) := RowAt.new (View.le_refl _) (hcl.mono le_auto) (by omega) fun _ p o hb => (hnb p o hb).1
  refine NewV.of2 (rows := [acc]) (cells := [.slice base acc.length cp]) le_auto hln (CellsAt.snoc CellsAt.nil hrow) fun p o hp => CellsAt.snoc CellsAt.nil ?_
  simp only [Option.some.injEq, Addr.mk.injEq] at hp
  obtain ⟨rfl, _⟩ := hp
  obtain ⟨base', cap', he, hpl, hva⟩ := hrow
  simp only [Value.slice.injEq, true_and] at he
  obtain ⟨rfl, rfl⟩ := he
  refine ⟨base, cp, rfl, hpl, ⟨fun hn => ?_, hva.len⟩⟩
  obtain ⟨p, off, hb, hh⟩ := hva.has hn
  refine ⟨p, off, hb, fun i v hi => View.cut_of (hh i v hi) fun e => ?_⟩
  subst e
  have h0 := (hnb p off hb).2
  subst h0
  obtain ⟨x, l, hx⟩ := List.exists_cons_of_ne_nil hn
  have e1 := (View.new_some (hh 0 (.int .i64 x.k) (by rw [hx]; rfl))).2
  have e2 := hln 0 _ rfl
  rw [e1] at e2
  cases e2
theorem NewV.rowsV {V V' : View} {rows : List (List Val)} {v : Value} (h : NewV V rows v V') (hl : rows.length ≤ 9223372036854775807) : RowsV V' rows v := by
 obtain ⟨base, cap, cells, W, hv, h1, h2, h3, h4⟩ := h
 exact ⟨base, cap, hv, plain_cells h3, RowsAt.of_cells (h4.mono View.new_le) (h3.mono h2) hl⟩
def oneP (its : List Item) (r : List Val) (x : Item) : List Val := if 0 ≤ placeOf (hitI x.tb x.nm) its 0 then (match r[(placeOf (hitI x.tb x.nm) its 0).toNat]? with | some v => [v] | none => []) else []
def pickX (its : List Item) (r : List Val) (l : List Item) : List Val := l.flatMap (oneP its r)
theorem blk_base {V : View} {base : Option Addr} {n c p : Nat} {l : List Value} (hc : V.cells (.slice base n c) l) (h : rowBlk (.slice base n c) = some p) : ∃ o, base = some ⟨p, o, none⟩ := by
 rcases plain_cells hc with rfl | ⟨p', o', rfl⟩
 ·simp [rowBlk] at h
 ·simp only [rowBlk] at h
  split at h
  ·cases h
  ·simp only [Option.some.injEq] at h; subst h; exact ⟨o', rfl⟩
set_option maxHeartbeats 4000000 in
theorem of_new (its : List Item) (cb : Option Addr) (cc : Nat) (rows : List (List Val)) (rb : Option Addr) (rc : Nat) (xs : List Item) (ib io ic : Nat) (V : View) (hc : V.cells (.slice cb its.length cc) (its.flatMap icells)) (his : its.length ≤ 1000)
  (hr : RowsAt V rows rb) (hs : rows.length ≤ 1000) (hw : ∀ r ∈ rows, r.length ≤ 1000) (hx : V.has ib io (xs.flatMap icells)) (hxl : xs.length ≤ 1000) (hx0 : xs ≠ []) :
  PSpec 23 [.agg #[.slice cb its.length cc, .slice rb rows.length rc], .slice (some ⟨ib, io, none⟩) xs.length ic] V (fun v V' => NewV V (rows.map fun r => pickX its r xs) v V') := by
 have hpos : 0 < xs.length := List.length_pos_iff.2 hx0
 refine does_of_zfun [] mixed (args := [.v _, .v _]) (ms := []) Tryz.func23 (by kernel_rfl) rfl ?_; conv => whnf
 repeat' ((first | refine br_t rfl ?_ | refine br_f rfl ?_ | refine IdxN.lit rfl rfl ?_ | intro _); conv => whnf)
 rename_i b2
 refine br_f (by rw [beq_eq_false_iff_ne]; omega) ?_; conv => whnf
 repeat' ((first | refine br_t rfl ?_ | refine br_f rfl ?_ | refine IdxN.lit rfl rfl ?_ | intro _); conv => whnf)
 refine loopz (σ := Nat × Option Addr × Nat × List (List Val) × List Value)
  (fun x => [(1, .v (.slice (some ⟨ib, io, none⟩) xs.length ic)), (2, .own 2 0), (5, .row 55), (18, .v (.slice rb rows.length rc)), (19, .v (.int .i64 rows.length)), (20, .v (.int .i64 x.1))])
  (fun x => [(2, .box b2 63 [.slice cb its.length cc, .slice rb rows.length rc]), (55, .row (.slice x.2.1 x.2.2.2.1.length x.2.2.1) 42 1 x.2.2.2.1.length)])
  (fun j x V' => V.le V' ∧ x.1 ≤ rows.length ∧ rows.length - x.1 = j ∧ x.2.2.2.1 = (rows.take x.1).map (fun r => pickX its r xs) ∧ (x.2.2.2.1 = [] → x.2.1 = none ∧ x.2.2.1 = 0) ∧ Apart V V' x.2.1 x.2.2.2.1 x.2.2.2.2 ∧ V'.cells (.slice x.2.1 x.2.2.2.1.length x.2.2.1) x.2.2.2.2)
  rows.length (0, none, 0, [], []) ?_ ?_ ?_ ?_
 ·repeat' (first | exact sees_nil | refine sees_cons rfl rfl rfl ?_)
 ·repeat' (first | exact keeps_nil | refine keeps_cons rfl ?_ | refine keeps_free ?_)
 ·exact ⟨View.le_refl _, Nat.zero_le _, by simp, rfl, fun _ => ⟨rfl, rfl⟩, ⟨CellsAt.nil, fun _ _ h => by cases h⟩, rfl⟩
 rintro j ⟨i, base, cp, out, cells⟩ V' ⟨hV, hi, hj, hout, hnil, hca, hcl⟩
 simp only at hi hj hout hnil hca hcl
 have hol : out.length ≤ i := by rw [hout, List.length_map, List.length_take]; omega
 conv => whnf
 apply br <;> intro h3 <;> conv => whnf
 ·have hi1 : i < rows.length := by have := of_decide_eq_true h3; omega
  obtain ⟨r, hr1⟩ : ∃ r, rows[i]? = some r := ⟨_, List.getElem?_eq_getElem hi1⟩
  obtain ⟨p, off, cv, rfl, hcell, hrow⟩ := hr.at hr1
  obtain ⟨rbase, rcap, hrv, hrp, hrva⟩ := hrow
  subst hrv
  have hwi := wrap_nat (i := i) (by omega)
  have hrl := hw r (List.mem_of_getElem? hr1)
  refine IdxN.of (by omega) (by omega) ?_; conv => whnf
  refine LoadN.of (hcell.mono le_auto) 0 (by show off + i * 1 = off + i + 0; omega) rfl ?_; conv => whnf
  repeat' ((first | refine br_t rfl ?_ | refine br_f rfl ?_ | refine IdxN.lit rfl rfl ?_ | intro _); conv => whnf)
  refine loopz (σ := Nat × Option Addr × Nat × List Val)
   (fun z => [(1, .v (.slice (some ⟨ib, io, none⟩) xs.length ic)), (2, .own 2 0), (5, .row 55), (7, .v (.slice rbase r.length rcap)), (8, .row 50), (18, .v (.slice (some ⟨p, off, none⟩) rows.length rc)), (19, .v (.int .i64 rows.length)), (20, .v (.int .i64 i)), (24, .v (.slice (some ⟨ib, io, none⟩) xs.length ic)), (25, .v (.int .i64 xs.length)), (26, .v (.int .i64 z.1))])
   (fun z => [(2, .box b2 63 [.slice cb its.length cc, .slice (some ⟨p, off, none⟩) rows.length rc]), (55, .row (.slice base out.length cp) 42 1 out.length), (50, .row (.slice z.2.1 z.2.2.2.length z.2.2.1) 44 3 z.2.2.2.length)])
   (fun j z Vx => V'.le Vx ∧ z.1 ≤ xs.length ∧ xs.length - z.1 = j ∧ z.2.2.2 = pickX its r (xs.take z.1) ∧ z.2.2.2.length ≤ z.1 ∧ Vx.cells (.slice z.2.1 z.2.2.2.length z.2.2.1) (z.2.2.2.flatMap vcells) ∧ (∀ p o, z.2.1 = some ⟨p, o, none⟩ → ∀ k, V' p k = none))
   xs.length (0, none, 0, []) ?_ ?_ ?_ ?_
  ·repeat' (first | exact sees_nil | refine sees_cons rfl rfl rfl ?_)
  ·repeat' (first | exact keeps_nil | refine keeps_cons rfl ?_ | refine keeps_free ?_)
  ·exact ⟨View.le_refl _, Nat.zero_le _, by simp, rfl, Nat.le_refl _, rfl, fun _ _ h => by cases h⟩
  rintro j2 ⟨k, xb, xc, acc⟩ Vx ⟨hVx, hk, hj2, hacc, hal, hacl, hnb⟩
  simp only at hk hj2 hacc hal hacl hnb
  conv => whnf
  apply br <;> intro h4 <;> conv => whnf
  ·have hk1 : k < xs.length := by have := of_decide_eq_true h4; omega
   obtain ⟨x, hxk⟩ : ∃ x, xs[k]? = some x := ⟨_, List.getElem?_eq_getElem hk1⟩
   have htk : pickX its r (xs.take (k + 1)) = acc ++ oneP its r x := by
    unfold pickX at hacc ⊢
    rw [List.take_add_one, hxk, List.flatMap_append, ← hacc]; simp
   have hxc := has_flat (n := 3) (fun _ => rfl) xs io hx k x hxk
   have hwk := wrap_nat (i := k) (by omega)
   obtain ⟨xa, xtb, xnm⟩ := x
   unfold oneP at htk
   refine IdxN.of (by omega) (by omega) ?_; conv => whnf
   refine LoadN.of (hxc.mono le_auto) 0 rfl rfl ?_; conv => whnf
   repeat' ((first | refine br_t rfl ?_ | refine br_f rfl ?_ | refine IdxN.lit rfl rfl ?_ | intro _); conv => whnf)
   refine CallN.pure (place_spec its cb (some ⟨p, off, none⟩) cc rows.length rc xtb xnm _ (hc.mono le_auto) his) fun v V1 _ hV1 hv => ?_
   subst hv
   simp only at htk
   generalize placeOf (hitI xtb xnm) its 0 = c at *
   conv => whnf
   repeat' ((first | refine br_t rfl ?_ | refine br_f rfl ?_ | refine IdxN.lit rfl rfl ?_ | intro _); conv => whnf)
   apply br <;> intro h5 <;> conv => whnf
   ·have h5 : 0 ≤ c := of_decide_eq_true h5
    obtain ⟨cn, rfl⟩ := Int.eq_ofNat_of_zero_le h5
    rw [if_pos h5, Int.toNat_natCast] at htk
    apply br <;> intro h6 <;> conv => whnf
    ·have h6 : cn < r.length := by have := of_decide_eq_true h6; omega
     obtain ⟨u, hu⟩ : ∃ u, r[cn]? = some u := ⟨_, List.getElem?_eq_getElem h6⟩
     rw [hu] at htk
     simp only at htk
     obtain ⟨q, off2, hb2, hval⟩ := hrva.at hu
     subst hb2
     refine IdxN.of (by omega) (by omega) ?_; conv => whnf
     refine LoadN.of (hval.mono le_auto) 0 rfl rfl ?_; conv => whnf
     intro lb Vl hVl hln
     conv => whnf
     refine AppN.toN (acc.length + 1) rfl (acc.flatMap vcells) (vcells u) (hacl.mono le_auto) (by rw [flat_len (f := vcells) (n := 3) (fun _ => rfl)]; rfl) (.inr hln) rfl rfl (by omega) (by decide) fun base' cap' Vm hVm hcm _ hnw => ?_; conv => whnf
     have hcm : Vm.cells (.slice base' (acc ++ [u]).length cap') ((acc ++ [u]).flatMap vcells) := by
      rw [List.flatMap_append, List.length_append]
      simpa using hcm
     refine ⟨j2 - 1, (k + 1, base', cap', acc ++ [u]), by omega, ?_, ?_, View.le_trans hVx le_auto, hk1, by show _ - (k + 1) = _; omega, htk.symm, by show (acc ++ [u]).length ≤ k + 1; simp only [List.length_append, List.length_cons, List.length_nil]; omega, hcm, fun p' o hb => (hnw (by omega) p' o hb).1.elim (fun h => nb_of hacl hnb h) fun h => View.none_of le_auto h⟩
     ·repeat' (first | exact sees_nil | refine sees_cons rfl rfl (by simp only [List.length_append, List.length_cons, List.length_nil]; rfl) ?_ | refine sees_cons rfl rfl rfl ?_ | refine sees_cons rfl rfl (by rw [← hwk]; rfl) ?_)
     ·repeat' (first | exact keeps_nil | refine keeps_cons rfl ?_ | refine keeps_cons (by simp only [List.length_append, List.length_cons, List.length_nil]; rfl) ?_ | refine keeps_free ?_)
    ·have h6 : ¬ cn < r.length := by have := of_decide_eq_false h6; omega
     have hnone : r[cn]? = none := List.getElem?_eq_none (by omega)
     rw [hnone] at htk
     refine ⟨j2 - 1, (k + 1, xb, xc, acc), by omega, ?_, ?_, View.le_trans hVx le_auto, hk1, by show _ - (k + 1) = _; omega, by show acc = _; rw [htk, List.append_nil], by show acc.length ≤ k + 1; omega, hacl.mono le_auto, hnb⟩
     ·repeat' (first | exact sees_nil | refine sees_cons rfl rfl rfl ?_ | refine sees_cons rfl rfl (by rw [← hwk]; rfl) ?_)
     ·repeat' (first | exact keeps_nil | refine keeps_cons rfl ?_ | refine keeps_free ?_)
   ·have h5 : ¬ 0 ≤ c := of_decide_eq_false h5
    rw [if_neg h5] at htk
    refine ⟨j2 - 1, (k + 1, xb, xc, acc), by omega, ?_, ?_, View.le_trans hVx le_auto, hk1, by show _ - (k + 1) = _; omega, by show acc = _; rw [htk, List.append_nil], by show acc.length ≤ k + 1; omega, hacl.mono le_auto, hnb⟩
    ·repeat' (first | exact sees_nil | refine sees_cons rfl rfl rfl ?_ | refine sees_cons rfl rfl (by rw [← hwk]; rfl) ?_)
    ·repeat' (first | exact keeps_nil | refine keeps_cons rfl ?_ | refine keeps_free ?_)
  ·have hk1 : ¬ k < xs.length := by have := of_decide_eq_false h4; omega
   rw [List.take_of_length_le (by omega)] at hacc
   subst hacc
   have hrow : RowAt (V'.new Vx) (pickX its r xs) (.slice xb (pickX its r xs).length xc) := RowAt.new (View.le_refl _) hacl (by omega) fun _ => hnb
   have htake : (rows.take (i + 1)).map (fun r => pickX its r xs) = out ++ [pickX its r xs] := by rw [List.take_add_one, hr1, List.map_append, ← hout]; rfl
   generalize pickX its r xs = acc at *
   intro l3 Vl hVl hln
   conv => whnf
   refine AppN.toN (out ++ [acc]).length (by simp) cells [.slice xb acc.length xc] (hcl.mono le_auto) (by rw [hca.1.len]; exact (Nat.mul_one _).symm) (.inr hln) rfl rfl (by simp only [List.length_append, List.length_cons, List.length_nil]; omega) (by decide) fun base' cap' V4 hV4 hc4 _ hnw => ?_; conv => whnf
   have hap := hca.snoc hcl (fun h => (hnil h).1) hV hVx hrow (V' := V4) (base' := base') le_auto fun p' o' hb => (hnw (by simp) p' o' hb).1.elim (fun h => .inl (blk_base hcl h)) fun h => .inr (View.none_of le_auto h)
   refine ⟨j - 1, (i + 1, base', cap', out ++ [acc], cells ++ [.slice xb acc.length xc]), by omega, ?_, ?_, View.le_trans hV le_auto, hi1, by show _ - (i + 1) = _; omega, htake.symm, fun h => by simp at h, hap, hc4⟩
   ·repeat' (first | exact sees_nil | refine sees_cons rfl rfl rfl ?_ | refine sees_cons rfl rfl (by rw [← hwi]; rfl) ?_)
   ·repeat' (first | exact keeps_nil | refine keeps_cons rfl ?_ | refine keeps_free ?_)
 ·have hi1 : ¬ i < rows.length := by have := of_decide_eq_false h3; omega
  rw [List.take_of_length_le (by omega)] at hout
  subst hout
  repeat' ((first | refine br_t rfl ?_ | refine br_f rfl ?_ | refine IdxN.lit rfl rfl ?_ | intro _); conv => whnf)
  refine ret_pure (NewV.of2 le_auto hcl hca.1 hca.2)
theorem whereX_mem (hold : List Val → Bool × Int) : ∀ {l : List (List Val)} {r : List Val}, r ∈ (whereX hold l).1 → r ∈ l
 | [], r, h => by cases h
 | x :: l, r, h => by
  rw [whereX] at h
  split at h
  ·cases h
  ·simp only at h
   split at h
   ·rcases List.mem_cons.1 h with rfl | h
    ·exact List.mem_cons_self
    ·exact List.mem_cons_of_mem _ (whereX_mem hold h)
   ·exact List.mem_cons_of_mem _ (whereX_mem hold h)
def tabg (nm : ByteArray) (c i : Option Addr × Nat × Nat) : Value := .agg #[.string nm, .slice c.1 c.2.1 c.2.2, .slice i.1 i.2.1 i.2.2]
theorem bless_eq : ∀ (x y : List UInt8), Op.bytesLess x y = decide (x < y)
 | [], [] => by simp [Op.bytesLess]
 | _ :: _, [] => by simp [Op.bytesLess]
 | [], _ :: _ => by simp [Op.bytesLess]
 | a :: x, b :: y => by
  rw [Op.bytesLess, bless_eq x y]
  simp only [List.cons_lt_cons_iff]
  by_cases h1 : a < b <;> by_cases h2 : a = b <;> by_cases h3 : x < y <;> simp [h1, h2, h3]
theorem cmpS_le {a b : ByteArray} : cmpS a b ≤ 0 ↔ a.toList ≤ b.toList := by
 rw [List.le_iff_lt_or_eq]
 unfold cmpS
 rw [bless_eq]
 by_cases h : a.toList < b.toList
 ·rw [if_pos (decide_eq_true h)]; simp [h]
 ·rw [if_neg (by simpa using h)]
  by_cases h2 : a.toList = b.toList
  ·rw [if_pos h2]; simp [h2]
  ·rw [if_neg h2]; simp [h, h2]
theorem cmpS_ge {a b : ByteArray} : 0 ≤ cmpS a b ↔ b.toList ≤ a.toList := by
 show _ ↔ ¬ a.toList < b.toList
 unfold cmpS
 rw [bless_eq]
 by_cases h : a.toList < b.toList
 ·rw [if_pos (decide_eq_true h)]; simp [h]
 ·rw [if_neg (by simpa using h)]
  by_cases h2 : a.toList = b.toList
  ·rw [if_pos h2]; simp [h]
  ·rw [if_neg h2]; simp [h]
theorem cmpS_trans {a b c : ByteArray} (h : cmpS a b ≤ 0) (k : cmpS b c ≤ 0) : cmpS a c ≤ 0 := by
 rw [cmpS_le] at *
 exact List.le_trans h k
theorem cmpS_three (a b : ByteArray) : cmpS a b = -1 ∨ cmpS a b = 0 ∨ cmpS a b = 1 := by
 unfold cmpS; split
 ·exact .inl rfl
 ·split
  ·exact .inr (.inl rfl)
  ·exact .inr (.inr rfl)
theorem cmpS_neg (a b : ByteArray) : cmpS b a = - cmpS a b := by
 have h1 := cmpS_le (a := a) (b := b)
 have h2 := cmpS_ge (a := a) (b := b)
 have h3 := cmpS_le (a := b) (b := a)
 have h4 := cmpS_ge (a := b) (b := a)
 have h5 := cmpS_three a b
 have h6 := cmpS_three b a
 rcases h5 with e | e | e <;> rcases h6 with f | f | f <;> rw [e] at h1 h2 <;> rw [f] at h3 h4 <;> first | omega | (simp at h1 h2 h3 h4; first | exact absurd h1 h4 | exact absurd h4 h1 | exact absurd h2 h3 | exact absurd h3 h2 | skip)
theorem cmpV_le {a b : Val} : cmpV a b ≤ 0 ↔ a.k < b.k ∨ (a.k = b.k ∧ (a.n < b.n ∨ (a.n = b.n ∧ cmpS a.t b.t ≤ 0))) := by
 unfold cmpV orI cmpI
 by_cases h1 : a.k < b.k
 ·simp [h1]
 ·by_cases h2 : b.k < a.k
  ·simp [h1, h2]; omega
  ·have h3 : a.k = b.k := by omega
   by_cases h4 : a.n < b.n
   ·simp [h1, h2, h3, h4]
   ·by_cases h5 : b.n < a.n
    ·simp [h1, h2, h3, h4, h5]; omega
    ·have h6 : a.n = b.n := by omega
     simp [h1, h2, h3, h4, h5, h6]
theorem cmpV_neg (a b : Val) : cmpV b a = - cmpV a b := by
 unfold cmpV orI cmpI
 rw [cmpS_neg a.t b.t]
 repeat' split
 all_goals omega
theorem cmpV_trans {a b c : Val} (h : cmpV a b ≤ 0) (k : cmpV b c ≤ 0) : cmpV a c ≤ 0 := by
 rw [cmpV_le] at *
 rcases h with h | ⟨h, h | ⟨h', h⟩⟩ <;> rcases k with k | ⟨k, k | ⟨k', k⟩⟩
 ·left; omega
 ·left; omega
 ·left; omega
 ·left; omega
 ·right; exact ⟨by omega, .inl (by omega)⟩
 ·right; exact ⟨by omega, .inl (by omega)⟩
 ·left; omega
 ·right; exact ⟨by omega, .inl (by omega)⟩
 ·right; exact ⟨by omega, .inr ⟨by omega, cmpS_trans h k⟩⟩
end Go.Proofs.YtenpginanhnkbaaGreat
end

section
set_option linter.unusedSimpArgs false
set_option linter.unusedVariables false
namespace Go.Proofs.YtenpginanhnkbaaGreat
open Go.X Go.Shelf
set_option maxRecDepth 100000
def Tryz.growL_ren : Go.Shelf.Ren := ⟨fun | 4 => 86 | n => n, fun | 22 => 42 | 25 => 44 | 3 => 3 | 4 => 4 | 9 => 9 | 20 => 20 | 0 => 0 | n => n, fun | n => n⟩
theorem Tryz.growL : Go.Proofs.Lays8.n4 Tryz.prog Tryz.growL_ren := {
  mixed := by kernel_rfl
  f4 := ⟨Tryz.f86.name, by decide, Tryz.func86.trans (congrArg some (by kernel_rfl))⟩
  t0 := Tryz.underlying0
  a0 := Tryz.isAgg0
  z0 := Tryz.sizeOf0
  v0 := Tryz.zeroValue0
  t3 := Tryz.underlying3
  a3 := Tryz.isAgg3
  z3 := Tryz.sizeOf3
  v3 := Tryz.zeroValue3
  t4 := Tryz.underlying4
  a4 := Tryz.isAgg4
  z4 := Tryz.sizeOf4
  v4 := Tryz.zeroValue4
  t9 := Tryz.underlying9
  a9 := Tryz.isAgg9
  z9 := Tryz.sizeOf9
  v9 := Tryz.zeroValue9
  t20 := Tryz.underlying20
  a20 := Tryz.isAgg20
  z20 := Tryz.sizeOf20
  v20 := Tryz.zeroValue20
  t22 := Tryz.underlying42
  a22 := Tryz.isAgg42
  z22 := Tryz.sizeOf42
  v22 := Tryz.zeroValue42 }
def infoB (o : Option TypeInfo) : Bool := match o with
 | some i => (match i.zero with | some z => Nat.beq i.size 3 && (Nat.beq z.cells.size 3 && Nat.ble i.bytes 1000) | none => false)
 | none => false
theorem info38 : ∃ i z, Tryz.prog.info? (Tryz.growL_ren.t 25) = some i ∧ i.zero = some z ∧ i.size = 3 ∧ z.cells.size = 3 ∧ i.bytes ≤ 1000 ∧ Tryz.growL_ren.t 25 = 44 := by
 have h : infoB (Tryz.prog.info? (Tryz.growL_ren.t 25)) = true := by kernel_rfl
 have e : Tryz.growL_ren.t 25 = 44 := by kernel_rfl
 unfold infoB at h
 split at h
 ·rename_i i hi
  split at h
  ·rename_i z hz
   simp only [Bool.and_eq_true] at h
   exact ⟨i, z, hi, hz, Nat.eq_of_beq_eq_true h.1, Nat.eq_of_beq_eq_true h.2.1, Nat.le_of_ble_eq_true h.2.2, e⟩
  ·cases h
 ·cases h
theorem grow_spec (m : Int) (n : Nat) (hm : m = n) (hn : 0 < n ∧ n ≤ 10000) (V : View) :
  Does Tryz.prog 86 [.slice none 0 0, .int .i64 m] V [] (fun v V' bs => ∃ g cap, v = .slice (some ⟨g, 0, none⟩) 0 cap ∧ bs = [.row (.slice (some ⟨g, 0, none⟩) 0 cap) 44 3 0] ∧ ∀ k, V g k = none) := by
 subst hm
 obtain ⟨i, z, hi, hz, hs, hzs, hb, ht⟩ := info38
 intro w hw
 have h := Any8.slices_Grow_grow Tryz.growL i z hi hz (by omega) none 0 0 n [] w (Nat.le_refl _) (by omega) (by
  rw [Nat.zero_add]
  exact Nat.le_trans (Nat.mul_le_mul hn.2 hb) (by decide)) (by omega) (by simp) (fun _ => rfl) (fun a ha => by cases ha)
 have hge := grownCap_ge w (0 + n) 0 (Tryz.growL_ren.t 25)
 have hle := grownCap_le_maxLen w (0 + n) 0 (Tryz.growL_ren.t 25) (by unfold maxLen; omega)
 rw [ht] at h hge hle
 generalize grownCap w (0 + n) 0 44 = cap at *
 refine Calls.mono (show Calls Tryz.prog 86 _ _ _ from h) fun e w' ⟨he, hw'⟩ => ?_
 subst hw'
 have hcur := heap_alloc_new w.drew (.cells ((#[] : Array Value) ++ Builtin.zeroCells z.cells (0 + n - 0) ++ Builtin.zeroCells z.cells (cap - (0 + n))) 44)
 refine ⟨_, V, [.row (.slice (some ⟨w.heap.size, 0, none⟩) 0 cap) 44 3 0], he, ⟨_, _, rfl, rfl, newBlk_none hw.sub⟩, ⟨?_, ?_, ?_⟩, ?_, ?_, ?_⟩
 ·exact fun b k v hv => by rw [cell_keep (alloc_old w.drew _ (sub_lt hw.sub hv))]; exact hw.sub b k v hv
 ·intro j r hj
  cases j with
  | zero =>
   simp only [List.getElem?_cons_zero, Option.some.injEq] at hj
   subst hj
   refine .inr ⟨w.heap.size, cap, _, rfl, by omega, hcur, Nat.zero_le _, hle, ?_, fun o _ => newBlk_none hw.sub o⟩
   simp only [Array.size_append, size_zeroCells, hzs]
   simp only [List.size_toArray, List.length_nil]
   omega
  | succ j => simp at hj
 ·intro a b r r' g hab ha hb _ _
  have e1 : a = 0 := by have := (List.getElem?_eq_some_iff.1 ha).1; simp only [List.length_cons, List.length_nil] at this; omega
  have e2 : b = 0 := by have := (List.getElem?_eq_some_iff.1 hb).1; simp only [List.length_cons, List.length_nil] at this; omega
  exact absurd (e1.trans e2.symm) hab
 ·have hk : Kept (blksOf []) w w.drew := ⟨rfl, rfl, rfl, Nat.le_succ _, Nat.le_refl _, fun _ _ _ => rfl, (Kept.refl (blksOf []) w).thaw⟩
  exact hk.alloc _
 ·exact ⟨View.le_refl _, fun _ _ _ h => .inl h⟩
 ·rintro b ⟨r, hr, hb⟩
  right
  rw [List.mem_singleton.1 hr] at hb
  simp only [Res.blk, rowBlk] at hb
  split at hb
  ·cases hb
  ·simp only [Option.some.injEq] at hb; omega
end Go.Proofs.YtenpginanhnkbaaGreat
end

section
set_option linter.unusedSimpArgs false
set_option linter.unusedVariables false
namespace Go.Proofs.YtenpginanhnkbaaGreat
open Go.X
set_option maxRecDepth 100000
set_option maxHeartbeats 4000000 in
theorem concat_new (r1 r2 : List Val) (b1 b2 : Option Addr) (c1 c2 p : Nat) (V : View) (hp : V.has p 0 [.slice b1 r1.length c1, .slice b2 r2.length c2]) (p1 : PlainR r1 b1) (p2 : PlainR r2 b2) (h1 : ValsAt V r1 b1) (h2 : ValsAt V r2 b2) (hn : r1 ≠ []) (hl1 : r1.length ≤ 1000) (hl2 : r2.length ≤ 1000) :
  PSpec 74 [.slice (some ⟨p, 0, none⟩) 2 2] V (fun v V' => RowAt (V.new V') (r1 ++ r2) v) := by
 have hpos : 0 < r1.length := List.length_pos_iff.2 hn
 refine does_of_zfun [] mixed (args := [.v _]) (ms := []) Tryz.func74 (by kernel_rfl) rfl ?_
 have w1 : IntKind.i64.wrap ((0 : Int) + (r1.length : Int)) = (r1.length : Int) := by rw [wrapE]; omega
 have w2 : IntKind.i64.wrap ((r1.length : Int) + (r2.length : Int)) = ((r1.length + r2.length : Nat) : Int) := by rw [wrapE]; omega
 have d1 : decide (IntKind.i64.wrap ((0 : Int) + (r1.length : Int)) < 0) = false := decide_eq_false (by rw [w1]; omega)
 have d2 : decide (IntKind.i64.wrap (IntKind.i64.wrap ((0 : Int) + (r1.length : Int)) + (r2.length : Int)) < 0) = false := decide_eq_false (by rw [w1, w2]; omega)
 conv => whnf
 repeat' ((first | refine br_t rfl ?_ | refine br_f rfl ?_ | refine IdxN.lit rfl rfl ?_ | intro _); conv => whnf)
 refine unrollz 3 ?_; conv => whnf
 repeat' ((first | refine br_t rfl ?_ | refine br_f rfl ?_ | refine IdxN.lit rfl rfl ?_ | intro _); conv => whnf)
 refine LoadN.of (hp.mono le_auto) 0 rfl rfl ?_; conv => whnf
 refine br_f d1 ?_; conv => whnf
 repeat' ((first | refine br_t rfl ?_ | refine br_f rfl ?_ | refine IdxN.lit rfl rfl ?_ | intro _); conv => whnf)
 refine LoadN.of (hp.mono le_auto) 1 rfl rfl ?_; conv => whnf
 refine br_f d2 ?_; conv => whnf
 repeat' ((first | refine br_t rfl ?_ | refine br_f rfl ?_ | refine IdxN.lit rfl rfl ?_ | intro _); conv => whnf)
 refine CallN.new 24 rfl (grow_spec _ (r1.length + r2.length) (by rw [w1, w2]) ⟨by omega, by omega⟩ _) fun v V1 bs hV1 ⟨g, cap, hv, hb, hg⟩ => ⟨_, .row 24, hb, by subst hv; rfl, ?_⟩
 subst hv; conv => whnf
 repeat' ((first | refine br_t rfl ?_ | refine br_f rfl ?_ | refine IdxN.lit rfl rfl ?_ | intro _); conv => whnf)
 refine unrollz 3 ?_; conv => whnf
 repeat' ((first | refine br_t rfl ?_ | refine br_f rfl ?_ | refine IdxN.lit rfl rfl ?_ | intro _); conv => whnf)
 refine LoadN.of (hp.mono le_auto) 0 rfl rfl ?_; conv => whnf
 refine AppN.toN r1.length (Nat.zero_add _) [] (r1.flatMap vcells) (fun i v hv => by simp at hv) rfl (row_news p1 (h1.mono le_auto)) (flat_len (f := vcells) (n := 3) (fun _ => rfl) _) (allOne_flat r1) (by omega) (by decide) fun base' cap' V2 hV2 hc2 _ hw2 => ?_; conv => whnf
 repeat' ((first | refine br_t rfl ?_ | refine br_f rfl ?_ | refine IdxN.lit rfl rfl ?_ | intro _); conv => whnf)
 refine LoadN.of (hp.mono le_auto) 1 rfl rfl ?_; conv => whnf
 refine AppN.toN (r1.length + r2.length) rfl (r1.flatMap vcells) (r2.flatMap vcells) hc2 (flat_len (f := vcells) (n := 3) (fun _ => rfl) _) (row_news p2 (h2.mono le_auto)) (flat_len (f := vcells) (n := 3) (fun _ => rfl) _) (allOne_flat r2) (by omega) (by decide) fun base3 cap3 V3 hV3 hc3 _ hw3 => ?_; conv => whnf
 repeat' ((first | refine br_t rfl ?_ | refine br_f rfl ?_ | refine IdxN.lit rfl rfl ?_ | intro _); conv => whnf)
 have hc4 : V3.cells (.slice base3 (r1 ++ r2).length cap3) ((r1 ++ r2).flatMap vcells) := by rw [List.length_append, List.flatMap_append]; exact hc3
 have n1 : ∀ p o, base' = some ⟨p, o, none⟩ → ∀ k, V p k = none := fun p o hb => by
  rcases (hw2 hpos p o hb).1 with h | h
  ·simp only [rowBlk] at h
   split at h
   ·cases h
   ·simp only [Option.some.injEq] at h; subst h; exact View.none_of le_auto hg
  ·exact View.none_of le_auto h
 have n2 : ∀ p o, base3 = some ⟨p, o, none⟩ → ∀ k, V p k = none := fun p o hb => by
  rcases (hw3 (by omega) p o hb).1 with h | h
  ·obtain ⟨p', off', hb', _⟩ := cells_some hc2 (by intro e; have := congrArg List.length (show r1.flatMap vcells = [] from e); rw [flat_len (f := vcells) (n := 3) (fun _ => rfl)] at this; simp only [List.length_nil] at this; omega)
   rw [hb'] at h
   simp only [rowBlk] at h
   split at h
   ·cases h
   ·simp only [Option.some.injEq] at h; subst h; exact n1 _ _ hb'
  ·exact View.none_of le_auto h
 rw [show r1.length + r2.length = (r1 ++ r2).length from (List.length_append ..).symm]
 exact ret_pure (RowAt.new (View.le_refl _) hc4 (by rw [List.length_append]; omega) fun _ => n2)
/-- the pairs of two tables' rows -/
def joinX (on : List Val → List Val → Bool) (L R : List (List Val)) : List (List Val) := L.flatMap fun a => (R.filter (on a)).map (a ++ ·)
theorem pairs_len {on : List Val → List Val → Bool} (a : List Val) (R : List (List Val)) : ((R.filter (on a)).map (a ++ ·)).length ≤ R.length := by rw [List.length_map]; exact List.length_filter_le _ _
theorem joinX_len {on : List Val → List Val → Bool} : ∀ (L R : List (List Val)), (joinX on L R).length ≤ L.length * R.length
 | [], R => by simp [joinX]
 | a :: L, R => by
  have h1 := joinX_len (on := on) L R
  have h2 := pairs_len (on := on) a R
  unfold joinX at h1 ⊢
  rw [List.flatMap_cons, List.length_append, List.length_cons, Nat.add_mul]
  omega
set_option maxHeartbeats 4000000 in
theorem joined_new (s : StV) (t u : TabV) (L R : List (List Val)) (lb rb : Option Addr) (lc rc : Nat) (on : List Val → List Val → Bool) (V : View)
  (ht : TabOk V t) (hu : TabOk V u) (hL : RowsAt V L lb) (hR : RowsAt V R rb) (hsL : L.length ≤ 30) (hsR : R.length ≤ 30) (hwL : ∀ r ∈ L, r ≠ [] ∧ r.length ≤ 1000) (hwR : ∀ r ∈ R, r.length ≤ 1000)
  (hon : ∀ cb cc V1, V.le V1 → V1.cells (.slice cb (itemsOf t ++ itemsOf u).length cc) ((itemsOf t ++ itemsOf u).flatMap icells) → ∀ a ∈ L, ∀ b ∈ R, ∀ v V', V1.le V' → RowAt V' (a ++ b) v → ∀ lz, V'.has lz 0 (xcells ⟨8, v0, noText, noText, s.on.1, s.on.2.1, s.on.2.2⟩) →
   PSpec 51 [.slice cb (itemsOf t ++ itemsOf u).length cc, v, .slice (some ⟨lz, 0, none⟩) 1 1] V' (fun v _ => v = .tuple #[.bool (on a b), .int .i64 0])) :
  PSpec 50 [stv s, tabv t, tabv u, .slice lb L.length lc, .slice rb R.length rc] V (RowsN V (itemsOf t ++ itemsOf u) (joinX on L R)) := by
 obtain ⟨skind, stb, snm, s3, s4, s5, sit, sjoin, son, swh, sord, sdesc, sinn⟩ := s
 obtain ⟨tnm, tp, tcols, tcap, tq, tql, tqc⟩ := t
 obtain ⟨unm, up, ucols, ucap, uq, uql, uqc⟩ := u
 refine does_of_zfun [] mixed (args := [.v _, .v _, .v _, .v _, .v _]) (ms := []) Tryz.func50 (by kernel_rfl) rfl ?_; conv => whnf
 repeat' ((first | refine br_t rfl ?_ | refine br_f rfl ?_ | refine IdxN.lit rfl rfl ?_ | intro _); conv => whnf)
 rename_i b5 b6 b7 b10 bt V1 hV1 h1
 refine CallN.pure (named_spec [⟨tnm, tp, tcols, tcap, tq, tql, tqc⟩, ⟨unm, up, ucols, ucap, uq, uql, uqc⟩] bt 2 2 _ h1 (fun t' ht' => by
  simp only [List.mem_cons, List.not_mem_nil, or_false] at ht'
  rcases ht' with rfl | rfl
  ·exact ht.mono le_auto
  ·exact hu.mono le_auto) rfl (by show 2 ≤ 4; decide)) fun v V2 _ hV2 ⟨cb, cc, hv, hc⟩ => ?_
 simp only [List.flatMap_cons, List.flatMap_nil, List.append_nil] at hv hc
 subst hv
 have hon := hon cb cc V2 le_auto hc
 unfold RowsN
 generalize itemsOf ⟨tnm, tp, tcols, tcap, tq, tql, tqc⟩ ++ itemsOf ⟨unm, up, ucols, ucap, uq, uql, uqc⟩ = its at *
 simp only at hon
 conv => whnf
 repeat' ((first | refine br_t rfl ?_ | refine br_f rfl ?_ | refine IdxN.lit rfl rfl ?_ | intro _); conv => whnf)
 rename_i b12
 refine loopz (σ := Nat × Option Addr × Nat × List (List Val) × List Value)
  (fun x => [(4, .v (.slice rb R.length rc)), (5, .own 5 0), (10, .own 10 0), (11, .v (.int .i64 0)), (12, .own 12 0), (25, .v (.slice lb L.length lc)), (26, .v (.int .i64 L.length)), (27, .v (.int .i64 x.1))])
  (fun x => [(5, .box b5 30 [.int .i64 skind, .string stb, .string snm, .slice s3.1 s3.2.1 s3.2.2, .slice s4.1 s4.2.1 s4.2.2, .slice s5.1 s5.2.1 s5.2.2, .slice sit.1 sit.2.1 sit.2.2, .string sjoin, .slice son.1 son.2.1 son.2.2, .slice swh.1 swh.2.1 swh.2.2, .slice sord.1 sord.2.1 sord.2.2, .bool sdesc, .slice sinn.1 sinn.2.1 sinn.2.2]),
   (10, .box b10 63 [.slice none 0 0, .slice none 0 0]), (12, .box b12 63 [.slice cb its.length cc, .slice x.2.1 x.2.2.2.1.length x.2.2.1]), (63, .row (.slice x.2.1 x.2.2.2.1.length x.2.2.1) 42 1 x.2.2.2.1.length)])
  (fun j x V' => V2.le V' ∧ x.1 ≤ L.length ∧ L.length - x.1 = j ∧ x.2.2.2.1 = joinX on (L.take x.1) R ∧ (x.2.2.2.1 = [] → x.2.1 = none ∧ x.2.2.1 = 0) ∧ CellsAt (V.new V') x.2.2.2.1 x.2.2.2.2 ∧ V'.cells (.slice x.2.1 x.2.2.2.1.length x.2.2.1) x.2.2.2.2)
  L.length (0, none, 0, [], []) ?_ ?_ ?_ ?_
 ·repeat' (first | exact sees_nil | refine sees_cons rfl rfl rfl ?_)
 ·repeat' (first | exact keeps_nil | refine keeps_cons rfl ?_ | refine keeps_free ?_)
 ·exact ⟨View.le_refl _, Nat.zero_le _, by simp, rfl, fun _ => ⟨rfl, rfl⟩, CellsAt.nil, rfl⟩
 rintro j ⟨i, base, cp, out, cells⟩ V' ⟨hV, hi, hj, hout, hnil, hca, hcl⟩
 simp only at hi hj hout hnil hca hcl
 have hol : out.length ≤ i * R.length := by
  rw [hout]
  refine Nat.le_trans (joinX_len _ _) (Nat.mul_le_mul_right _ ?_)
  rw [List.length_take]; omega
 conv => whnf
 apply br <;> intro g1 <;> conv => whnf
 ·have hi1 : i < L.length := by have := of_decide_eq_true g1; omega
  obtain ⟨a, ha⟩ : ∃ a, L[i]? = some a := ⟨_, List.getElem?_eq_getElem hi1⟩
  have ham := List.mem_of_getElem? ha
  have htake : joinX on (L.take (i + 1)) R = joinX on (L.take i) R ++ (R.filter (on a)).map (a ++ ·) := by
   unfold joinX
   rw [List.take_add_one, ha, List.flatMap_append]
   simp
  obtain ⟨p, off, cv, rfl, hcell, hrow⟩ := hL.at ha
  obtain ⟨ab, ac, hav, hap, hava⟩ := hrow
  subst hav
  have hwi := wrap_nat (i := i) (by omega)
  refine IdxN.of (by omega) (by omega) ?_; conv => whnf
  refine LoadN.of (hcell.mono le_auto) 0 (by show off + i * 1 = off + i + 0; omega) rfl ?_; conv => whnf
  repeat' ((first | refine br_t rfl ?_ | refine br_f rfl ?_ | refine IdxN.lit rfl rfl ?_ | intro _); conv => whnf)
  refine loopz (σ := Nat × Option Addr × Nat × List (List Val) × List Value)
   (fun x => [(4, .v (.slice rb R.length rc)), (5, .own 5 0), (10, .own 10 0), (11, .v (.int .i64 0)), (12, .own 12 0), (14, .v (.slice ab a.length ac)), (25, .v (.slice (some ⟨p, off, none⟩) L.length lc)), (26, .v (.int .i64 L.length)), (27, .v (.int .i64 i)), (31, .v (.slice rb R.length rc)), (32, .v (.int .i64 R.length)), (33, .v (.int .i64 x.1))])
   (fun x => [(5, .box b5 30 [.int .i64 skind, .string stb, .string snm, .slice s3.1 s3.2.1 s3.2.2, .slice s4.1 s4.2.1 s4.2.2, .slice s5.1 s5.2.1 s5.2.2, .slice sit.1 sit.2.1 sit.2.2, .string sjoin, .slice son.1 son.2.1 son.2.2, .slice swh.1 swh.2.1 swh.2.2, .slice sord.1 sord.2.1 sord.2.2, .bool sdesc, .slice sinn.1 sinn.2.1 sinn.2.2]),
    (10, .box b10 63 [.slice none 0 0, .slice none 0 0]), (12, .box b12 63 [.slice cb its.length cc, .slice x.2.1 x.2.2.2.1.length x.2.2.1]), (63, .row (.slice x.2.1 x.2.2.2.1.length x.2.2.1) 42 1 x.2.2.2.1.length)])
   (fun j x V2 => V'.le V2 ∧ x.1 ≤ R.length ∧ R.length - x.1 = j ∧ x.2.2.2.1 = out ++ ((R.take x.1).filter (on a)).map (a ++ ·) ∧ (x.2.2.2.1 = [] → x.2.1 = none ∧ x.2.2.1 = 0) ∧ CellsAt (V.new V2) x.2.2.2.1 x.2.2.2.2 ∧ V2.cells (.slice x.2.1 x.2.2.2.1.length x.2.2.1) x.2.2.2.2)
   R.length (0, base, cp, out, cells) ?_ ?_ ?_ ?_
  ·repeat' (first | exact sees_nil | refine sees_cons rfl rfl rfl ?_)
  ·repeat' (first | exact keeps_nil | refine keeps_cons rfl ?_ | refine keeps_free ?_)
  ·exact ⟨View.le_refl _, Nat.zero_le _, by simp, by simp, hnil, hca, hcl⟩
  clear hnil hca hcl
  rintro j2 ⟨k, base2, cp2, out2, cells2⟩ V3 ⟨hV3, hk, hj2, hout2, hnil, hca, hcl⟩
  simp only at hk hj2 hout2 hnil hca hcl
  have hol2 : out2.length ≤ 930 := by
   rw [hout2, List.length_append]
   have h1 := pairs_len (on := on) a (R.take k)
   have h2 : (R.take k).length ≤ 30 := by rw [List.length_take]; omega
   have h3 : i * R.length ≤ 30 * 30 := Nat.mul_le_mul (by omega) hsR
   omega
  conv => whnf
  apply br <;> intro g2 <;> conv => whnf
  ·have hk1 : k < R.length := by have := of_decide_eq_true g2; omega
   obtain ⟨b, hb⟩ : ∃ b, R[k]? = some b := ⟨_, List.getElem?_eq_getElem hk1⟩
   have hbm := List.mem_of_getElem? hb
   have htk : (R.take (k + 1)).filter (on a) = (R.take k).filter (on a) ++ (if on a b then [b] else []) := by
    rw [List.take_add_one, hb, List.filter_append]
    congr 1
    show List.filter (on a) [b] = _
    by_cases h : on a b = true
    ·rw [if_pos h]; simp [h]
    ·rw [if_neg h]; simp [h]
   obtain ⟨p2, off2, cv2, rfl, hcell2, hrow2⟩ := hR.at hb
   obtain ⟨bb, bc, hbv, hbp, hbva⟩ := hrow2
   subst hbv
   have hwk := wrap_nat (i := k) (by omega)
   refine IdxN.of (by omega) (by omega) ?_; conv => whnf
   refine LoadN.of (hcell2.mono le_auto) 0 (by show off2 + k * 1 = off2 + k + 0; omega) rfl ?_; conv => whnf
   intro l2 Vl hVl hln
   conv => whnf
   refine CallN.pure (concat_new a b ab bb ac bc l2 _ hln hap hbp (hava.mono le_auto) (hbva.mono le_auto) (hwL a ham).1 (hwL a ham).2 (hwR b hbm)) fun v V4 _ hV4 hab => ?_
   obtain ⟨qb, qc, hqv⟩ := row_shape hab
   subst hqv; conv => whnf
   intro l3 V5 hV5 h5
   conv => whnf
   have h5 : V5.has l3 0 (xcells ⟨8, v0, noText, noText, son.1, son.2.1, son.2.2⟩) := h5
   refine CallN.pure (hon a ham b hbm _ _ le_auto ((hab.mono View.new_le).mono le_auto) l3 h5) fun v V6 _ hV6 hv => ?_
   subst hv; conv => whnf
   repeat' ((first | refine br_t rfl ?_ | refine br_f rfl ?_ | refine IdxN.lit rfl rfl ?_ | intro _); conv => whnf)
   apply br <;> intro g4 <;> conv => whnf
   ·rw [if_pos g4] at htk
    intro b3 V7 hV7 h6
    conv => whnf
    rcases out2 with _ | ⟨r0, out1⟩
    ·obtain ⟨rfl, rfl⟩ := hnil rfl
     conv => whnf
     have hce : cells2 = [] := List.eq_nil_of_length_eq_zero (by rw [hca.len]; rfl)
     refine AppN.to (([] : List (List Val)) ++ [a ++ b]).length rfl cells2 [.slice qb (a ++ b).length qc] (by rw [hce]; rfl) (by rw [hce]; rfl) h6 rfl rfl (by simp) (by decide) fun base' cap' V8 hV8 hc8 => ?_; conv => whnf
     refine ⟨j2 - 1, (k + 1, base', cap', ([] : List (List Val)) ++ [a ++ b], cells2 ++ [.slice qb (a ++ b).length qc]), by omega, ?_, ?_, ?_⟩
     ·repeat' (first | exact sees_nil | refine sees_cons rfl rfl rfl ?_ | refine sees_cons rfl rfl (by rw [← hwk]; rfl) ?_)
     ·repeat' (first | exact keeps_nil | refine keeps_cons rfl ?_ | refine keeps_free ?_)
     ·refine ⟨View.le_trans hV3 le_auto, hk1, by show _ - (k + 1) = _; omega, ?_, fun h => by simp at h, (hca.mono (View.new_step (View.le_refl _) le_auto)).snoc (hab.mono (View.new_step le_auto le_auto)), hc8⟩
      show ([] : List (List Val)) ++ [a ++ b] = _
      rw [htk, List.map_append, ← List.append_assoc, ← hout2]; rfl
    ·conv => whnf
     refine ⟨⟨63, _, rfl, ?_⟩⟩
     refine AppN.to ((r0 :: out1) ++ [a ++ b]).length (by simp) cells2 [.slice qb (a ++ b).length qc] (hcl.mono le_auto) (by rw [hca.len]; exact (Nat.mul_one _).symm) h6 rfl rfl (by simp only [List.length_append, List.length_cons, List.length_nil] at hol2 ⊢; omega) (by decide) fun base' cap' V8 hV8 hc8 => ?_; conv => whnf
     refine ⟨j2 - 1, (k + 1, base', cap', (r0 :: out1) ++ [a ++ b], cells2 ++ [.slice qb (a ++ b).length qc]), by omega, ?_, ?_, ?_⟩
     ·repeat' (first | exact sees_nil | refine sees_cons rfl rfl rfl ?_ | refine sees_cons rfl rfl (by rw [← hwk]; rfl) ?_)
     ·repeat' (first | exact keeps_nil | refine keeps_cons rfl ?_ | refine keeps_free ?_)
     ·refine ⟨View.le_trans hV3 le_auto, hk1, by show _ - (k + 1) = _; omega, ?_, fun h => by simp at h, (hca.mono (View.new_step (View.le_refl _) le_auto)).snoc (hab.mono (View.new_step le_auto le_auto)), hc8⟩
      show (r0 :: out1) ++ [a ++ b] = _
      rw [htk, List.map_append, ← List.append_assoc, ← hout2]; rfl
   ·rw [if_neg (by rw [g4]; simp), List.append_nil] at htk
    refine ⟨j2 - 1, (k + 1, base2, cp2, out2, cells2), by omega, ?_, ?_, ?_⟩
    ·repeat' (first | exact sees_nil | refine sees_cons rfl rfl rfl ?_ | refine sees_cons rfl rfl (by rw [← hwk]; rfl) ?_)
    ·repeat' (first | exact keeps_nil | refine keeps_cons rfl ?_ | refine keeps_free ?_)
    ·exact ⟨View.le_trans hV3 le_auto, hk1, by show _ - (k + 1) = _; omega, by show out2 = _; rw [htk]; exact hout2, hnil, hca.mono (View.new_step (View.le_refl _) le_auto), hcl.mono le_auto⟩
  ·have hk1 : ¬ k < R.length := by have := of_decide_eq_false g2; omega
   rw [List.take_of_length_le (by omega)] at hout2
   repeat' ((first | refine br_t rfl ?_ | refine br_f rfl ?_ | refine IdxN.lit rfl rfl ?_ | intro _); conv => whnf)
   refine ⟨j - 1, (i + 1, base2, cp2, out2, cells2), by omega, ?_, ?_, ?_⟩
   ·repeat' (first | exact sees_nil | refine sees_cons rfl rfl rfl ?_ | refine sees_cons rfl rfl (by rw [← hwi]; rfl) ?_)
   ·repeat' (first | exact keeps_nil | refine keeps_cons rfl ?_ | refine keeps_free ?_)
   ·exact ⟨View.le_trans hV hV3, hi1, by show _ - (i + 1) = _; omega, by show out2 = _; rw [hout2, htake, hout], hnil, hca, hcl⟩
 ·have hi1 : ¬ i < L.length := by have := of_decide_eq_false g1; omega
  rw [List.take_of_length_le (by omega)] at hout
  subst hout
  repeat' ((first | refine br_t rfl ?_ | refine br_f rfl ?_ | refine IdxN.lit rfl rfl ?_ | intro _); conv => whnf)
  exact ret_pure ⟨cb, cc, base, cp, cells, rfl, hc.mono le_auto, hcl, hca⟩
set_option maxHeartbeats 4000000 in
/-- a select's rows, of two tables -/
theorem rows2_new (s : StV) (t u : TabV) (rows R : List (List Val)) (rb ob : Option Addr) (rc oc : Nat) (Q : Value → View → Prop) (V : View) (hjn : s.join.toList ≠ []) (ht : TabOk V t) (hr : RowsAt V rows rb) (hs : rows.length ≤ 1000) (hw : ∀ r ∈ rows, r.length ≤ 1000)
  (hjd : ∀ V1, V.le V1 → PSpec 50 [stv s, tabv t, tabv u, .slice rb rows.length rc, .slice ob R.length oc] V1 Q) (hQ : ∀ v V', Q v V' → ∃ a b c d e f, v = .tuple #[.agg #[.slice a b c, .slice d e f], .int .i64 0]) :
  PSpec 19 [stv s, tabv t, tabv u, .slice rb rows.length rc, .slice ob R.length oc] V Q := by
 obtain ⟨skind, stb, snm, s3, s4, s5, sit, sjoin, son, swh, sord, sdesc, sinn⟩ := s
 obtain ⟨tnm, tp, tcols, tcap, tq, tql, tqc⟩ := t
 obtain ⟨unm, up, ucols, ucap, uq, uql, uqc⟩ := u
 simp only at hjn
 refine does_of_zfun [(5, [(0, []), (1, []), (2, []), (3, []), (4, []), (5, []), (6, []), (7, [])])] mixed (args := [.v _, .v _, .v _, .v _, .v _]) (ms := []) Tryz.func19 (by kernel_rfl) rfl ?_; conv => whnf
 repeat' ((first | refine br_t rfl ?_ | refine br_f rfl ?_ | refine IdxN.lit rfl rfl ?_ | intro _); conv => whnf)
 rename_i b5 b6 b7 b10 bt V1 hV1 h1
 refine CallN.pure (named_spec [⟨tnm, tp, tcols, tcap, tq, tql, tqc⟩] bt 1 1 _ h1 (fun t' ht' => by rw [List.mem_singleton.1 ht']; exact ht.mono le_auto) rfl (by show 1 ≤ 4; decide)) fun v V2 _ hV2 ⟨cb, cc, hv, hc⟩ => ?_
 simp only [List.flatMap_cons, List.flatMap_nil, List.append_nil] at hv hc
 subst hv; conv => whnf
 repeat' ((first | refine br_t rfl ?_ | refine br_f rfl ?_ | refine IdxN.lit rfl rfl ?_ | intro _); conv => whnf)
 rename_i b12
 refine loopz (σ := Nat × Option Addr × Nat × List (List Val) × List Value)
  (fun x => [(3, .v (.slice rb rows.length rc)), (4, .v (.slice ob R.length oc)), (5, .own 5 0), (6, .own 6 0), (7, .own 7 0), (10, .own 10 0), (12, .own 12 0), (19, .v (.slice rb rows.length rc)), (20, .v (.int .i64 rows.length)), (21, .v (.int .i64 x.1))])
  (fun x => (5, .box b5 30 [.int .i64 skind, .string stb, .string snm, .slice s3.1 s3.2.1 s3.2.2, .slice s4.1 s4.2.1 s4.2.2, .slice s5.1 s5.2.1 s5.2.2, .slice sit.1 sit.2.1 sit.2.2, .string sjoin, .slice son.1 son.2.1 son.2.2, .slice swh.1 swh.2.1 swh.2.2, .slice sord.1 sord.2.1 sord.2.2, .bool sdesc, .slice sinn.1 sinn.2.1 sinn.2.2]) ::
   (6, .box b6 33 [.string tnm, .slice (some ⟨tp, 0, none⟩) tcols.length tcap, .slice tq tql tqc]) :: (7, .box b7 33 [.string unm, .slice (some ⟨up, 0, none⟩) ucols.length ucap, .slice uq uql uqc]) :: (10, .box b10 63 [.slice none 0 0, .slice none 0 0]) :: (12, .box b12 63 [.slice cb (itemsOf ⟨tnm, tp, tcols, tcap, tq, tql, tqc⟩).length cc, .slice x.2.1 x.2.2.2.1.length x.2.2.1]) ::
   (match x.2.2.2.1 with | [] => [] | _ :: _ => [(30, .row (.slice x.2.1 x.2.2.2.1.length x.2.2.1) 42 1 x.2.2.2.1.length)]))
  (fun j x V' => V2.le V' ∧ x.1 ≤ rows.length ∧ rows.length - x.1 = j ∧ x.2.2.2.1 = rows.take x.1 ∧ (x.2.2.2.1 = [] → x.2.1 = none ∧ x.2.2.1 = 0) ∧ CellsAt V' x.2.2.2.1 x.2.2.2.2 ∧ V'.cells (.slice x.2.1 x.2.2.2.1.length x.2.2.1) x.2.2.2.2)
  rows.length (0, none, 0, [], []) ?_ ?_ ?_ ?_
 ·repeat' (first | exact sees_nil | refine sees_cons rfl rfl rfl ?_)
 ·repeat' (first | exact keeps_nil | refine keeps_cons rfl ?_ | refine keeps_free ?_)
 ·exact ⟨View.le_refl _, Nat.zero_le _, by simp, rfl, fun _ => ⟨rfl, rfl⟩, CellsAt.nil, rfl⟩
 rintro j ⟨i, base, cp, out, cells⟩ V' ⟨hV, hi, hj, hout, hnil, hca, hcl⟩
 simp only at hi hj hout hnil hca hcl
 rcases out with _ | ⟨r0, out1⟩
 ·obtain ⟨hb0, hcp0⟩ := hnil rfl
  subst hb0; subst hcp0
  conv => whnf
  apply br <;> intro h3 <;> conv => whnf
  ·have hi0 : (i : Int) < rows.length := of_decide_eq_true h3
   have hi1 : i < rows.length := by omega
   obtain ⟨r, hr1⟩ : ∃ r, rows[i]? = some r := ⟨_, List.getElem?_eq_getElem hi1⟩
   obtain ⟨p, off, c, rfl, hcell, hrow⟩ := hr.at hr1
   obtain ⟨rbase, rcap, hrv, hrp, hrva⟩ := hrow
   subst hrv
   refine IdxN.of (by omega) (by omega) ?_; conv => whnf
   refine LoadN.of (hcell.mono le_auto) 0 (by show off + i * 1 = off + i + 0; omega) rfl ?_; conv => whnf
   refine CallN.pure (clone_spec r rbase rcap _ hrp (hrva.mono le_auto) (hw r (List.mem_of_getElem? hr1))) fun v V3 _ hV3 hv => ?_
   obtain ⟨qb, qc, hqv⟩ := row_shape hv
   subst hqv
   refine Prot.refl ?_; conv => whnf
   repeat' ((first | refine br_t rfl ?_ | refine br_f rfl ?_ | refine IdxN.lit rfl rfl ?_ | intro _); conv => whnf)
   rename_i lb lk
   skip
   refine AppN.to (([] : List (List Val)) ++ [r]).length (by simp) cells [.slice qb r.length qc] (hcl.mono le_auto) (by rw [hca.len]; exact (Nat.mul_one _).symm) lk.has rfl rfl (by simp only [List.length_append, List.length_cons, List.length_nil]; have := congrArg List.length hout; rw [List.length_take] at this; simp only [List.length_cons, List.length_nil] at this; omega) (by decide) fun base' cap' V4 hV4 hc4 => ?_; conv => whnf
   have hwi := wrap_nat (i := i) (by omega)
   refine ⟨j - 1, (i + 1, base', cap', ([] : List (List Val)) ++ [r], cells ++ [.slice qb r.length qc]), by omega, ?_, ?_, ?_⟩
   ·repeat' (first | exact sees_nil | refine sees_cons rfl rfl rfl ?_ | refine sees_cons rfl rfl (by rw [← hwi]; rfl) ?_)
   ·repeat' (first | exact keeps_nil | refine keeps_cons rfl ?_ | refine keeps_free ?_)
   ·refine ⟨View.le_trans hV le_auto, hi1, by show _ - (i + 1) = _; omega, ?_, fun h => by simp at h, (hca.mono le_auto).snoc (hv.mono le_auto), hc4⟩
    show ([] : List (List Val)) ++ [r] = _
    rw [List.take_add_one, hr1, ← hout]; rfl
  ·have hi0 : ¬ (i : Int) < rows.length := of_decide_eq_false h3
   refine br_f (by rw [beq_eq_false_iff_ne]; intro h; exact hjn (by rw [h]; simp [ByteArray.toList_eq])) ?_; conv => whnf
   repeat' ((first | refine br_t rfl ?_ | refine br_f rfl ?_ | refine IdxN.lit rfl rfl ?_ | intro _); conv => whnf)
   refine CallN.pure (hjd _ le_auto) fun v V3 _ hV3 hq => ?_
   obtain ⟨q1, q2, q3, q4, q5, q6, hv⟩ := hQ v V3 hq
   subst hv; conv => whnf
   repeat' ((first | refine br_t rfl ?_ | refine br_f rfl ?_ | refine IdxN.lit rfl rfl ?_ | intro _); conv => whnf)
   exact ret_pure hq
 ·conv => whnf
  apply br <;> intro h3 <;> conv => whnf
  ·have hi0 : (i : Int) < rows.length := of_decide_eq_true h3
   have hi1 : i < rows.length := by omega
   obtain ⟨r, hr1⟩ : ∃ r, rows[i]? = some r := ⟨_, List.getElem?_eq_getElem hi1⟩
   obtain ⟨p, off, c, rfl, hcell, hrow⟩ := hr.at hr1
   obtain ⟨rbase, rcap, hrv, hrp, hrva⟩ := hrow
   subst hrv
   refine IdxN.of (by omega) (by omega) ?_; conv => whnf
   refine LoadN.of (hcell.mono le_auto) 0 (by show off + i * 1 = off + i + 0; omega) rfl ?_; conv => whnf
   refine CallN.pure (clone_spec r rbase rcap _ hrp (hrva.mono le_auto) (hw r (List.mem_of_getElem? hr1))) fun v V3 _ hV3 hv => ?_
   obtain ⟨qb, qc, hqv⟩ := row_shape hv
   subst hqv
   refine Prot.refl ?_; conv => whnf
   repeat' ((first | refine br_t rfl ?_ | refine br_f rfl ?_ | refine IdxN.lit rfl rfl ?_ | intro _); conv => whnf)
   rename_i lb lk
   refine ⟨⟨30, _, rfl, rfl, ?_⟩⟩
   refine AppN.to ((r0 :: out1) ++ [r]).length (by simp) cells [.slice qb r.length qc] (hcl.mono le_auto) (by rw [hca.len]; exact (Nat.mul_one _).symm) lk.has rfl rfl (by simp only [List.length_append, List.length_cons, List.length_nil]; have := congrArg List.length hout; rw [List.length_take] at this; simp only [List.length_cons, List.length_nil] at this; omega) (by decide) fun base' cap' V4 hV4 hc4 => ?_; conv => whnf
   have hwi := wrap_nat (i := i) (by omega)
   refine ⟨j - 1, (i + 1, base', cap', (r0 :: out1) ++ [r], cells ++ [.slice qb r.length qc]), by omega, ?_, ?_, ?_⟩
   ·repeat' (first | exact sees_nil | refine sees_cons rfl rfl rfl ?_ | refine sees_cons rfl rfl (by rw [← hwi]; rfl) ?_)
   ·repeat' (first | exact keeps_nil | refine keeps_cons rfl ?_ | refine keeps_free ?_)
   ·refine ⟨View.le_trans hV le_auto, hi1, by show _ - (i + 1) = _; omega, ?_, fun h => by simp at h, (hca.mono le_auto).snoc (hv.mono le_auto), hc4⟩
    show (r0 :: out1) ++ [r] = _
    rw [List.take_add_one, hr1, ← hout]; rfl
  ·have hi0 : ¬ (i : Int) < rows.length := of_decide_eq_false h3
   refine br_f (by rw [beq_eq_false_iff_ne]; intro h; exact hjn (by rw [h]; simp [ByteArray.toList_eq])) ?_; conv => whnf
   repeat' ((first | refine br_t rfl ?_ | refine br_f rfl ?_ | refine IdxN.lit rfl rfl ?_ | intro _); conv => whnf)
   refine CallN.pure (hjd _ le_auto) fun v V3 _ hV3 hq => ?_
   obtain ⟨q1, q2, q3, q4, q5, q6, hv⟩ := hQ v V3 hq
   subst hv; conv => whnf
   repeat' ((first | refine br_t rfl ?_ | refine br_f rfl ?_ | refine IdxN.lit rfl rfl ?_ | intro _); conv => whnf)
   exact ret_pure hq
theorem RowsN.weak {V V1 V3 : View} {its : List Item} {rows : List (List Val)} {v : Value} (hV : V.le V1) (h : RowsN V1 its rows v V3) : RowsN V its rows v V3 := by
 obtain ⟨cb, cc, rb', rc', cells, h1, h2, h3, h4⟩ := h
 exact ⟨cb, cc, rb', rc', cells, h1, h2, h3, h4.mono (View.new_step hV (View.le_refl _))⟩
def itemsU : List Item := [⟨0, txt [117], txt [107]⟩, ⟨0, txt [117], txt [114]⟩, ⟨0, txt [117], txt [110]⟩]
def itemsJ : List Item := itemsT ++ itemsU
theorem itemsJ_nodup : (itemsJ.map keyC).Nodup := by
 simp [itemsJ, itemsT, itemsU, keyC, txt, ByteArray.toList_eq]
theorem names_J : Names itemsJ := by
 refine ⟨fun i j x y hx hy h1 h2 => ?_, fun x hx => ?_⟩
 ·have e1 : (itemsJ.map keyC)[i]? = some (keyC x) := by rw [List.getElem?_map, hx]; rfl
  have e2 : (itemsJ.map keyC)[j]? = some (keyC y) := by rw [List.getElem?_map, hy]; rfl
  have e3 : keyC x = keyC y := by unfold keyC; rw [h1, h2]
  rw [e3] at e1
  have hlt := (List.getElem?_eq_some_iff.1 e1).1
  exact (List.getElem?_inj hlt itemsJ_nodup).1 (e1.trans e2.symm)
 ·simp only [itemsJ, itemsT, itemsU, List.cons_append, List.nil_append, List.mem_cons, List.not_mem_nil, or_false] at hx
  rcases hx with rfl | rfl | rfl | rfl | rfl | rfl <;> simp [txt, ByteArray.toList_eq]
theorem colsLie_U {V : View} {p : Nat} (h : V.has p 0 (colsU.flatMap ccells)) : ColsLie V colsU p := ⟨h, by decide, by decide⟩
section
variable {α β : Type}
def kOf (lt : α → α → Bool) (x : α) (l : List α) : Nat → Nat
 | 0 => 0
 | k + 1 => match l[k]? with
  | some y => if lt x y then kOf lt x l k else k + 1
  | none => k + 1
theorem kOf_le (lt : α → α → Bool) (x : α) (l : List α) : ∀ k, kOf lt x l k ≤ k
 | 0 => Nat.le_refl _
 | k + 1 => by
  rw [kOf]
  split
  ·split
   ·exact Nat.le_succ_of_le (kOf_le lt x l k)
   ·exact Nat.le_refl _
  ·exact Nat.le_refl _
def insAt (x : α) (l : List α) (k : Nat) : List α := l.take k ++ x :: l.drop k
theorem insAt_len (x : α) (l : List α) (k : Nat) : (insAt x l k).length = l.length + 1 := by
 unfold insAt
 have := congrArg List.length (List.take_append_drop k l)
 rw [List.length_append] at this ⊢
 rw [List.length_cons]; omega
def insF (lt : α → α → Bool) (x : α) (l : List α) : List α := insAt x l (kOf lt x l l.length)
def sortF (lt : α → α → Bool) (acc : List α) : List α → List α
 | [] => acc
 | x :: l => sortF lt (insF lt x acc) l
theorem kOf_map {lt : α → α → Bool} {lt' : β → β → Bool} {f : α → β} (h : ∀ x y, lt x y = lt' (f x) (f y)) (x : α) (l : List α) : ∀ k, kOf lt' (f x) (l.map f) k = kOf lt x l k
 | 0 => rfl
 | k + 1 => by
  rw [kOf, kOf, List.getElem?_map]
  cases l[k]? with
  | none => rfl
  | some y => simp only [Option.map_some]; rw [← h, kOf_map h x l k]
theorem insF_map {lt : α → α → Bool} {lt' : β → β → Bool} {f : α → β} (h : ∀ x y, lt x y = lt' (f x) (f y)) (x : α) (l : List α) : insF lt' (f x) (l.map f) = (insF lt x l).map f := by
 unfold insF insAt
 rw [List.length_map, kOf_map h, List.map_append, List.map_cons, List.map_take, List.map_drop]
theorem sortF_map {lt : α → α → Bool} {lt' : β → β → Bool} {f : α → β} (h : ∀ x y, lt x y = lt' (f x) (f y)) : ∀ (l acc : List α), sortF lt' (acc.map f) (l.map f) = (sortF lt acc l).map f
 | [], acc => rfl
 | x :: l, acc => by rw [List.map_cons, sortF, sortF, insF_map h, sortF_map h l]
theorem sortF_len (lt : α → α → Bool) : ∀ (l acc : List α), (sortF lt acc l).length = acc.length + l.length
 | [], acc => rfl
 | x :: l, acc => by rw [sortF, sortF_len lt l, insF, insAt_len, List.length_cons]; omega
theorem insF_mem {lt : α → α → Bool} {x y : α} {l : List α} (h : y ∈ insF lt x l) : y = x ∨ y ∈ l := by
 unfold insF insAt at h
 rcases List.mem_append.1 h with h | h
 ·exact .inr (List.mem_of_mem_take h)
 ·rcases List.mem_cons.1 h with h | h
  ·exact .inl h
  ·exact .inr (List.mem_of_mem_drop h)
theorem sortF_mem {lt : α → α → Bool} {y : α} : ∀ {l acc : List α}, y ∈ sortF lt acc l → y ∈ acc ∨ y ∈ l
 | [], acc, h => .inl h
 | x :: l, acc, h => by
  rw [sortF] at h
  rcases sortF_mem h with h | h
  ·rcases insF_mem h with rfl | h
   ·exact .inr List.mem_cons_self
   ·exact .inl h
  ·exact .inr (List.mem_cons_of_mem _ h)
end
/-- a row that is handed over as an own box, to be written -/
theorem Does.toBox {P : Program} {f : FuncId} {args : List Value} {V : View} {R : Value → View → List Res → Prop} {Q : Value → List Res → Prop} (h : Does P f args V [] R)
  (hR : ∀ v V' bs, V.le V' → R v V' bs → ∃ base cap n ty z known, v = .slice base n cap ∧ bs = [.row v ty z n] ∧ 0 < n ∧ known.length = n * z ∧ V'.cells v known ∧ ∀ g ex, base = some ⟨g, 0, none⟩ → Q v [.box g ty (known ++ ex)]) :
  Does P f args V [] (fun v V' bs => V' = V ∧ Q v bs) := by
 intro w hw
 refine (h w hw).mono fun e w' ⟨v, V', bs, he, hr, hp, hk, hg, hn⟩ => ?_
 obtain ⟨base, cap, n, ty, z, known, hv, hbs, h0, hl, hkn, hQ⟩ := hR v V' bs hg.1 hr
 subst hv; subst hbs
 have hok : Res.ok w' V' (.row (.slice base n cap) ty z n) := hp.ok 0 _ rfl
 rcases hok with ⟨base', _, h2⟩ | ⟨g, cap', cur, hv', hc0, hheap, hn1, hn2, hsz, hfree⟩
 ·omega
 simp only [Value.slice.injEq, true_and] at hv'
 obtain ⟨rfl, rfl⟩ := hv'
 have hkn : V'.has g 0 known := hkn
 have hbl : (Res.row (.slice (some ⟨g, 0, none⟩) n cap) ty z n).blk = some g := by simp [Res.blk, rowBlk, hc0]
 have hgn : w.heap.size ≤ g := by
  rcases hn g ⟨_, List.mem_cons_self, hbl⟩ with ⟨r, hr, _⟩ | h1
  ·cases hr
  ·exact h1
 have hnone : ∀ o, V g o = none := fun o => by
  cases hv : V g o with
  | none => rfl
  | some v => exact absurd (sub_lt hw.sub hv) (by omega)
 have hcur : cur.toList = known ++ cur.toList.drop (n * z) := by
  have e : cur.toList.take (n * z) = known := by
   apply List.ext_getElem?
   intro i
   rw [List.getElem?_take]
   split
   ·rename_i hi
    obtain ⟨x, hx⟩ : ∃ x, known[i]? = some x := ⟨_, List.getElem?_eq_getElem (by omega)⟩
    have := hp.sub g (0 + i) x (hkn i x hx)
    rw [World.cell?, hheap] at this
    simp only [Option.isSome_none, Bool.false_eq_true, if_false, Nat.zero_add] at this
    rw [hx, ← this]
    simp
   ·rw [List.getElem?_eq_none (by omega)]
  rw [← e, List.take_append_drop]
 refine ⟨_, V, [.box g ty (known ++ cur.toList.drop (n * z))], he, ⟨rfl, hQ _ _ rfl⟩, ⟨fun b o v hv => hp.sub b o v (hg.1 b o v hv), ?_, ?_⟩, hk, ⟨View.le_refl _, fun _ _ _ h => .inl h⟩, ?_⟩
 ·intro i r hr
  cases i with
  | zero =>
   simp only [List.getElem?_cons_zero, Option.some.injEq] at hr
   subst hr
   exact ⟨by rw [← hcur]; exact hheap, hnone⟩
  | succ i => simp at hr
 ·intro i j r r' c hij hi hj _ _
  have e1 : i = 0 := by have := (List.getElem?_eq_some_iff.1 hi).1; simp only [List.length_cons, List.length_nil] at this; omega
  have e2 : j = 0 := by have := (List.getElem?_eq_some_iff.1 hj).1; simp only [List.length_cons, List.length_nil] at this; omega
  exact absurd (e1.trans e2.symm) hij
 ·rintro c ⟨r, hr, hc⟩
  right
  rw [List.mem_singleton.1 hr] at hc
  simp only [Res.blk, Option.some.injEq] at hc
  omega
/-- an own box, if there is one, that is written no more -/
theorem Does.freeze2 {P : Program} {f : FuncId} {args : List Value} {V : View} {bs0 : List Res} {R : Value → View → List Res → Prop} {Q : Value → View → Prop} (h : Does P f args V bs0 R)
  (hR : ∀ v V' bs, V.le V' → R v V' bs → (bs = [] ∧ Q v V') ∨ ∃ g ty cells, bs = [.box g ty cells] ∧ (V'.le (V'.add g cells) → (∀ o, V' g o = none) → Q v (V'.add g cells))) : Does P f args V bs0 (fun v V' bs => bs = [] ∧ Q v V') := by
 intro w hw
 refine (h w hw).mono fun e w' ⟨v, V', bs, he, hr, hp, hk, hg, hn⟩ => ?_
 rcases hR v V' bs hg.1 hr with ⟨hbs, hQ⟩ | ⟨g, ty, cells, hbs, hQ⟩
 ·subst hbs
  exact ⟨v, V', [], he, ⟨rfl, hQ⟩, hp, hk, hg, hn⟩
 subst hbs
 obtain ⟨hheap, hnone⟩ : w'.heap[g]? = some (.cells cells.toArray ty (0, 0)) ∧ ∀ o, V' g o = none := hp.ok 0 _ rfl
 have hle := View.add_le (cells := cells) hnone
 refine ⟨v, V'.add g cells, [], he, ⟨rfl, hQ hle hnone⟩, ⟨fun b o u hu => ?_, fun i r hr => by simp at hr, fun i j r r' c _ hr => by simp at hr⟩, hk, ⟨View.le_trans hg.1 hle, fun b o u hu => ?_⟩, fun b ⟨r, hr, _⟩ => by cases hr⟩
 ·unfold View.add at hu
  split at hu
  ·rename_i hb; subst hb; rw [cell_box hheap]; exact hu
  ·exact hp.sub b o u hu
 ·unfold View.add at hu
  split at hu
  ·rename_i hb
   subst hb
   exact .inr ((hn b ⟨_, List.mem_cons_self, rfl⟩).symm)
  ·exact hg.2 b o u hu
/-- a copy of a slice of slices, to be written -/
theorem clone74_spec (cells : List Value) (p off c : Nat) (V : View) (h : V.has p off cells) (h0 : cells ≠ []) (h1 : allOne cells = true) (hl : cells.length ≤ 1000) :
  Does Tryz.prog 61 [.slice (some ⟨p, off, none⟩) cells.length c] V [] (fun v V' bs => V' = V ∧ ∃ g cap ex, v = .slice (some ⟨g, 0, none⟩) cells.length cap ∧ bs = [.box g 42 (cells ++ ex)]) := by
 have hpos : 0 < cells.length := List.length_pos_iff.2 h0
 have main : Does Tryz.prog 61 [.slice (some ⟨p, off, none⟩) cells.length c] V [] (fun v V' bs => ∃ base cap, v = .slice base cells.length cap ∧ bs = [.row v 42 1 cells.length] ∧ V'.cells v cells) := by
  refine does_of_zfun [] mixed (args := [.v _]) (ms := []) Tryz.func61 (by kernel_rfl) rfl ?_; conv => whnf
  repeat' ((first | refine br_t rfl ?_ | refine br_f rfl ?_ | refine IdxN.lit rfl rfl ?_ | intro _); conv => whnf)
  rename_i b1 V1 hV1 hb1
  refine AppN.to cells.length (Nat.zero_add _) [] cells hb1 rfl (show V1.has p off cells from (h.mono le_auto)) (Nat.mul_one _).symm h1 (by omega) (by decide) fun base' cap' V3 hV3 hc3 => ?_; conv => whnf
  exact ⟨[7], by simp, [_], rfl, base', cap', rfl, rfl, hc3⟩
 refine (Does.toBox (Q := fun v bs => ∃ g cap ex, v = .slice (some ⟨g, 0, none⟩) cells.length cap ∧ bs = [.box g 42 (cells ++ ex)]) main fun v V' bs _ ⟨base, cap, hv, hb, hh⟩ => ?_)
 exact ⟨base, cap, cells.length, _, 1, cells, hv, hb, hpos, (Nat.mul_one _).symm, hh, fun g ex hb => ⟨g, cap, ex, by rw [hv, hb], rfl⟩⟩
end Go.Proofs.YtenpginanhnkbaaGreat
end
