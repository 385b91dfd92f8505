/-
 GateBusy answers true at every input, and its arguments read afterwards as they did. Conditions: none beyond the row's own.
-/
import Derived.Test.YtepojdlgfmmjgaaGreatGBS
import Derived.Test.YtepojdlgfmmjgaaGreatGBA
import Derived.Test.YtepojdlgfmmjgaaGreatGBB
import Derived.Test.YtepojdlgfmmjgaaGreatGBC
import Derived.Test.YtepojdlgfmmjgaaGreatXZ
import Derived.Test.YtepojdlgfmmjgaaGreatLP
import Derived.Test.YtepojdlgfmmjgaaGreatRows
import Derived.WalkKit
import Derived.ProofKit
import Derived.OpenShut
import Derived.JoinedCond
set_option linter.unusedSimpArgs false
set_option linter.unusedVariables false
set_option linter.unusedSectionVars false
set_option linter.deprecated false
section
namespace Go.Proofs.YtepojdlgfmmjgaaGreat.gateBusy
open Go.ChangeShapes Go.WideShapes Go.ChangeAt Go.RowKit Go.X Go.Proofs.LB Go.Z
theorem block_of {w : World} {b : Nat} {x : Nat × Nat} (h : w.shape? b = some x) : ∃ cs t fr, w.heap[b]? = some (.cells cs t fr) := by
 unfold World.shape? at h
 split at h
 ·exact ⟨_, _, _, by assumption⟩
 ·cases h
set_option maxRecDepth 100000 in
theorem open_lab {H : Type} {enc : TypeId × Value → H} {w : World} {r : Reach} {b0 : Nat} {v : Value} {d : DataW H} {ps : List MemPlace} (hval : Value.okWide Tryz.prog w r b0 23 v) (h : DataW.Trod enc Tryz.prog w 0 (fun _ => true) true 23 v d ps) :
  ∃ a : Lab, v = a.slice ∧ a.at (viewOf w) ∧ ∃ m, ArgOf w m a.slice a.l := by
 obtain ⟨base, cap, l, hv, hc, hwf, _⟩ := open_nums Tryz.underlying23 Tryz.underlying68 (by kernel_rfl) (fun c x hc hx => by
  obtain ⟨a, n, cp, rfl⟩ := okWide_slice Tryz.underlying23 hval
  rw [hx] at hc
  simpa [Value.cells] using hc) h
 have hnum : ∀ x ∈ l, 0 ≤ x ∧ x < 65536 := fun x hx => by
  have h2 : (decide ((0 : Int) ≤ x) && decide (x ≤ 65535)) = true := hwf x hx
  rw [Bool.and_eq_true, decide_eq_true_iff, decide_eq_true_iff] at h2
  omega
 subst hv
 refine ⟨⟨base, cap, l⟩, rfl, ⟨hc, hnum⟩, ?_⟩
 simp only [Value.okWide, Tryz.underlying23, Cell.okWide] at hval
 cases base with
 | none =>
  have hl : l = [] := by
   cases l with
   | nil => rfl
   | cons x l => obtain ⟨p, off, hb, _⟩ := hc (by simp); cases hb
  subst hl
  have hcap : cap = 0 := by
   cases cap with
   | zero => rfl
   | succ n => simp [Cell.ok, Tryz.underlying23] at hval
  subst hcap
  exact ⟨0, .nil⟩
 | some a =>
  have hh : w.has Tryz.prog r b0 a 68 cap := by
   simp [Cell.ok, Tryz.underlying23] at hval
   exact hval.2.2
  obtain ⟨_, hs, row, cells, hsh, _⟩ := hh
  obtain ⟨b, off, spot⟩ := a
  simp only at hs
  subst hs
  obtain ⟨cs, t, fr, hb⟩ := block_of hsh
  refine ⟨l.length + 1, .some hb fun i x hx => ?_⟩
  obtain ⟨p, off', he, hh⟩ := hc (by intro e; subst e; simp at hx)
  cases he
  have h1 : w.cell? ⟨b, off + i, none⟩ = some (.int .u16 x) := hh i _ (by rw [List.getElem?_map, hx]; rfl)
  simpa [World.cell?, hb] using h1
set_option maxRecDepth 100000 in
theorem open_tags {H : Type} {enc : TypeId × Value → H} {w : World} {r : Reach} {b0 : Nat} {v : Value} {d : DataW H} {ps : List MemPlace} (hval : Value.okWide Tryz.prog w r b0 22 v) (h : DataW.Trod enc Tryz.prog w 0 (fun _ => true) true 22 v d ps) :
  ∃ a : Lab, v = a.slice ∧ a.at (viewOf w) ∧ ∃ m, ArgOf w m a.slice a.l := by
 obtain ⟨base, cap, l, hv, hc, hwf, _⟩ := open_nums Tryz.underlying22 Tryz.underlying68 (by kernel_rfl) (fun c x hc hx => by
  obtain ⟨a, n, cp, rfl⟩ := okWide_slice Tryz.underlying22 hval
  rw [hx] at hc
  simpa [Value.cells] using hc) h
 have hnum : ∀ x ∈ l, 0 ≤ x ∧ x < 65536 := fun x hx => by
  have h2 : (decide ((0 : Int) ≤ x) && decide (x ≤ 65535)) = true := hwf x hx
  rw [Bool.and_eq_true, decide_eq_true_iff, decide_eq_true_iff] at h2
  omega
 subst hv
 refine ⟨⟨base, cap, l⟩, rfl, ⟨hc, hnum⟩, ?_⟩
 simp only [Value.okWide, Tryz.underlying22, Cell.okWide] at hval
 cases base with
 | none =>
  have hl : l = [] := by
   cases l with
   | nil => rfl
   | cons x l => obtain ⟨p, off, hb, _⟩ := hc (by simp); cases hb
  subst hl
  have hcap : cap = 0 := by
   cases cap with
   | zero => rfl
   | succ n => simp [Cell.ok, Tryz.underlying22] at hval
  subst hcap
  exact ⟨0, .nil⟩
 | some a =>
  have hh : w.has Tryz.prog r b0 a 68 cap := by
   simp [Cell.ok, Tryz.underlying22] at hval
   exact hval.2.2
  obtain ⟨_, hs, row, cells, hsh, _⟩ := hh
  obtain ⟨b, off, spot⟩ := a
  simp only at hs
  subst hs
  obtain ⟨cs, t, fr, hb⟩ := block_of hsh
  refine ⟨l.length + 1, .some hb fun i x hx => ?_⟩
  obtain ⟨p, off', he, hh⟩ := hc (by intro e; subst e; simp at hx)
  cases he
  have h1 : w.cell? ⟨b, off + i, none⟩ = some (.int .u16 x) := hh i _ (by rw [List.getElem?_map, hx]; rfl)
  simpa [World.cell?, hb] using h1
theorem post_below {H : Type} {enc : TypeId × Value → H} {P : Program} {f : Func} {s : ChangeSpec} {apart fresh handsOn again : Bool} {W W' : World} {args : Array Value} {v : Value} {ds gs : List (DataW H)} {before pa pv : List MemPlace}
  (hW : DataW.Whole enc P f.params.toList s.vars apart W args.toList ds gs before)
  (hres : ∀ (b : Nat) (sp : Nat → Bool) (hd : Bool), DataW.TrodAll enc P W' b sp hd f.resultTypes.toList (v.resultList f.resultTypes.size) (s.fn H (ds ++ gs)).results [])
  (hargs : ∀ sp : Nat → Bool, (∀ p ∈ before, sp p.block = true) → DataW.TrodAll enc P W' 0 sp true f.params.toList args.toList (s.fn H (ds ++ gs)).args pa)
  (hvars : ∀ sp : Nat → Bool, (∀ p ∈ before, sp p.block = true) → DataW.TrodVars enc P W' sp s.vars (s.fn H (ds ++ gs)).vars pv)
  (hps : before = pa ++ pv) (hk : Below W.heap.size W W')
  (hok : ∀ (j : Nat) (t : TypeId) (r : Value), f.resultTypes[j]? = some t → (v.resultList f.resultTypes.size)[j]? = some r → Value.okWide P W' .any 0 t r) :
  s.post enc P f apart fresh handsOn again W args v W' := by
 have hlt : ∀ p ∈ before, p.block < W.heap.size := fun p hp => hW.lt p hp
 have hold : ∀ p ∈ before, (fun b => decide (b < W.heap.size)) p.block = true := fun p hp => by simpa using hlt p hp
 refine ⟨ds, gs, before, [], pa, pv, hW, hres _ _ _, hargs _ hold, hvars _ hold, World.keptBut_mono (fun p hp => ⟨hp, ?_⟩) (hk.frame (· ∈ before)), fun _ => ?_⟩
 ·rw [hps, List.mem_append] at hp
  exact Or.inr hp
 ·obtain ⟨_, _, _, _, _, hz, hn⟩ := hW
  refine ⟨hok, _, _, ([] ++ pa) ++ pv, ⟨[] ++ pa, pv, trodAll_append (hargs _ (fun _ _ => rfl)) (hres _ _ _), hvars _ (fun _ _ => rfl), rfl, fun b off hp => ?_, fun ha => ?_⟩, fun p hp _ => ?_⟩
  ·have hp : MemPlace.cell b off ∈ before := by rw [hps]; simpa using hp
   rw [hk.frozen (p := ⟨b, off, none⟩) (hlt _ hp)]
   exact hz b off hp
  ·have := hn ha
   rw [hps] at this
   simpa using this
  ·rw [hps]
   simpa using hp
theorem one_le {H : Type} (d : DataW H) : 1 ≤ Rows.uptoBulk d := by
 cases d with
 | lit l => cases l <;> simp [Rows.uptoBulk]
 | nil => simp [Rows.uptoBulk]
 | ptr d => simp [Rows.uptoBulk]
 | slice elems spare => simp [Rows.uptoBulk]
 | agg parts => simp [Rows.uptoBulk]
 | iface t d => simp [Rows.uptoBulk]
 | map entries => simp [Rows.uptoBulk]
 | held h => simp [Rows.uptoBulk]
theorem length_le {H : Type} (l : List (DataW H)) : l.length ≤ Rows.uptoBulkAll l := by
 induction l with
 | nil => simp [Rows.uptoBulkAll]
 | cons x r ih => have := one_le x; simp only [Rows.uptoBulkAll, List.length_cons]; omega
theorem slice_le {H : Type} (elems spare : List (DataW H)) : elems.length + spare.length + 1 ≤ Rows.uptoBulk (.slice elems spare) := by
 have h1 := length_le elems
 have h2 := length_le spare
 simp only [Rows.uptoBulk]
 omega
theorem lab_bulk {H : Type} {enc : TypeId × Value → H} {w : World} {base : Option Addr} {cap : Nat} {l : List Int} {d : DataW H} {ps : List MemPlace} (h : DataW.Trod enc Tryz.prog w 0 (fun _ => true) true 23 (.slice base l.length cap) d ps) : l.length ≤ Rows.uptoBulk d := by
 obtain ⟨fuel, h⟩ := h
 rcases open_ints Tryz.underlying23 Tryz.underlying68 (by kernel_rfl) h with ⟨h1, hx⟩ | ⟨a, len, cap', zs, h1, _, hlc, hcm, hz, hx, hcell, hwf⟩
 ·simp [Value.cells] at h1
  obtain ⟨_, h0, _⟩ := h1
  subst h0
  exact Nat.zero_le _
 ·simp [Value.cells] at h1
  obtain ⟨rfl, rfl, rfl⟩ := h1
  simp only [Prod.mk.injEq] at hx
  obtain ⟨rfl, rfl⟩ := hx
  have h2 := slice_le (H := H) (lits .u16 (zs.take l.length)) (lits .u16 (zs.drop l.length))
  have h3 : (lits (H := H) .u16 (zs.take l.length)).length = (zs.take l.length).length := by simp [lits]
  rw [h3, List.length_take, hz] at h2
  simp only [if_true] at h2
  omega
theorem tags_bulk {H : Type} {enc : TypeId × Value → H} {w : World} {base : Option Addr} {cap : Nat} {l : List Int} {d : DataW H} {ps : List MemPlace} (h : DataW.Trod enc Tryz.prog w 0 (fun _ => true) true 22 (.slice base l.length cap) d ps) : l.length ≤ Rows.uptoBulk d := by
 obtain ⟨fuel, h⟩ := h
 rcases open_ints Tryz.underlying22 Tryz.underlying68 (by kernel_rfl) h with ⟨h1, hx⟩ | ⟨a, len, cap', zs, h1, _, hlc, hcm, hz, hx, hcell, hwf⟩
 ·simp [Value.cells] at h1
  obtain ⟨_, h0, _⟩ := h1
  subst h0
  exact Nat.zero_le _
 ·simp [Value.cells] at h1
  obtain ⟨rfl, rfl, rfl⟩ := h1
  simp only [Prod.mk.injEq] at hx
  obtain ⟨rfl, rfl⟩ := hx
  have h2 := slice_le (H := H) (lits .u16 (zs.take l.length)) (lits .u16 (zs.drop l.length))
  have h3 : (lits (H := H) .u16 (zs.take l.length)).length = (zs.take l.length).length := by simp [lits]
  rw [h3, List.length_take, hz] at h2
  simp only [if_true] at h2
  omega
theorem own : ownKnob Tryz.prog.godebug = none := by kernel_rfl
theorem laid : laidOutB Tryz.prog = true := j1
set_option maxRecDepth 100000 in
theorem lifted (os : Os) (started : os.Started) (H : Type) (enc : TypeId × Value → H) (F : Stop.Interp) :
  ReturnsInHanded {} Tryz.checked os 6 .any ((Rows.OpenSpec.upto Rows.gateBusySpec).pre6 enc Tryz.prog Tryz.f6 Rows.gateBusyUptoRow.domain false) (((Rows.OpenSpec.upto Rows.gateBusySpec).at F).post enc Tryz.prog Tryz.f6 false true false false) := by
 refine returnsInHanded_of_cond (C := Tryz.checked) (s := Rows.OpenSpec.upto Rows.gateBusySpec) (k := Rows.uptoSmall) rfl own started (by kernel_rfl) Tryz.func6
  (OpenSpec.witness (enc := enc) (C := Tryz.checked) (s := Rows.OpenSpec.upto Rows.gateBusySpec) (k := Rows.uptoSmall) rfl false ⟨#[], #[.slice none 0 0, .slice none 0 0, .bool false, .bool false], []⟩ 8 (by kernel_rfl) (by kernel_rfl) (by kernel_rfl)
   (x := ([.nil, .nil, .lit (.bool false), .lit (.bool false)], [], [])) (by kernel_rfl) rfl (by kernel_rfl)) ?_
 intro W base args ds gs before hval0 hW _ hk _
 have hval : ∀ (j : Nat) t v, Tryz.f6.params[j]? = some t → args[j]? = some v → Value.okWide Tryz.prog W .any base t v := hval0
 have hW' := hW
 obtain ⟨p, q, hA0, hV, rfl, hfz, hnd⟩ := hW
 have hA : DataW.TrodAll enc Tryz.prog W 0 (fun _ => true) true Tryz.f6.params.toList args.toList ds p := hA0
 have hAk := hA
 obtain ⟨rfl, rfl⟩ := trodVars_none hV
 have hlt : ∀ x ∈ p, x.block < W.heap.size := fun x hx => hW'.lt x (by simpa using hx)
 rw [Tryz.params6] at hA hval
 obtain ⟨v0, vs0, d0, ds0, p0, q0, hargs, rfl, rfl, h0, r0⟩ := trodAll_cons hA
 obtain ⟨v1, vs1, d1, ds1, p1, q1, rfl, rfl, rfl, h1, r1⟩ := trodAll_cons r0
 obtain ⟨v2, vs2, d2, ds2, p2, q2, rfl, rfl, rfl, h2, r2⟩ := trodAll_cons r1
 obtain ⟨v3, vs3, d3, ds3, p3, q3, rfl, rfl, rfl, h3, r3⟩ := trodAll_cons r2
 obtain ⟨rfl, rfl, rfl⟩ := trodAll_nil r3
 obtain rfl : args = #[v0, v1, v2, v3] := by cases args; simp_all
 obtain ⟨a0, rfl, ha0, m0, qa0⟩ := open_lab (hval 0 23 v0 rfl rfl) h0
 obtain ⟨a1, rfl, ha1, m1, qa1⟩ := open_lab (hval 1 23 v1 rfl rfl) h1
 obtain ⟨x2, rfl, rfl, rfl⟩ := open_bool Tryz.underlying4 (hval 2 4 v2 rfl rfl) h2
 obtain ⟨x3, rfl, rfl, rfl⟩ := open_bool Tryz.underlying4 (hval 3 4 v3 rfl rfl) h3
 have hk2 := of_decide_eq_true hk
 simp only [List.append_nil, Rows.uptoBulkAll] at hk2
 have hb0 := lab_bulk (l := a0.l) h0
 have hb1 := lab_bulk (l := a1.l) h1
 clear hA0 hval0
 refine (busy_said (hL := by omega) ha0 qa0 ha1 qa1 x2 x3).mono fun e W' ⟨he, hk⟩ => ?_
 subst he
 exact ⟨_, rfl, post_below (pv := []) hW' (fun _ _ _ => (trodAll_cons_mk (shut_bool Tryz.underlying4 _) trodAll_mk0)) (fun sp hsp => trodAll_stays laid hk.block (by kernel_rfl) hAk hlt (fun x hx => hsp x (List.mem_append_left _ hx))) (fun _ _ => rfl) rfl
  hk (ok_one (by kernel_rfl) rfl (okWide_bool_mk Tryz.underlying4 _))⟩
theorem and2 {a b : Bool} (h : a = true) (k : b = true) : (a && b) = true := by rw [h, k]; rfl
set_option maxRecDepth 100000 in
theorem joined : joinedFacts Tryz.prog 6 Tryz.f6 (Rows.OpenSpec.upto Rows.gateBusySpec).bare Rows.gateBusyUptoRow = true := by
 unfold joinedFacts
 exact and2 (and2 (and2 (and2 (and2 (and2 (and2 (and2 (and2 (and2 (and2 (and2 (and2 (and2 (and2 (and2 (and2 (and2 (and2 (and2 (and2 (and2 (and2 (and2 (and2 (and2 (and2 (and2 (and2 (and2 (and2 j0 j1) j2) j3) j4) j5) j6) j7) j8) j9) j10) j11) j12) j13) j14) j15) j16) j17) j18) j19) j20) j21) j22) j23) j24) j25) j26) j27) j28) j29) j30) j31
theorem over : Rows.gateBusyUptoRow.holds Tryz.pinned (Rows.OpenSpec.upto Rows.gateBusySpec) :=
 OpenClaim.holds_of_cond 6 Tryz.f6 rfl rfl rfl rfl rfl rfl rfl ⟨rfl, rfl, rfl, rfl, rfl⟩ rfl rfl rfl rfl rfl (by kernel_rfl) Tryz.func6 joined
  (of_decide_eq_true (by kernel_rfl)) (by unfold Func.isWrapper; first | (rw [if_pos (by decide +kernel)]; kernel_rfl) | (rw [if_neg (by decide +kernel)]; exact ⟨rfl, rfl⟩))
  (fun os started H enc _ F => lifted os started H enc F)
theorem proved : Rows.GateBusyUptoSaid :=
 over
end Go.Proofs.YtepojdlgfmmjgaaGreat.gateBusy
end
