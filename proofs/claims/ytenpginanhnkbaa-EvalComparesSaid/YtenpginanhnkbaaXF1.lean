/- One part of a proof: an evaluator of the model, shown right, and contracts that it yields. No condition beyond those that each theorem names. -/
import Derived.Test.YtenpginanhnkbaaXE3
import Derived.ChangeSame
namespace Go.X
open Go.RowKit Go.ChangeShapes Go.WideShapes

/-! ## from a contract to a row -/
theorem keptBut_of_kept {M : Nat → Prop} (hM : ∀ b, ¬ M b) {w w' : World} (h : Kept M w w') (may : MemPlace → Prop) : w.keptBut w' may := by
  refine ⟨h.os, h.output, fun i hi => ?_⟩
  rw [h.block i hi (hM i)]
  split
  · rename_i h1 h2
    rw [h1] at h2
    simp only [Option.some.injEq, Obj.cells.injEq] at h2
    obtain ⟨rfl, rfl, rfl⟩ := h2
    exact ⟨rfl, rfl, rfl, fun _ _ => rfl⟩
  · rename_i h1 h2
    rw [h1] at h2
    simp only [Option.some.injEq, Obj.map.injEq] at h2
    obtain ⟨rfl, rfl⟩ := h2
    exact .inr ⟨rfl, rfl⟩
  · rfl
theorem frozen_of_kept {M : Nat → Prop} (hM : ∀ b, ¬ M b) {w w' : World} (h : Kept M w w') {a : Addr} (ha : a.block < w.heap.size) : w'.frozen? a = w.frozen? a := by
  simp only [World.frozen?, h.block a.block ha (hM _)]

/-- what came in reads as it did, and is the same memory; what was made lies behind it -/
theorem post_kept {H : Type} {enc : TypeId × Value → H} {P : Program} {f : Func} {s : ChangeSpec} {apart fresh handsOn again : Bool} {W W' : World} {args : Array Value} {v : Value} {ds gs : List (DataW H)} {before pa pv : List MemPlace}
    (hW : DataW.Whole enc P f.params.toList s.vars apart W args.toList ds gs before)
    (hres : ∀ (b : Nat) (sp : Nat → Bool) (hd : Bool), DataW.TrodAll enc P W' b sp hd f.resultTypes.toList (v.resultList f.resultTypes.size) (s.fn H (ds ++ gs)).results [])
    (hargs : ∀ sp : Nat → Bool, (∀ p ∈ before, sp p.block = true) → DataW.TrodAll enc P W' 0 sp true f.params.toList args.toList (s.fn H (ds ++ gs)).args pa)
    (hvars : ∀ sp : Nat → Bool, (∀ p ∈ before, sp p.block = true) → DataW.TrodVars enc P W' sp s.vars (s.fn H (ds ++ gs)).vars pv)
    (hps : before = pa ++ pv) {M : Nat → Prop} (hM : ∀ b, ¬ M b) (hk : Kept M W W')
    (hok : ∀ (j : Nat) (t : TypeId) (r : Value), f.resultTypes[j]? = some t → (v.resultList f.resultTypes.size)[j]? = some r → Value.okWide P W' .any 0 t r) :
    s.post enc P f apart fresh handsOn again W args v W' := by
  have hlt : ∀ p ∈ before, p.block < W.heap.size := fun p hp => hW.lt p hp
  have hold : ∀ p ∈ before, (fun b => decide (b < W.heap.size)) p.block = true := fun p hp => by simpa using hlt p hp
  refine ⟨ds, gs, before, [], pa, pv, hW, hres _ _ _, hargs _ hold, hvars _ hold, World.keptBut_mono (fun p hp => ⟨hp, ?_⟩) (keptBut_of_kept hM hk (· ∈ before)), fun _ => ?_⟩
  · rw [hps, List.mem_append] at hp
    exact Or.inr hp
  · obtain ⟨_, _, _, _, _, hz, hn⟩ := hW
    refine ⟨hok, _, _, ([] ++ pa) ++ pv, ⟨[] ++ pa, pv, trodAll_append (hargs _ (fun _ _ => rfl)) (hres _ _ _), hvars _ (fun _ _ => rfl), rfl, fun b off hp => ?_, fun ha => ?_⟩, fun p hp _ => ?_⟩
    · have hp : MemPlace.cell b off ∈ before := by rw [hps]; simpa using hp
      rw [frozen_of_kept hM hk (hlt _ hp)]
      exact hz b off hp
    · have := hn ha
      rw [hps] at this
      simpa using this
    · rw [hps]
      simpa using hp
/-- a contract that is handed nothing, as a call -/
theorem Does.call {P : Program} {f : FuncId} {args : List Value} {V : View} {R : Value → View → List Res → Prop} (h : Does P f args V [] R) {w : World} (hs : Sub V w) :
    Calls P f args.toArray w fun e w' => (∃ v V' bs, e = .returned v ∧ R v V' bs) ∧ Kept (blksOf []) w w' :=
  (h w ⟨hs, fun i r hi => by simp at hi, fun i j r r' b _ hi => by simp at hi⟩).mono fun e w' ⟨v, V', bs, he, hr, _, hk, _, _⟩ => ⟨⟨v, V', bs, he, hr⟩, hk⟩
theorem blks_nil : ∀ b, ¬ blksOf [] b := fun b ⟨r, hr, _⟩ => by cases hr
end Go.X
