/- One part of a proof: an evaluator of the model, shown right, and contracts that it yields. No condition beyond those that each theorem names. -/
import Derived.Test.YtnhllgedoimhkaaGreatDoorZE
import Derived.Below
import Derived.CallsIn
set_option linter.unusedSimpArgs false
set_option linter.unusedVariables false
set_option linter.unusedSectionVars false
set_option linter.deprecated false
section
namespace Go.Z
open Go.X
open Go.RowKit
section
variable {α : Type}
end
def keysOf (q : IntKind) : List (Value × Value) → Option (List Int)
 | [] => some []
 | (.int q' k, _) :: r => if q' = q then (match keysOf q r with | some ks => some (k :: ks) | none => none) else none
 | _ :: _ => none
theorem keysOf_eq {q : IntKind} : ∀ {es : List (Value × Value)} {ks : List Int}, keysOf q es = some ks → es.map (·.1) = ks.map (Value.int q)
 | [], ks, h => by cases h; rfl
 | (k, v) :: r, ks, h => by
  unfold keysOf at h
  split at h
  ·rename_i he; cases he
  ·rename_i q' k' v' r' he
   cases he
   split at h
   ·rename_i hq
    subst hq
    split at h
    ·rename_i ks' hks
     cases h
     simp [keysOf_eq hks]
    ·cases h
   ·cases h
  ·cases h
section
variable {P : Program} {σ : Nat → Nat → Value} {w0 : World} {h : Heap} {ρ : Ren} {w : World}
theorem WI.below (k : WI σ w0 h ρ w) {W : World} (hB : Below w.heap.size w W) : WI σ w0 h ρ W := by
 have hb : ∀ n b c, ρ n = some (b, c) → W.heap[b]? = w.heap[b]? := fun n b c hn => hB.block b (k.lt n b c hn)
 refine ⟨fun n b c o hn ho => ?_, fun n b c hn => Nat.lt_of_lt_of_le (k.lt n b c hn) hB.size, k.inj, k.own, k.old, ?_⟩
 ·rw [hb n b c hn]; exact k.rel n b c o hn ho
 ·exact ⟨hB.os.trans k.kept.os, hB.tape.trans k.kept.tape, hB.output.trans k.kept.output, Nat.le_trans k.kept.size hB.size, fun i hi => (hB.block i (Nat.lt_of_lt_of_le hi k.kept.size)).trans (k.kept.block i hi)⟩
theorem WI.row (k : WI σ w0 h ρ w) {W : World} (hB : Below w.heap.size w W) {nx g c : Nat} {O : Obj} (hn : ρ nx = none) (hg : w.heap.size ≤ g) (hO : W.heap[g]? = some O) {o : HO} (hl : o.live = true) (hr : ObjRel σ (ρ.add nx g c) (some O) c o) :
  WI σ w0 (h.ins nx (some o)) (ρ.add nx g c) W := by
 have k' := k.below hB
 have hold : ∀ m, m ≠ nx → ∀ x, (ρ.add nx g c) m = some x → ρ m = some x := fun m hm x hx => by simpa [Ren.add, hm] using hx
 have hget : ∀ m y, m ≠ nx → (h.ins nx (some o)).get m = some y → h.get m = some y := fun m y hm hy => by
  rcases Heap.ins_get hy with ⟨e, _⟩ | ⟨_, e⟩
  ·exact absurd e hm
  ·exact e
 have hnew : ∀ y, (h.ins nx (some o)).get nx = some y → y = o := fun y hy => by
  rcases Heap.ins_get hy with ⟨_, e⟩ | ⟨e, _⟩
  ·exact e
  ·exact absurd rfl e
 have hlive : ∀ m, m ≠ nx → Live (h.ins nx (some o)) m → Live h m := fun m hm ⟨y, hy, hl⟩ => ⟨y, hget m y hm hy, hl⟩
 have hlt : g < W.heap.size := (Array.getElem?_eq_some_iff.1 hO).1
 have hat : ∀ b d, (ρ.add nx g c) nx = some (b, d) → b = g ∧ d = c := fun b d hm => by
  rw [Ren.add_same, Option.some.injEq, Prod.mk.injEq] at hm
  exact ⟨hm.1.symm, hm.2.symm⟩
 refine ⟨fun m b d y hm hy => ?_, fun m b d hm => ?_, fun m m' b d d' hm hm' l1 l2 => ?_, fun m b d hm l => ?_, fun m b d l hm hy hd => ?_, k'.kept⟩
 ·by_cases e : m = nx
  ·subst e
   obtain ⟨rfl, rfl⟩ := hat _ _ hm
   rw [hnew _ hy, hO]
   exact hr
  ·exact (k'.rel m b d y (hold m e _ hm) (hget m y e hy)).mono (Ren.add_le hn)
 ·by_cases e : m = nx
  ·subst e
   obtain ⟨rfl, rfl⟩ := hat _ _ hm
   exact hlt
  ·exact k'.lt m b d (hold m e _ hm)
 ·by_cases e : m = nx
  ·by_cases e' : m' = nx
   ·rw [e, e']
   ·subst e
    obtain ⟨rfl, rfl⟩ := hat _ _ hm
    have := k.lt m' _ d' (hold m' e' _ hm')
    omega
  ·by_cases e' : m' = nx
   ·subst e'
    obtain ⟨rfl, rfl⟩ := hat _ _ hm'
    have := k.lt m _ d (hold m e _ hm)
    omega
   ·exact k'.inj m m' b d d' (hold m e _ hm) (hold m' e' _ hm') (hlive m e l1) (hlive m' e' l2)
 ·by_cases e : m = nx
  ·subst e
   obtain ⟨rfl, rfl⟩ := hat _ _ hm
   exact Nat.le_trans k.kept.size hg
  ·exact k'.own m b d (hold m e _ hm) (hlive m e l)
 ·by_cases e : m = nx
  ·subst e
   have := hnew _ hy
   rw [← this] at hl
   exact absurd hl (elder_not hd)
  ·exact k'.old m b d l (hold m e _ hm) (hget m _ e hy) hd
structure AppendsKeys (P : Program) (fa fi : FuncId) (q : IntKind) (el : TypeId) : Prop where
 full : ∀ (Bn bm : Nat) (es : Array MapEntry) (clock : Nat) (w : World), (∀ x ∈ es.toList, x.born < clock) → (es.toList.map (·.born)).Nodup → (∀ e ∈ es.toList, ∃ k : Int, e.key = .int q k) → es.size ≤ 100 →
  w.cell? ⟨Bn, 0, none⟩ = some (.map (some bm)) → Bn < w.heap.size → w.heap[bm]? = some (.map es clock) →
  Calls P fa #[.slice none 0 0, .func (.func fi) #[] #[.pointer (some ⟨Bn, 0, none⟩)]] w fun e W' => ∃ (v : Value) (ks : List Int), e = .returned v ∧ (ks.map (Value.int q)).Perm (es.toList.map (·.key)) ∧ W'.ownsRow w.heap.size el 1 v ks.length (ks.map (Value.int q)) ∧ (v = .slice none 0 0 ↔ ks = []) ∧ Below w.heap.size w W'
 nil : ∀ (Bn : Nat) (w : World), w.cell? ⟨Bn, 0, none⟩ = some (.map none) → Bn < w.heap.size →
  Calls P fa #[.slice none 0 0, .func (.func fi) #[] #[.pointer (some ⟨Bn, 0, none⟩)]] w fun e W' => e = .returned (.slice none 0 0) ∧ Below w.heap.size w W'
theorem perm_int {q : IntKind} {l m : List Int} (h : (l.map (Value.int q)).Perm (m.map (Value.int q))) : l.Perm m := by
 have h2 := h.map fun v : Value => (match v with | .int _ k => k | _ => 0)
 simpa [List.map_map, Function.comp_def] using h2
theorem Rep.fn1_inv {g : FuncId} {k : Nat} {y : Value} (h : Rep σ ρ (.func (.func g) ⟨[]⟩ ⟨[.pointer (some ⟨k, 0, none⟩)]⟩) y) : ∃ b c, ρ k = some (b, c) ∧ y = .func (.func g) #[] #[.pointer (some ⟨b, 0, none⟩)] := by
 generalize hx : (Value.func (.func g) ⟨[]⟩ ⟨[.pointer (some ⟨k, 0, none⟩)]⟩) = x at h
 cases h with
 | plain p => subst hx; cases p
 | fn ra rc =>
  rename_i f a a' c c'
  injection hx with h1 h2 h3
  injection h1 with h1
  subst h1
  have h2 : a = [] := by simpa using h2.symm
  have h3 : c = [.pointer (some ⟨k, 0, none⟩)] := by simpa using h3.symm
  subst h2; subst h3
  cases ra
  cases rc with
  | cons r1 rc =>
  cases rc
  obtain ⟨b, c, hb, rfl⟩ := r1.ptr_inv
  exact ⟨b, c, hb, rfl⟩
 | _ => cases hx
end
end Go.Z
end
