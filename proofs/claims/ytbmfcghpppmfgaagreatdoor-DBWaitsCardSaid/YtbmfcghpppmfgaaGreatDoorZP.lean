/- One part of a proof: an evaluator of the model, shown right, and contracts that it yields. No condition beyond those that each theorem names. -/
import Derived.Test.YtbmfcghpppmfgaaGreatDoorZE
import Derived.Below
import Derived.CallsIn
section
set_option linter.unusedSimpArgs false
set_option linter.unusedVariables false
set_option linter.unusedSectionVars false
set_option linter.deprecated false
/-! # AppendSeq(nil, maps.Keys(m)) as a function by contract: all orders -/
namespace Go.Z
open Go.X
open Go.RowKit

/-! ## orders of a list -/
section
variable {α : Type}
def ins1 (x : α) : List α → List (List α)
  | [] => [[x]]
  | y :: l => (x :: y :: l) :: (ins1 x l).map (y :: ·)
def perms : List α → List (List α)
  | [] => [[]]
  | x :: l => (perms l).flatMap (ins1 x)
theorem mem_ins1 (x : α) : ∀ (a b : List α), a ++ x :: b ∈ ins1 x (a ++ b)
  | [], [] => by simp [ins1]
  | [], y :: b => by simp [ins1]
  | y :: a, b => by
    rw [List.cons_append, List.cons_append, ins1]
    exact List.mem_cons_of_mem _ (List.mem_map.2 ⟨_, mem_ins1 x a b, rfl⟩)
theorem mem_perms : ∀ {l l' : List α}, l'.Perm l → l' ∈ perms l
  | [], l', h => by rw [h.eq_nil]; simp [perms]
  | x :: l, l', h => by
    obtain ⟨a, b, rfl⟩ := List.append_of_mem (h.symm.mem_iff.1 (List.mem_cons_self ..) : x ∈ l')
    have h2 : (a ++ b).Perm l := (List.perm_cons x).1 (List.perm_middle.symm.trans h)
    exact List.mem_flatMap.2 ⟨_, mem_perms h2, mem_ins1 x a b⟩
end

def keysOf (q : IntKind) : List (Value × Value) → Option (List Int)
  | [] => some []
  | (.int q' k, _) :: r => if q' = q then (match keysOf q r with | some ks => some (k :: ks) | none => none) else none
  | _ :: _ => none
theorem keysOf_eq {q : IntKind} : ∀ {es : List (Value × Value)} {ks : List Int}, keysOf q es = some ks → es.map (·.1) = ks.map (Value.int q)
  | [], ks, h => by cases h; rfl
  | (k, v) :: r, ks, h => by
    unfold keysOf at h
    split at h
    · rename_i he; cases he
    · rename_i q' k' v' r' he
      cases he
      split at h
      · rename_i hq
        subst hq
        split at h
        · rename_i ks' hks
          cases h
          simp [keysOf_eq hks]
        · cases h
      · cases h
    · cases h

/-- what comes of one order -/
noncomputable def rowOut (el : TypeId) (q : IntKind) (h : Heap) (nx : Nat) : List Int → Out
  | [] => (.slice none 0 0, h, nx)
  | k :: ks => (.slice (some ⟨nx, 0, some 0⟩) (ks.length + 1) 0, h.ins nx (some (.grown el 1 ((k :: ks).map (Value.int q)))), nx + 1)
noncomputable def keysZ (fi : FuncId) (q : IntKind) (el : TypeId) (h : Heap) (nx : Nat) (args : List Value) : Option (List Out) := match args with
  | [.slice none 0 0, .func (.func g) ⟨[]⟩ ⟨[.pointer (some ⟨k, 0, none⟩)]⟩] => (match Nat.beq g fi, h.get k with
    | true, some (.cells _ [.map none]) => some [(.slice none 0 0, h, nx)]
    | true, some (.cells _ [.map (some m)]) => (match h.get m with
      | some (.map es) => (match Nat.ble es.length 4, keysOf q es with
        | true, some ks => some ((perms ks).map (rowOut el q h nx))
        | _, _ => none)
      | _ => none)
    | _, _ => none)
  | _ => none

section
variable {P : Program} {σ : Nat → Nat → Value} {w0 : World} {h : Heap} {ρ : Ren} {w : World}

theorem WI.below (k : WI σ w0 h ρ w) {W : World} (hB : Below w.heap.size w W) : WI σ w0 h ρ W := by
  have hb : ∀ n b c, ρ n = some (b, c) → W.heap[b]? = w.heap[b]? := fun n b c hn => hB.block b (k.lt n b c hn)
  refine ⟨fun n b c o hn ho => ?_, fun n b c hn => Nat.lt_of_lt_of_le (k.lt n b c hn) hB.size, k.inj, k.own, k.old, ?_⟩
  · rw [hb n b c hn]; exact k.rel n b c o hn ho
  · exact ⟨hB.os.trans k.kept.os, hB.tape.trans k.kept.tape, hB.output.trans k.kept.output, Nat.le_trans k.kept.size hB.size, fun i hi => (hB.block i (Nat.lt_of_lt_of_le hi k.kept.size)).trans (k.kept.block i hi)⟩

/-- a block that has come under a name that has none yet -/
theorem WI.row (k : WI σ w0 h ρ w) {W : World} (hB : Below w.heap.size w W) {nx g c : Nat} {O : Obj} (hn : ρ nx = none) (hg : w.heap.size ≤ g) (hO : W.heap[g]? = some O) {o : HO} (hl : o.live = true) (hr : ObjRel σ (ρ.add nx g c) (some O) c o) :
    WI σ w0 (h.ins nx (some o)) (ρ.add nx g c) W := by
  have k' := k.below hB
  have hold : ∀ m, m ≠ nx → ∀ x, (ρ.add nx g c) m = some x → ρ m = some x := fun m hm x hx => by simpa [Ren.add, hm] using hx
  have hget : ∀ m y, m ≠ nx → (h.ins nx (some o)).get m = some y → h.get m = some y := fun m y hm hy => by
    rcases Heap.ins_get hy with ⟨e, _⟩ | ⟨_, e⟩
    · exact absurd e hm
    · exact e
  have hnew : ∀ y, (h.ins nx (some o)).get nx = some y → y = o := fun y hy => by
    rcases Heap.ins_get hy with ⟨_, e⟩ | ⟨e, _⟩
    · exact e
    · exact absurd rfl e
  have hlive : ∀ m, m ≠ nx → Live (h.ins nx (some o)) m → Live h m := fun m hm ⟨y, hy, hl⟩ => ⟨y, hget m y hm hy, hl⟩
  have hlt : g < W.heap.size := (Array.getElem?_eq_some_iff.1 hO).1
  have hat : ∀ b d, (ρ.add nx g c) nx = some (b, d) → b = g ∧ d = c := fun b d hm => by
    rw [Ren.add_same, Option.some.injEq, Prod.mk.injEq] at hm
    exact ⟨hm.1.symm, hm.2.symm⟩
  refine ⟨fun m b d y hm hy => ?_, fun m b d hm => ?_, fun m m' b d d' hm hm' l1 l2 => ?_, fun m b d hm l => ?_, fun m b d l hm hy => ?_, k'.kept⟩
  · by_cases e : m = nx
    · subst e
      obtain ⟨rfl, rfl⟩ := hat _ _ hm
      rw [hnew _ hy, hO]
      exact hr
    · exact (k'.rel m b d y (hold m e _ hm) (hget m y e hy)).mono (Ren.add_le hn)
  · by_cases e : m = nx
    · subst e
      obtain ⟨rfl, rfl⟩ := hat _ _ hm
      exact hlt
    · exact k'.lt m b d (hold m e _ hm)
  · by_cases e : m = nx
    · by_cases e' : m' = nx
      · rw [e, e']
      · subst e
        obtain ⟨rfl, rfl⟩ := hat _ _ hm
        have := k.lt m' _ d' (hold m' e' _ hm')
        omega
    · by_cases e' : m' = nx
      · subst e'
        obtain ⟨rfl, rfl⟩ := hat _ _ hm'
        have := k.lt m _ d (hold m e _ hm)
        omega
      · exact k'.inj m m' b d d' (hold m e _ hm) (hold m' e' _ hm') (hlive m e l1) (hlive m' e' l2)
  · by_cases e : m = nx
    · subst e
      obtain ⟨rfl, rfl⟩ := hat _ _ hm
      exact Nat.le_trans k.kept.size hg
    · exact k'.own m b d (hold m e _ hm) (hlive m e l)
  · by_cases e : m = nx
    · subst e
      have := hnew _ hy
      rw [← this] at hl
      cases hl
    · exact k'.old m b d l (hold m e _ hm) (hget m _ e hy)

/-- what the call is to say -/
structure AppendsKeys (P : Program) (fa fi : FuncId) (q : IntKind) (el : TypeId) : Prop where
  full : ∀ (Bn bm : Nat) (es : Array MapEntry) (clock : Nat) (w : World), (∀ x ∈ es.toList, x.born < clock) → (es.toList.map (·.born)).Nodup → (∀ e ∈ es.toList, ∃ k : Int, e.key = .int q k) → es.size ≤ 100 →
    w.cell? ⟨Bn, 0, none⟩ = some (.map (some bm)) → Bn < w.heap.size → w.heap[bm]? = some (.map es clock) →
    Calls P fa #[.slice none 0 0, .func (.func fi) #[] #[.pointer (some ⟨Bn, 0, none⟩)]] w fun e W' => ∃ (v : Value) (ks : List Int), e = .returned v ∧ (ks.map (Value.int q)).Perm (es.toList.map (·.key)) ∧ W'.ownsRow w.heap.size el 1 v ks.length (ks.map (Value.int q)) ∧ (v = .slice none 0 0 ↔ ks = []) ∧ Below w.heap.size w W'
  nil : ∀ (Bn : Nat) (w : World), w.cell? ⟨Bn, 0, none⟩ = some (.map none) → Bn < w.heap.size →
    Calls P fa #[.slice none 0 0, .func (.func fi) #[] #[.pointer (some ⟨Bn, 0, none⟩)]] w fun e W' => e = .returned (.slice none 0 0) ∧ Below w.heap.size w W'

theorem int_inj {q : IntKind} : ∀ {l m : List Int}, l.map (Value.int q) = m.map (Value.int q) → l = m
  | [], [], _ => rfl
  | [], _ :: _, h => by cases h
  | _ :: _, [], h => by cases h
  | a :: l, b :: m, h => by
    simp only [List.map_cons, List.cons.injEq, Value.int.injEq, true_and] at h
    rw [h.1, int_inj h.2]
theorem perm_int {q : IntKind} {l m : List Int} (h : (l.map (Value.int q)).Perm (m.map (Value.int q))) : l.Perm m := by
  have h2 := h.map fun v : Value => (match v with | .int _ k => k | _ => 0)
  simpa [List.map_map, Function.comp_def] using h2

theorem Rep.fn1_inv {g : FuncId} {k : Nat} {y : Value} (h : Rep σ ρ (.func (.func g) ⟨[]⟩ ⟨[.pointer (some ⟨k, 0, none⟩)]⟩) y) : ∃ b c, ρ k = some (b, c) ∧ y = .func (.func g) #[] #[.pointer (some ⟨b, 0, none⟩)] := by
  generalize hx : (Value.func (.func g) ⟨[]⟩ ⟨[.pointer (some ⟨k, 0, none⟩)]⟩) = x at h
  cases h with
  | plain p => subst hx; cases p
  | fn ra rc =>
    rename_i f a a' c c'
    injection hx with h1 h2 h3
    injection h1 with h1
    subst h1
    have h2 : a = [] := by simpa using h2.symm
    have h3 : c = [.pointer (some ⟨k, 0, none⟩)] := by simpa using h3.symm
    subst h2; subst h3
    cases ra
    cases rc with
    | cons r1 rc =>
    cases rc
    obtain ⟨b, c, hb, rfl⟩ := r1.ptr_inv
    exact ⟨b, c, hb, rfl⟩
  | _ => cases hx

theorem keys_ok {fa fi : FuncId} {q : IntKind} {el : TypeId} (hA : AppendsKeys P fa fi q el) : CallOk P σ (fun g' args h nx => if g' = fa then (match keysZ fi q el h nx args with | some l => .ok l | none => .no []) else .no []) := by
  intro w0 f args h nx outs ho ρ vs w hf ha hw
  dsimp only at ho
  split at ho
  case isFalse => cases ho
  rename_i hfa
  subst hfa
  split at ho
  case h_2 => cases ho
  rename_i l hl
  cases ho
  unfold keysZ at hl
  split at hl
  case h_2 => cases hl
  rename_i g k
  split at hl
  case h_3 => cases hl
  case h_1 =>
    rename_i t hg hk
    cases hl
    have hg := Nat.eq_of_beq_eq_true hg
    subst hg
    cases ha with
    | cons a1 ha =>
    cases ha with
    | cons a2 ha =>
    cases ha
    have e1 := a1.of_plain rfl
    subst e1
    obtain ⟨Bn, c1, hBn, rfl⟩ := a2.fn1_inv
    obtain ⟨l', hO, hl'⟩ := hw.rel k Bn c1 _ hBn hk
    cases hl' with
    | cons r1 hl' =>
    cases hl'
    have e1 := r1.of_plain rfl
    subst e1
    have hcell : w.cell? ⟨Bn, 0, none⟩ = some (.map none) := by simp [World.cell?, hO]
    refine (hA.nil Bn w hcell (hw.lt _ _ _ hBn)).mono ?_
    rintro e W ⟨rfl, hB⟩
    exact ⟨(.slice none 0 0, h, nx), List.mem_singleton.2 rfl, _, ρ, rfl, Ren.le_refl _, New.refl _ _, Nat.le_refl _, hf, .plain rfl, hw.below hB⟩
  rename_i t m hg hk
  split at hl
  case h_2 => cases hl
  rename_i es hm
  split at hl
  case h_2 => cases hl
  rename_i ks hlen hks
  cases hl
  have hg := Nat.eq_of_beq_eq_true hg
  have hlen := Nat.le_of_ble_eq_true hlen
  subst hg
  -- the arguments
  cases ha with
  | cons a1 ha =>
  cases ha with
  | cons a2 ha =>
  cases ha
  have e1 := a1.of_plain rfl
  subst e1
  obtain ⟨Bn, c1, hBn, rfl⟩ := a2.fn1_inv
  obtain ⟨l', hO, hl'⟩ := hw.rel k Bn c1 _ hBn hk
  cases hl' with
  | cons r1 hl' =>
  cases hl'
  obtain ⟨bm, c2, hbm, rfl⟩ := r1.map_inv
  obtain ⟨ms, clock, hM, hrel, hborn⟩ := hw.rel m bm c2 _ hbm hm
  have hcell : w.cell? ⟨Bn, 0, none⟩ = some (.map (some bm)) := by simp [World.cell?, hO]
  have hkeys := keysOf_eq hks
  have hkint : ∀ e ∈ ms.toList, ∃ k : Int, e.key = .int q k := fun e he => by
    obtain ⟨v, hv⟩ := hrel.back e he
    have : e.key ∈ es.map (·.1) := List.mem_map.2 ⟨_, hv, rfl⟩
    rw [hkeys] at this
    obtain ⟨k, _, hk⟩ := List.mem_map.1 this
    exact ⟨k, hk.symm⟩
  have hperm : (ms.toList.map (·.key)).Perm (ks.map (Value.int q)) := by
    rw [← hkeys]
    refine (List.perm_ext_iff_of_nodup hrel.nodupM hrel.nodup).2 fun x => ⟨fun hx => ?_, fun hx => ?_⟩
    · obtain ⟨e, he, rfl⟩ := List.mem_map.1 hx
      obtain ⟨v, hv⟩ := hrel.back e he
      exact List.mem_map.2 ⟨_, hv, rfl⟩
    · obtain ⟨y, hy, rfl⟩ := List.mem_map.1 hx
      obtain ⟨e, he, hk, _⟩ := hrel.fwd y hy
      exact List.mem_map.2 ⟨e, he, hk⟩
  have hsz : ms.size ≤ 100 := by have := hrel.len; simp at this; omega
  refine (hA.full Bn bm ms clock w hborn.lt hborn.nd hkint hsz hcell (hw.lt _ _ _ hBn) hM).mono ?_
  rintro e W ⟨v, ls, rfl, hp, hown, hnil, hB⟩
  have hin : ls ∈ perms ks := mem_perms (perm_int (hp.trans hperm))
  refine ⟨rowOut el q h nx ls, List.mem_map.2 ⟨ls, hin, rfl⟩, ?_⟩
  cases ls with
  | nil =>
    have := hnil.2 rfl
    subst this
    exact ⟨_, ρ, rfl, Ren.le_refl _, New.refl _ _, Nat.le_refl _, hf, .plain rfl, hw.below hB⟩
  | cons k1 ls =>
    obtain ⟨hlen1, h2 | ⟨g', cap, cur, rfl, hbase, hblk, hle, hcap, hsize, htake⟩⟩ := hown
    · simp at h2
    · have hadd := Ren.add_le (b := g') (c := cap) hf.none
      refine ⟨_, ρ.add nx g' cap, rfl, hadd, New.add, Nat.le_succ nx, hf.add, ?_, ?_⟩
      · exact .gr (k := 0) Ren.add_same (.inl rfl)
      · refine hw.row hB hf.none hbase hblk rfl ?_
        refine ⟨(k1 :: ls).map (Value.int q), cur.toList.drop ((ls.length + 1) * 1), ?_, RepL.plain (fun x hx => ?_), ?_, hcap, Nat.zero_lt_one⟩
        · rw [← htake]
          simp
        · obtain ⟨k, _, rfl⟩ := List.mem_map.1 hx; rfl
        · rw [← htake]
          simp
          simpa using hsize
end
end Go.Z
end
