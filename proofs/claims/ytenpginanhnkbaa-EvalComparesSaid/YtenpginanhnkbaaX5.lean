/- One part of a proof: an evaluator of the model, shown right, and contracts that it yields. No condition beyond those that each theorem names. -/
import Derived.Test.YtenpginanhnkbaaX4
namespace Go.X
open Go.RowKit
section
variable {P : Program} {w0 : World} {M : Nat → Prop} {V0 : View} {n : Nat} {st : St} {V : View} {a : Act} {w : World}

theorem blk_lt {r : Res} {b : Nat} (h : r.ok w V) (hb : r.blk = some b) : b < w.heap.size := by
  cases r with
  | box b' t cells =>
    simp only [Res.blk, Option.some.injEq] at hb; subst hb
    exact (Array.getElem?_eq_some_iff.1 h.1).1
  | row v t size k =>
    rcases h with ⟨base, rfl, _⟩ | ⟨g, cap, cur, rfl, h0, hg, _⟩
    · cases base <;> simp [Res.blk, rowBlk] at hb
    · simp only [Res.blk, rowBlk, h0, if_false, Option.some.injEq] at hb; subst hb
      exact (Array.getElem?_eq_some_iff.1 hg).1

theorem sub_lt (h : Sub V w) {b o : Nat} {v : Value} (hv : V b o = some v) : b < w.heap.size := by
  have := h b o v hv
  unfold World.cell? at this
  split at this
  · rename_i hb; exact (Array.getElem?_eq_some_iff.1 hb).1
  · cases this

/-- a resource stays, where its block is as it was and the view holds no new cells of it -/
theorem Res.ok.keep {r : Res} {V' : View} {w' : World} (h : r.ok w V) (hb : ∀ b, r.blk = some b → w'.heap[b]? = w.heap[b]?) (hV : ∀ b, r.blk = some b → ∀ o, V b o = none → V' b o = none) : r.ok w' V' := by
  cases r with
  | box b t cells => exact ⟨(hb b rfl).trans h.1, fun o => hV b rfl o (h.2 o)⟩
  | row v t size k =>
    rcases h with h | ⟨g, cap, cur, rfl, h0, hg, h1, h2, h3, h4⟩
    · exact .inl h
    · have hbg : (Res.row (.slice (some ⟨g, 0, none⟩) k cap) t size k).blk = some g := by simp [Res.blk, rowBlk, h0]
      exact .inr ⟨g, cap, cur, rfl, h0, (hb g hbg).trans hg, h1, h2, h3, fun o ho => hV g hbg o (h4 o ho)⟩

theorem cell_keep {w' : World} {b o : Nat} (h : w'.heap[b]? = w.heap[b]?) : w'.cell? ⟨b, o, none⟩ = w.cell? ⟨b, o, none⟩ := World.cell?_of_block (w := w) (a := ⟨b, o, none⟩) h

theorem alloc_old (w : World) (o : Obj) {k : Nat} (h : k < w.heap.size) : (w.alloc o).heap[k]? = w.heap[k]? := Below.heap_alloc w o k h

/-- what was there is there when a block is laid -/
theorem MPre.alloc {mem : Nat → Option Res} (h : MPre mem V w) (o : Obj) : MPre mem V (w.alloc o) :=
  ⟨fun b k v hv => by rw [cell_keep (alloc_old w o (sub_lt h.sub hv))]; exact h.sub b k v hv,
   fun i r hr => (h.ok i r hr).keep (fun b hb => alloc_old w o (blk_lt (h.ok i r hr) hb)) (fun _ _ _ hx => hx), h.apart⟩

theorem Kept.alloc (h : Kept M w0 w) (o : Obj) : Kept M w0 (w.alloc o) :=
  h.trans ⟨rfl, rfl, rfl, by simp, fun k hk _ => alloc_old w o hk⟩

theorem newBlk_none (h : Sub V w) (k : Nat) : V w.heap.size k = none := by
  cases hv : V w.heap.size k with
  | none => rfl
  | some v => exact absurd (sub_lt h hv) (Nat.lt_irrefl _)

/-- a new box of a name -/
theorem Inv.newBox (h : Inv w0 M V0 n st V a w) {d : Nat} (hd : d < n) (t : TypeId) (cells : List Value) :
    Inv w0 M V0 n (st.newBox d (.box w.heap.size t cells)) V (a.put (some d) (.pointer (some ⟨w.heap.size, 0, none⟩))) (w.alloc (.cells cells.toArray t)) := by
  have hmem : (st.newBox d (.box w.heap.size t cells)).mem = upd st.mem d (.box w.heap.size t cells) := by
    unfold St.newBox; split <;> rfl
  have hother : ∀ i r, i ≠ d → st.mem i = some r → r.blk ≠ some w.heap.size := fun i r _ hr hb => absurd (blk_lt (h.mp.ok i r hr) hb) (Nat.lt_irrefl _)
  refine ⟨h.defers, by simp [Act.put, h.size], ?_, ⟨?_, ?_, ?_⟩, h.kept.alloc _, h.grows, ?_⟩
  · intro k s hk
    simp only [Act.put, getD_set, h.size]
    by_cases hkd : k = d
    · subst hkd
      have : s = .own k 0 := by
        unfold St.newBox at hk
        split at hk <;> simp only [upd_same, Option.some.injEq] at hk <;> exact hk.symm
      subst this
      rw [if_pos ⟨rfl, hd⟩, hmem]
      simp [toVal, upd_same]
    · rw [if_neg (fun e => hkd e.1), hmem]
      have key : ∀ s, st.env k = some s → (∀ i, (s = .row i ∨ ∃ o, s = .own i o) → i ≠ d) → toVal (upd st.mem d (.box w.heap.size t cells)) s = some (a.tmps.getD k undef) := by
        intro s hs hi
        have := h.env k s hs
        cases s with
        | v x => exact this
        | kb b => exact this
        | own i o => simp only [toVal, upd_ne _ _ (hi i (.inr ⟨o, rfl⟩))]; exact this
        | row i => simp only [toVal, upd_ne _ _ (hi i (.inl rfl))]; exact this
      unfold St.newBox at hk
      split at hk
      · rename_i hnone
        simp only [upd_ne _ _ hkd] at hk
        refine key s hk (fun i hi e => ?_)
        have := h.env k s hk
        rcases hi with rfl | ⟨o, rfl⟩ <;> (subst e; simp [toVal, hnone] at this)
      · simp only [upd_ne _ _ hkd] at hk
        split at hk
        · rename_i i o hs
          split at hk
          · cases hk
          · rename_i hne
            simp only [Option.some.injEq] at hk
            subst hk
            refine key _ hs (fun j hj e => ?_)
            rcases hj with hj | ⟨o', hj⟩
            · cases hj
            · injection hj with h1 h2
              subst h1; subst e
              rw [Nat.beq_refl] at hne; cases hne
        · rename_i i hs
          split at hk
          · cases hk
          · rename_i hne
            simp only [Option.some.injEq] at hk
            subst hk
            refine key _ hs (fun j hj e => ?_)
            rcases hj with hj | ⟨o', hj⟩
            · injection hj with h1
              subst h1; subst e
              rw [Nat.beq_refl] at hne; cases hne
            · cases hj
        · rename_i hx1 hx2
          refine key s hk (fun i hi _ => ?_)
          rcases hi with rfl | ⟨o, rfl⟩
          · exact hx2 _ hk
          · exact hx1 _ _ hk
  · exact (h.mp.alloc _).sub
  · intro i r hr
    rw [hmem] at hr
    by_cases hid : i = d
    · subst hid
      rw [upd_same, Option.some.injEq] at hr
      subst hr
      exact ⟨heap_alloc_new w _, fun o => newBlk_none h.mp.sub o⟩
    · rw [upd_ne _ _ hid] at hr
      exact (h.mp.alloc _).ok i r hr
  · intro i j r r' b hij hi hj hb hb'
    rw [hmem] at hi hj
    by_cases hid : i = d
    · subst hid
      rw [upd_same, Option.some.injEq] at hi
      subst hi
      simp only [Res.blk, Option.some.injEq] at hb
      subst hb
      rw [upd_ne _ _ (Ne.symm hij)] at hj
      exact hother j r' (Ne.symm hij) hj hb'
    · rw [upd_ne _ _ hid] at hi
      by_cases hjd : j = d
      · subst hjd
        rw [upd_same, Option.some.injEq] at hj
        subst hj
        simp only [Res.blk, Option.some.injEq] at hb'
        subst hb'
        exact hother i r hid hi hb
      · rw [upd_ne _ _ hjd] at hj
        exact h.mp.apart i j r r' b hij hi hj hb hb'
  · intro b hb
    obtain ⟨i, r, hr, hrb⟩ := hb
    rw [hmem] at hr
    by_cases hid : i = d
    · subst hid
      rw [upd_same, Option.some.injEq] at hr
      subst hr
      simp only [Res.blk, Option.some.injEq] at hrb
      subst hrb
      exact .inr h.kept.size
    · rw [upd_ne _ _ hid] at hr
      exact h.new b ⟨i, r, hr, hrb⟩

end
end Go.X
