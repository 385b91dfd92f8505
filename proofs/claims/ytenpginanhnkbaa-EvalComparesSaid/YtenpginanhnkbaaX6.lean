/- One part of a proof: an evaluator of the model, shown right, and contracts that it yields. No condition beyond those that each theorem names. -/
import Derived.Test.YtenpginanhnkbaaX5
namespace Go.X
open Go.RowKit
section
variable {P : Program} {w0 : World} {M : Nat → Prop} {V0 : View} {n : Nat} {st : St} {V : View} {a : Act} {w : World}

/-- the view with a new block -/
def View.add (V : View) (b : Nat) (cells : List Value) : View := fun k o => if k = b then cells[o]? else V k o

theorem View.add_le {V : View} {b : Nat} {cells : List Value} (h : ∀ o, V b o = none) : V.le (V.add b cells) := by
  intro k o v hv
  unfold View.add
  by_cases hk : k = b
  · subst hk; rw [h o] at hv; cases hv
  · rw [if_neg hk]; exact hv
theorem View.add_has {V : View} {b : Nat} {cells : List Value} : (V.add b cells).has b 0 cells := by
  intro i v hi
  simp [View.add, hi]

/-- a slice literal: a new row, read only -/
theorem Inv.newRow (h : Inv w0 M V0 n st V a w) {dst : Option Nat} (hd : ∀ d, dst = some d → d < n) (e : TypeId) (cells : List Value) (len : Nat) :
    Inv w0 M V0 n (st.put dst (.v (.slice (some ⟨w.heap.size, 0, none⟩) len len))) (V.add w.heap.size cells) (a.put dst (.slice (some ⟨w.heap.size, 0, none⟩) len len)) (w.alloc (.cells cells.toArray e)) := by
  have h1 : Inv w0 M V0 n st (V.add w.heap.size cells) a (w.alloc (.cells cells.toArray e)) := by
    refine ⟨h.defers, h.size, h.env, ⟨?_, ?_, h.mp.apart⟩, h.kept.alloc _, ⟨View.le_trans h.grows.1 (View.add_le (newBlk_none h.mp.sub)), ?_⟩, h.new⟩
    · intro b o v hv
      unfold View.add at hv
      by_cases hb : b = w.heap.size
      · subst hb
        rw [if_pos rfl] at hv
        rw [cell_of_row _ _ _ _ _ _ (heap_alloc_new w _)]
        simpa using hv
      · rw [if_neg hb] at hv
        exact (h.mp.alloc _).sub b o v hv
    · intro i r hr
      refine (h.mp.ok i r hr).keep (fun b hb => alloc_old w _ (blk_lt (h.mp.ok i r hr) hb)) (fun b hb o hV => ?_)
      have hlt := blk_lt (h.mp.ok i r hr) hb
      unfold View.add
      rw [if_neg (by omega)]
      exact hV
    · intro b o v hv
      unfold View.add at hv
      by_cases hb : b = w.heap.size
      · subst hb; exact .inr (.inl h.kept.size)
      · rw [if_neg hb] at hv; exact h.grows.2 b o v hv
  exact h1.put hd rfl

theorem length_setAt : ∀ (old : List Value) (off : Nat) (cells : List Value), (setAt old off cells).length = old.length
  | old, off, [] => by cases old <;> simp [setAt]
  | [], off, x :: xs => by simp [setAt]
  | y :: r, 0, x :: xs => by simp [setAt, length_setAt r 0 xs]
  | y :: r, off + 1, x :: xs => by simp [setAt, length_setAt r off (x :: xs)]

/-- a store into a box -/
theorem Inv.store (h : Inv w0 M V0 n st V a w) {id b : Nat} {t : TypeId} {old new : List Value} (hm : st.mem id = some (.box b t old)) :
    Inv w0 M V0 n ⟨st.env, upd st.mem id (.box b t new)⟩ V a (w.setRow b new.toArray) := by
  have hg := (h.boxAt hm).1
  have hlt : b < w.heap.size := (Array.getElem?_eq_some_iff.1 hg).1
  have hsize : (w.setRow b new.toArray).heap.size = w.heap.size := by simp [World.setRow]
  have hob : ∀ i r k, i ≠ id → st.mem i = some r → r.blk = some k → k ≠ b := fun i r k hi hr hk e => h.mp.apart i id r _ k hi hr hm hk (by simp [Res.blk, e])
  have hval : ∀ s, toVal (upd st.mem id (.box b t new)) s = toVal st.mem s := by
    intro s
    cases s with
    | v x => rfl
    | kb x => rfl
    | own i o =>
      by_cases hi : i = id
      · subst hi; simp [toVal, upd_same, hm]
      · simp [toVal, upd_ne _ _ hi]
    | row i =>
      by_cases hi : i = id
      · subst hi; simp [toVal, upd_same, hm]
      · simp [toVal, upd_ne _ _ hi]
  have hbl : ∀ i r, upd st.mem id (.box b t new) i = some r → ∃ r', st.mem i = some r' ∧ r'.blk = r.blk := by
    intro i r hr
    by_cases hi : i = id
    · subst hi
      rw [upd_same, Option.some.injEq] at hr; subst hr
      exact ⟨_, hm, rfl⟩
    · rw [upd_ne _ _ hi] at hr; exact ⟨r, hr, rfl⟩
  refine ⟨h.defers, h.size, fun k s hk => by rw [hval]; exact h.env k s hk, ⟨?_, ?_, ?_⟩, ⟨h.kept.os, h.kept.tape, h.kept.output, by rw [hsize]; exact h.kept.size, ?_⟩, h.grows, ?_⟩
  · intro k o v hv
    have hkb : k ≠ b := fun e => by subst e; rw [(h.boxAt hm).2 o] at hv; cases hv
    rw [cell_keep (setRow_other w b k _ hkb)]
    exact h.mp.sub k o v hv
  · intro i r hr
    have hr : upd st.mem id (.box b t new) i = some r := hr
    by_cases hi : i = id
    · subst hi
      rw [upd_same, Option.some.injEq] at hr; subst hr
      exact ⟨setRow_heap w b _ _ t _ hg, (h.boxAt hm).2⟩
    · rw [upd_ne _ _ hi] at hr
      exact (h.mp.ok i r hr).keep (fun k hk => setRow_other w b k _ (hob i r k hi hr hk)) (fun _ _ _ hx => hx)
  · intro i j r r' k hij hi hj hk hk'
    obtain ⟨r1, h1, e1⟩ := hbl i r hi
    obtain ⟨r2, h2, e2⟩ := hbl j r' hj
    exact h.mp.apart i j r1 r2 k hij h1 h2 (e1.trans hk) (e2.trans hk')
  · intro k hk hMk
    have hkb : k ≠ b := by
      rintro rfl
      rcases h.new k ⟨id, _, hm, rfl⟩ with h1 | h1
      · exact hMk h1
      · omega
    rw [setRow_other w b k _ hkb]
    exact h.kept.block k hk hMk
  · intro k hk
    obtain ⟨i, r, hr, hrk⟩ := hk
    obtain ⟨r', hr', e⟩ := hbl i r hr
    exact h.new k ⟨i, r', hr', e.trans hrk⟩

/-- behind a call -/
theorem Inv.called (h : Inv w0 M V0 n st V a w) {mem' : Nat → Option Res} {V' : View} {w' : World} (hsame : ∀ t x, toVal st.mem t = some x → toVal mem' t = some x)
    (hp : MPre mem' V' w') (hk : Kept (blksM st.mem) w w') (hg : Grows (blksM st.mem) w.heap.size V V') (hn : ∀ b, blksM mem' b → blksM st.mem b ∨ w.heap.size ≤ b) :
    Inv w0 M V0 n ⟨st.env, mem'⟩ V' a w' := by
  refine ⟨h.defers, h.size, fun k s hs => hsame s _ (h.env k s hs), hp, ?_, ⟨View.le_trans h.grows.1 hg.1, ?_⟩, ?_⟩
  · refine ⟨hk.os.trans h.kept.os, hk.tape.trans h.kept.tape, hk.output.trans h.kept.output, Nat.le_trans h.kept.size hk.size, fun k hk0 hMk => ?_⟩
    rw [hk.block k (Nat.lt_of_lt_of_le hk0 h.kept.size) (fun hb => ?_), h.kept.block k hk0 hMk]
    rcases h.new k hb with h1 | h1
    · exact hMk h1
    · omega
  · intro b o v hv
    rcases hg.2 b o v hv with h1 | h1 | h1
    · exact h.grows.2 b o v h1
    · exact .inr (.inl (Nat.le_trans h.kept.size h1))
    · rcases h.new b h1 with h2 | h2
      · exact .inr (.inr h2)
      · exact .inr (.inl h2)
  · intro b hb
    rcases hn b hb with h1 | h1
    · exact h.new b h1
    · exact .inr (Nat.le_trans h.kept.size h1)

end
end Go.X
