/- One part of a proof: an evaluator of the model, shown right, and contracts that it yields. No condition beyond those that each theorem names. -/
import Derived.Test.YtenpginanhnkbaaX6
namespace Go.X
open Go.RowKit
section
variable {P : Program} {w0 : World} {M : Nat → Prop} {V0 : View} {n : Nat} {st : St} {V : View} {a : Act} {w : World}

/-- which name a value leans on -/
def SV.name : SV → Option Nat
  | .own i _ => some i
  | .row i => some i
  | _ => none

theorem demote_some {mem : Nat → Option Res} {g : Nat} {s s' : SV} (h : demote mem g s = some s') : (s' = s ∧ s.name ≠ some g) ∨ (s.name = some g ∧ ∃ v, toVal mem s = some v ∧ s' = .v v) := by
  cases s with
  | v x => simp only [demote, Option.some.injEq] at h; exact .inl ⟨h.symm, by simp [SV.name]⟩
  | kb x => simp only [demote, Option.some.injEq] at h; exact .inl ⟨h.symm, by simp [SV.name]⟩
  | own i o =>
    simp only [demote] at h
    split at h
    · rename_i hb
      have := Nat.eq_of_beq_eq_true hb
      subst this
      split at h
      · rename_i v hv
        simp only [Option.some.injEq] at h
        exact .inr ⟨rfl, v, hv, h.symm⟩
      · cases h
    · rename_i hb
      simp only [Option.some.injEq] at h
      refine .inl ⟨h.symm, fun e => ?_⟩
      simp only [SV.name, Option.some.injEq] at e; subst e
      rw [Nat.beq_refl] at hb; cases hb
  | row i =>
    simp only [demote] at h
    split at h
    · rename_i hb
      have := Nat.eq_of_beq_eq_true hb
      subst this
      split at h
      · rename_i v hv
        simp only [Option.some.injEq] at h
        exact .inr ⟨rfl, v, hv, h.symm⟩
      · cases h
    · rename_i hb
      simp only [Option.some.injEq] at h
      refine .inl ⟨h.symm, fun e => ?_⟩
      simp only [SV.name, Option.some.injEq] at e; subst e
      rw [Nat.beq_refl] at hb; cases hb

theorem purge_some {env : Nat → Option SV} {mem : Nat → Option Res} {g k : Nat} {s : SV} (h : purge env mem g k = some s) :
    ∃ s', env k = some s' ∧ ((s = s' ∧ s'.name ≠ some g) ∨ (s'.name = some g ∧ ∃ v, toVal mem s' = some v ∧ s = .v v)) := by
  unfold purge at h
  split at h
  · rename_i s' hs; exact ⟨s', hs, demote_some h⟩
  · cases h

theorem del_same {α : Type} (f : Nat → Option α) (d : Nat) : del f d d = none := by simp [del, Nat.beq_refl]
theorem del_ne {α : Type} (f : Nat → Option α) {d k : Nat} (h : k ≠ d) : del f d k = f k := by
  have : Nat.beq k d = false := by
    cases hb : Nat.beq k d with
    | false => rfl
    | true => exact absurd (Nat.eq_of_beq_eq_true hb) h
  simp [del, this]

theorem toVal_of {mem mem' : Nat → Option Res} {s : SV} (h : ∀ i, s.name = some i → mem' i = mem i) : toVal mem' s = toVal mem s := by
  cases s with
  | v x => rfl
  | kb b => rfl
  | own i o => simp only [toVal, h i rfl]
  | row i => simp only [toVal, h i rfl]

theorem Inv.forget (h : Inv w0 M V0 n st V a w) (g : Nat) : Inv w0 M V0 n (st.forget g) V a w := by
  have hm : ∀ i r, del st.mem g i = some r → st.mem i = some r := fun i r hr => by
    by_cases hi : i = g
    · subst hi; rw [del_same] at hr; cases hr
    · rwa [del_ne _ hi] at hr
  refine ⟨h.defers, h.size, fun k s hk => ?_, ⟨h.mp.sub, fun i r hr => h.mp.ok i r (hm i r hr), fun i j r r' b hij hi hj => h.mp.apart i j r r' b hij (hm i r hi) (hm j r' hj)⟩, h.kept, h.grows, ?_⟩
  · obtain ⟨s', h1, h2⟩ := purge_some hk
    rw [← h.env k s' h1]
    rcases h2 with ⟨rfl, h2⟩ | ⟨_, v, hv, rfl⟩
    · exact toVal_of fun i hi => del_ne _ (fun e => h2 (by rw [hi, e]))
    · rw [hv]; rfl
  · intro b ⟨i, r, hr, hb⟩
    exact h.new b ⟨i, r, hm i r hr, hb⟩

/-- one block that no name leans on is written, or laid -/
theorem Inv.change (h : Inv w0 M V0 n st V a w) {g : Nat} {w' : World} {V' : View} (hos : w'.os = w.os) (htape : w'.tape = w.tape) (hout : w'.output = w.output) (hsize : w.heap.size ≤ w'.heap.size)
    (hblk : ∀ k, k < w.heap.size → k ≠ g → w'.heap[k]? = w.heap[k]?) (hfree : ∀ i r, st.mem i = some r → r.blk ≠ some g) (hg : M g ∨ w0.heap.size ≤ g)
    (hsub : Sub V' w') (hle : V.le V') (hnew : ∀ b o v, V' b o = some v → V b o = some v ∨ b = g) : Inv w0 M V0 n st V' a w' := by
  have hnone : ∀ b o, b ≠ g → V b o = none → V' b o = none := fun b o hb hV => by
    cases hv : V' b o with
    | none => rfl
    | some v =>
      rcases hnew b o v hv with h1 | h1
      · rw [hV] at h1; cases h1
      · exact absurd h1 hb
  refine ⟨h.defers, h.size, h.env, ⟨hsub, fun i r hr => ?_, h.mp.apart⟩, ⟨hos.trans h.kept.os, htape.trans h.kept.tape, hout.trans h.kept.output, Nat.le_trans h.kept.size hsize, fun k hk hMk => ?_⟩, ⟨View.le_trans h.grows.1 hle, ?_⟩, h.new⟩
  · have hok := h.mp.ok i r hr
    exact hok.keep (fun b hb => hblk b (blk_lt hok hb) (fun e => hfree i r hr (by rw [hb, e]))) (fun b hb o hV => hnone b o (fun e => hfree i r hr (by rw [hb, e])) hV)
  · have hkg : k ≠ g := fun e => by
      subst e
      rcases hg with h1 | h1
      · exact hMk h1
      · omega
    rw [hblk k (Nat.lt_of_lt_of_le hk h.kept.size) hkg]
    exact h.kept.block k hk hMk
  · intro b o v hv
    rcases hnew b o v hv with h1 | h1
    · exact h.grows.2 b o v h1
    · subst h1
      rcases hg with h2 | h2
      · exact .inr (.inr h2)
      · exact .inr (.inl h2)

/-- a row gets a name -/
theorem Inv.addRow (h : Inv w0 M V0 n st V a w) {d : Nat} (hd : d < n) {v : Value} {e : TypeId} {size k : Nat} (hok : (Res.row v e size k).ok w V)
    (hfree : ∀ g, rowBlk v = some g → (∀ i r, i ≠ d → st.mem i = some r → r.blk ≠ some g) ∧ (M g ∨ w0.heap.size ≤ g)) :
    Inv w0 M V0 n ⟨upd (purge st.env st.mem d) d (.row d), upd st.mem d (.row v e size k)⟩ V (a.put (some d) v) w := by
  refine ⟨h.defers, by simp [Act.put, h.size], fun j s hj => ?_, ⟨h.mp.sub, fun i r hr => ?_, fun i j r r' b hij hi hj hb hb' => ?_⟩, h.kept, h.grows, ?_⟩
  · simp only [Act.put, getD_set, h.size]
    by_cases hjd : j = d
    · subst hjd
      simp only [upd_same, Option.some.injEq] at hj
      subst hj
      rw [if_pos ⟨rfl, hd⟩]
      simp [toVal, upd_same]
    · rw [if_neg (fun e => hjd e.1)]
      simp only [upd_ne _ _ hjd] at hj
      obtain ⟨s', h1, h2⟩ := purge_some hj
      rw [← h.env j s' h1]
      rcases h2 with ⟨rfl, h2⟩ | ⟨_, x, hx, rfl⟩
      · exact toVal_of fun i hi => upd_ne _ _ (fun e => h2 (by rw [hi, e]))
      · rw [hx]; rfl
  · by_cases hi : i = d
    · subst hi
      simp only [upd_same, Option.some.injEq] at hr
      subst hr
      exact hok
    · simp only [upd_ne _ _ hi] at hr
      exact h.mp.ok i r hr
  · simp only at hi hj
    by_cases hid : i = d
    · subst hid
      rw [upd_same, Option.some.injEq] at hi
      subst hi
      rw [upd_ne _ _ (Ne.symm hij)] at hj
      exact (hfree b hb).1 j r' (Ne.symm hij) hj hb'
    · rw [upd_ne _ _ hid] at hi
      by_cases hjd : j = d
      · subst hjd
        rw [upd_same, Option.some.injEq] at hj
        subst hj
        exact (hfree b hb').1 i r hid hi hb
      · rw [upd_ne _ _ hjd] at hj
        exact h.mp.apart i j r r' b hij hi hj hb hb'
  · intro b ⟨i, r, hr, hb⟩
    simp only at hr
    by_cases hid : i = d
    · subst hid
      rw [upd_same, Option.some.injEq] at hr
      subst hr
      exact (hfree b hb).2
    · rw [upd_ne _ _ hid] at hr
      exact h.new b ⟨i, r, hr, hb⟩

theorem upd_del {α : Type} (f : Nat → Option α) (d : Nat) (x : α) : upd (del f d) d x = upd f d x := by
  funext k
  by_cases h : k = d
  · subst h; rw [upd_same, upd_same]
  · rw [upd_ne _ _ h, upd_ne _ _ h, del_ne _ h]

/-- what an append has come to -/
inductive Appended (w : World) (v : Value) (e : TypeId) (size n m : Nat) (xs news : List Value) : Value → World → Prop where
  | same (base : Option Addr) (cap : Nat) : v = .slice base n cap → m = 0 → Appended w v e size n m xs news v w
  | room (g cap : Nat) (cur : Array Value) : v = .slice (some ⟨g, 0, none⟩) n cap → n + m ≤ cap → w.heap[g]? = some (.cells cur e (0, 0)) →
      Appended w v e size n m xs news (.slice (some ⟨g, 0, none⟩) (n + m) cap) (w.setRow g (cur.toList.take (n * size) ++ news ++ cur.toList.drop (n * size + news.length)).toArray)
  | grown (cap : Nat) (rest : Array Value) : n + m ≤ cap → cap ≠ 0 → cap ≤ maxLen → (xs.length + news.length + rest.size = cap * size) →
      Appended w v e size n m xs news (.slice (some ⟨w.heap.size, 0, none⟩) (n + m) cap) (w.drew.alloc (.cells (xs.toArray ++ news.toArray ++ rest) e))

theorem run_appended {t ty e : TypeId} {i : TypeInfo} {z : Value} (ht : P.underlying t = some (.slice e)) (hi : P.info? e = some i) (hz : i.zero = some z) (hzs : z.cells.size = i.size)
    (hsz : 0 < i.size) {v x : Value} {k m : Nat} {xs news : List Value} (hok : (Res.row v e i.size k).ok w V) (hsub : Sub V w) (hxs : V.cells v xs) (hxl : xs.length = k * i.size)
    (hx : ∃ base cap, x = .slice base m cap) (hnews : V.cells x news) (hnl : news.length = m * i.size) (h1 : ∀ u ∈ news, u.oneCell' = true) (h63 : k + m ≤ maxLen) (hby : (k + m) * i.bytes ≤ 140737488355328) :
    ∃ v' w', (Builtin.append_ #[t, t] ty #[v, x]).run P w = .ok v' w' ∧ Appended w v e i.size k m xs news v' w' := by
  have hsmall : ((k + m : Nat) : Int) ≤ 9223372036854775807 := by simp only [maxLen] at h63; omega
  obtain ⟨xb, xc, rfl⟩ := hx
  have hv : ∃ base cap, v = .slice base k cap := by
    rcases hok with ⟨base, rfl, rfl⟩ | ⟨g, cap, cur, rfl, _⟩
    · exact ⟨base, 0, rfl⟩
    · exact ⟨_, cap, rfl⟩
  obtain ⟨vb, vc, rfl⟩ := hv
  by_cases hm : m = 0
  · subst hm
    have hn0 : news = [] := List.eq_nil_of_length_eq_zero (by simpa using hnl)
    subst hn0
    have hle : k ≤ vc := by
      rcases hok with ⟨base, he, rfl⟩ | ⟨g, cap, cur, he, _, _, hl, _⟩
      · omega
      · injection he with _ _ h3; omega
    refine ⟨_, _, ?_, .same vb vc rfl rfl⟩
    have hf : ∀ w, (Builtin.firstCells i.size 0 (.slice xb 0 xc)).run P w = .ok #[] w := by
      intro w
      cases xb with
      | none => exact run_firstCells_none w _ _ _ _
      | some b => simp [Builtin.firstCells, loadCells, loadCellsFrom]
    cases vb with
    | none => simp [Builtin.append_, run_underlying ht, sizeOf, typeInfo, hi, Builtin.lenOf, hle, hf]
    | some b => simp [Builtin.append_, run_underlying ht, sizeOf, typeInfo, hi, Builtin.lenOf, hle, hf, storeCells]
  · have hnpos : 0 < news.length := by rw [hnl]; exact Nat.mul_pos (by omega) hsz
    have hxb : ∃ b off, xb = some ⟨b, off, none⟩ := by
      unfold View.cells at hnews
      split at hnews
      · rename_i b off _ _ he
        injection he with h2 _ _
        exact ⟨b, off, h2⟩
      · rename_i he; subst hnews; simp at hnpos
      · exact hnews.elim
    obtain ⟨xbb, xo, rfl⟩ := hxb
    have hcell : ∀ j u, news[j]? = some u → w.cell? ((⟨xbb, xo, none⟩ : Addr).add j) = some u := fun j u hj => by
      rw [add_lit]; exact hsub _ _ _ (hnews j u hj)
    have grow : ∀ (sCap : Nat), sCap < k + m → ∃ v' w', (∃ r, r = Builtin.zeroCells z.cells (grownCap w (k + m) sCap e - (k + m)) ∧ v' = .slice (some ⟨w.heap.size, 0, none⟩) (k + m) (grownCap w (k + m) sCap e) ∧
        w' = w.drew.alloc (.cells (xs.toArray ++ news.toArray ++ r) e)) ∧ Appended w (.slice vb k vc) e i.size k m xs news v' w' := by
      intro sCap _
      refine ⟨_, _, ⟨_, rfl, rfl, rfl⟩, .grown _ _ (grownCap_ge _ _ _ _) (by have := grownCap_ge w (k + m) sCap e; omega) (grownCap_le_maxLen _ _ _ _ h63) ?_⟩
      rw [size_zeroCells, hzs, hxl, hnl, ← Nat.add_mul, ← Nat.add_mul]
      congr 1
      have := grownCap_ge w (k + m) sCap e
      omega
    rcases hok with ⟨base, he, rfl⟩ | ⟨g, cap, cur, he, hc0, hg, hkc, hcm, hcs, hVg⟩
    · injection he with h2 _ h3
      subst h2; subst h3
      have hx0 : xs = [] := List.eq_nil_of_length_eq_zero (by simpa using hxl)
      subst hx0
      obtain ⟨v', w', ⟨r, rfl, rfl, rfl⟩, hA⟩ := grow 0 (by omega)
      refine ⟨_, _, ?_, hA⟩
      cases vb with
      | none =>
        have := run_append_nil (P := P) w t ty e i z ht hi hz ⟨xbb, xo, none⟩ m xc news hnl hcell (by omega) (by omega) (by simp only [Nat.zero_add] at hby; omega)
        simpa using this
      | some b =>
        have hfit : Builtin.nextslicecap (0 + m) 0 * i.bytes ≤ 281474976710656 := growslice_fits (by omega) hby
        have := run_append_grow (P := P) w t ty e i z ht hi hz b 0 0 [] (by simp) (by simp) ⟨xbb, xo, none⟩ m xc news hnl hcell (by omega) hsmall hfit
        simpa using this
    · injection he with h2 _ h3
      subst h2; subst h3
      have hxs' : ∀ j u, xs[j]? = some u → w.cell? ⟨g, j, none⟩ = some u := fun j u hj => by
        have := hxs j u hj
        simp only [Nat.zero_add] at this
        exact hsub _ _ _ this
      by_cases hroom : k + m ≤ vc
      · refine ⟨_, _, ?_, .room g vc cur rfl hroom hg⟩
        exact run_append_room (P := P) w t ty e i ht hi g k vc cur hg ⟨xbb, xo, none⟩ m xc news hnl hcell h1 hroom (by rw [hcs, hnl, ← Nat.add_mul]; exact Nat.mul_le_mul_right _ hroom)
      · obtain ⟨v', w', ⟨r, rfl, rfl, rfl⟩, hA⟩ := grow vc (by omega)
        refine ⟨_, _, ?_, hA⟩
        exact run_append_grow (P := P) w t ty e i z ht hi hz ⟨g, 0, none⟩ k vc xs hxl (fun j u hj => by rw [add_lit, Nat.zero_add]; exact hxs' j u hj) ⟨xbb, xo, none⟩ m xc news hnl hcell (by omega) hsmall (growslice_fits (by omega) hby)
end
end Go.X
