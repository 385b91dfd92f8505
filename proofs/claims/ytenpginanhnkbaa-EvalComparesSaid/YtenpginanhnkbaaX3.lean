/- One part of a proof: an evaluator of the model, shown right, and contracts that it yields. No condition beyond those that each theorem names. -/
import Derived.Test.YtenpginanhnkbaaX2
namespace Go.X
set_option linter.unusedSimpArgs false

section
variable {P : Program} {w0 : World} {M : Nat → Prop} {V0 : View} {n : Nat} {st : St} {V : View} {a : Act} {w : World}

theorem Inv.opd (h : Inv w0 M V0 n st V a w) {x : Operand} {s : SV} (hx : X.opd st.env x = some s) : toVal st.mem s = some (a.eval x) := by
  cases x with
  | tmp t => exact h.env t s hx
  | const v =>
    cases v <;> simp only [X.opd, Option.some.injEq] at hx <;> subst hx <;> rfl
  | global g => simp only [X.opd, Option.some.injEq] at hx; subst hx; rfl
  | func f => simp only [X.opd, Option.some.injEq] at hx; subst hx; rfl

theorem Inv.val (h : Inv w0 M V0 n st V a w) {x : Operand} {v : Value} (hx : st.val x = some v) : a.eval x = v := by
  unfold St.val at hx
  split at hx
  · rename_i s hs
    have := h.opd hs
    rw [hx] at this
    exact (Option.some.inj this).symm
  · cases hx

theorem Inv.vals (h : Inv w0 M V0 n st V a w) : ∀ {l : List Operand} {vs : List Value}, st.vals l = some vs → l.map a.eval = vs
  | [], vs, hx => by simp only [St.vals, Option.some.injEq] at hx; subst hx; rfl
  | x :: l, vs, hx => by
    simp only [St.vals] at hx
    split at hx
    · rename_i v vs' hv hvs
      simp only [Option.some.injEq] at hx
      subst hx
      simp [h.val hv, h.vals hvs]
    · cases hx

theorem Inv.parts (h : Inv w0 M V0 n st V a w) : ∀ {l : List (Nat × Operand)} {vs : List (Nat × Value)}, st.parts l = some vs → l.map (fun x => (x.1, a.eval x.2)) = vs
  | [], vs, hx => by simp only [St.parts, Option.some.injEq] at hx; subst hx; rfl
  | (i, x) :: l, vs, hx => by
    simp only [St.parts] at hx
    split at hx
    · rename_i v vs' hv hvs
      simp only [Option.some.injEq] at hx
      subst hx
      simp [h.val hv, h.parts hvs]
    · cases hx

theorem getD_set (l : Array Value) (d k : Nat) (v : Value) : (l.setIfInBounds d v).getD k undef = if k = d ∧ d < l.size then v else l.getD k undef := by
  simp only [Array.getD_eq_getD_getElem?, Array.getElem?_setIfInBounds]
  by_cases h : d = k
  · subst h
    by_cases h2 : d < l.size
    · simp [h2]
    · simp [h2]
  · have : ¬ k = d := fun e => h e.symm
    simp [h, this]

theorem Inv.put (h : Inv w0 M V0 n st V a w) {dst : Option Nat} (hd : ∀ d, dst = some d → d < n) {s : SV} {v : Value} (hs : toVal st.mem s = some v) :
    Inv w0 M V0 n (st.put dst s) V (a.put dst v) w := by
  cases dst with
  | none => exact h
  | some d =>
    refine ⟨h.defers, by simp [Act.put, h.size], fun k t hk => ?_, h.mp, h.kept, h.grows, h.new⟩
    have hdn := hd d rfl
    simp only [Act.put, getD_set]
    by_cases hkd : k = d
    · subst hkd
      simp only [St.put, upd_same, Option.some.injEq] at hk
      subst hk
      rw [if_pos ⟨rfl, by rw [h.size]; exact hdn⟩]
      exact hs
    · simp only [St.put, upd_ne _ _ hkd] at hk
      rw [if_neg (fun e => hkd e.1)]
      exact h.env k t hk

/-- what the model's run of the operation is -/
def EffSem (P : Program) (o : Oper) (st : St) (V : View) (a : Act) (w : World) : Eff → Prop
  | .val s => ∃ v, toVal st.mem s = some v ∧ (execOp a.eval o).run P w = .ok (.value v) w
  | .pick c s t => ∃ v1 v2, toVal st.mem s = some v1 ∧ toVal st.mem t = some v2 ∧ (execOp a.eval o).run P w = .ok (.value (if c then v1 else v2)) w
  | .ldv t b off n => ∀ l v, l.length = n → V.has b off l → asVar P t l = some v → (execOp a.eval o).run P w = .ok (.value v) w
  | .idx base len i size => ∀ b off, base = some ⟨b, off, none⟩ → 0 ≤ i → i < len → (execOp a.eval o).run P w = .ok (.value (.pointer (some ⟨b, off + i.toNat * size, none⟩))) w
  | .sem s => ∀ v, (∀ w, s.run P w = .ok v w) → (execOp a.eval o).run P w = .ok (.value v) w
  | .box t cells => (execOp a.eval o).run P w = .ok (.value (.pointer (some ⟨w.heap.size, 0, none⟩))) (w.alloc (.cells cells.toArray t))
  | .lit e len cells => (execOp a.eval o).run P w = .ok (.value (.slice (some ⟨w.heap.size, 0, none⟩) len len)) (w.alloc (.cells cells.toArray e))
  | .sto id off cells => ∀ b t old, st.mem id = some (.box b t old) → off + cells.length ≤ old.length → (execOp a.eval o).run P w = .ok .skip (w.setRow b (setAt old off cells).toArray)
  | .call f args => (execOp a.eval o).run P w = .ok (.enter f args.toArray) w
  | .app s e size bytes x => ∃ (t : TypeId) (i : TypeInfo) (z : Value) (vs : Value), toVal st.mem s = some vs ∧ P.underlying t = some (.slice e) ∧ P.info? e = some i ∧ i.zero = some z ∧ i.size = size ∧ i.bytes = bytes ∧ z.cells.size = size ∧ 0 < size ∧
      (execOp a.eval o).run P w = ((Builtin.append_ #[t, t] o.type #[vs, x]).run P w).andThen (fun v w' => .ok (.value v) w')
  | .bad => True

theorem EffSem.bad' {o : Oper} : EffSem P o st V a w .bad := trivial

theorem run_value {s : Sem Value} {v : Value} (h : pureRun P s = some v) (w : World) : (do pure (.value (← s)) : Sem Next).run P w = .ok (.value v) w := by
  rw [Sem.run_bind, run_of_pureRun h w]; rfl

theorem EffSem.pureVal {o : Oper} {s : Sem Value} (h : execOp a.eval o = (do pure (.value (← s)) : Sem Next)) : EffSem P o st V a w (X.pureVal P s) := by
  unfold X.pureVal
  split
  · rename_i v hv
    exact ⟨v, rfl, by rw [h]; exact run_value hv w⟩
  · trivial

theorem run_sizeOf {t : TypeId} {z : Nat} (h : sizeB P t = some z) (w : World) : (sizeOf t).run P w = .ok z w := by
  unfold sizeB at h
  split at h
  · rename_i i hi
    simp only [Option.some.injEq] at h
    subst h
    simp [sizeOf, typeInfo, hi]
  · cases h

theorem add_lit (b o i : Nat) : (⟨b, o, none⟩ : Addr).add i = ⟨b, o + i, none⟩ := by unfold Addr.add; split <;> simp_all

theorem run_loadVar {t : TypeId} {z : Nat} {l : List Value} {v : Value} {b off : Nat} (hz : sizeB P t = some z) (hl : l.length = z)
    (hc : ∀ i x, l[i]? = some x → w.cell? ⟨b, off + i, none⟩ = some x) (hv : asVar P t l = some v) : (loadVar t ⟨b, off, none⟩).run P w = .ok v w := by
  have hcells : (loadCells ⟨b, off, none⟩ z).run P w = .ok l.toArray w := by
    subst hl
    exact run_loadCells_list w _ l (fun j x hx => by rw [add_lit]; exact hc j x hx)
  unfold asVar at hv
  split at hv
  · rename_i d hd
    simp only [Option.some.injEq] at hv; subst hv
    simp [loadVar, isAgg, run_underlying hd, run_sizeOf hz, hcells]
  · rename_i d k hd
    simp only [Option.some.injEq] at hv; subst hv
    simp [loadVar, isAgg, run_underlying hd, run_sizeOf hz, hcells]
  · rename_i d h1 h2 hd
    split at hv
    · rename_i x
      simp only [Option.some.injEq] at hv; subst hv
      have h0 := hc 0 x rfl
      simp only [Nat.add_zero] at h0
      have hag : (isAgg t).run P w = .ok false w := by
        unfold isAgg
        rw [Sem.run_bind, run_underlying hd]
        cases d <;> first | rfl | exact absurd rfl (h1 _) | exact absurd rfl (h2 _ _)
      simp [loadVar, hag, run_load, h0]
    · cases hv
  · cases hv

theorem setAt_eq : ∀ (old : List Value) (off : Nat) (cells : List Value), off + cells.length ≤ old.length → setAt old off cells = old.take off ++ cells ++ old.drop (off + cells.length)
  | old, off, [], _ => by cases old <;> simp [setAt]
  | [], off, x :: xs, h => by simp at h
  | y :: r, 0, x :: xs, h => by
    simp only [setAt, List.take_zero, List.nil_append, List.length_cons, Nat.zero_add, List.drop_succ_cons, List.cons_append]
    rw [setAt_eq r 0 xs (by simpa using h)]
    simp
  | y :: r, off + 1, x :: xs, h => by
    simp only [setAt, List.take_succ_cons, List.cons_append]
    rw [setAt_eq r off (x :: xs) (by simp at h ⊢; omega)]
    rw [show off + 1 + (x :: xs).length = (off + (x :: xs).length) + 1 by omega, List.drop_succ_cons]

theorem allOne_spec : ∀ {l : List Value}, allOne l = true → ∀ v ∈ l, v.oneCell' = true
  | [], _, v, hv => by cases hv
  | x :: l, h, v, hv => by
    unfold allOne at h
    split at h
    · rename_i hx
      rcases List.mem_cons.1 hv with rfl | hv
      · exact hx
      · exact allOne_spec h v hv
    · cases h

theorem run_storeVar {t ty : TypeId} {old : List Value} {b off : Nat} {v : Value} (hg : w.heap[b]? = some (.cells old.toArray ty (0, 0)))
    (hz : sizeB P t = some v.cells.size) (h1 : allOne v.cells.toList = true) (hl : off + v.cells.toList.length ≤ old.length) :
    (storeVar t ⟨b, off, none⟩ v).run P w = .ok () (w.setRow b (setAt old off v.cells.toList).toArray) := by
  unfold storeVar
  rw [Sem.run_bind, run_sizeOf hz]
  simp only [Result.andThen_ok, ne_eq, not_true_eq_false, if_false]
  have := run_storeCells_at P b off ty v.cells.toList 0 old.toArray w hg (by simpa using hl) (allOne_spec h1)
  simp only [Nat.add_zero] at this
  rw [setAt_eq old off _ hl]
  simpa using this

theorem callOk_spec {f : FuncId} (h : callOk P f = true) (args : Array Value) : (callFunc f args).run P w = .ok (.enter f args) w := by
  unfold callOk at h
  split at h
  · rename_i fn hf
    simp only [Bool.and_eq_true, Bool.not_eq_true', Option.isSome_iff_ne_none, ne_eq] at h
    have hne : fn.name ≠ "runtime.NumGoroutine" := by simpa using h.1
    simp [callFunc, program, Sem.run, hf, hne, h.2]
  · cases h
end
end Go.X
