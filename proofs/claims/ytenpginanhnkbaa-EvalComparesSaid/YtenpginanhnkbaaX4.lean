/- One part of a proof: an evaluator of the model, shown right, and contracts that it yields. No condition beyond those that each theorem names. -/
import Derived.Test.YtenpginanhnkbaaX3b0
namespace Go.X
set_option linter.unusedSimpArgs false
section
variable {P : Program} {w0 : World} {M : Nat → Prop} {V0 : View} {n : Nat} {st : St} {V : View} {a : Act} {w : World}

theorem Inv.boxAt (h : Inv w0 M V0 n st V a w) {id b : Nat} {t : TypeId} {cells : List Value} (hm : st.mem id = some (.box b t cells)) :
    w.heap[b]? = some (.cells cells.toArray t (0, 0)) ∧ ∀ o, V b o = none := h.mp.ok id _ hm

theorem cell_box {b : Nat} {t : TypeId} {cells : List Value} (hg : w.heap[b]? = some (.cells cells.toArray t (0, 0))) (i : Nat) : w.cell? ⟨b, i, none⟩ = cells[i]? := by
  rw [cell_of_row w b i _ _ _ hg]; simp

theorem Inv.own (h : Inv w0 M V0 n st V a w) {x : Operand} {id off : Nat} (hx : X.opd st.env x = some (.own id off)) :
    ∃ b t cells, st.mem id = some (.box b t cells) ∧ a.eval x = .pointer (some ⟨b, off, none⟩) := by
  have := h.opd hx
  unfold toVal at this
  simp only at this
  split at this
  · rename_i b t cells hm
    exact ⟨b, t, cells, hm, (Option.some.inj this).symm⟩
  · cases this

theorem Inv.v (h : Inv w0 M V0 n st V a w) {x : Operand} {u : Value} (hx : X.opd st.env x = some (.v u)) : a.eval x = u := by
  have := h.opd hx
  exact (Option.some.inj this).symm

theorem Inv.kb (h : Inv w0 M V0 n st V a w) {x : Operand} {b : Bool} (hx : X.opd st.env x = some (.kb b)) : a.eval x = .bool b := by
  have := h.opd hx
  exact (Option.some.inj this).symm

theorem map_toArray_eq {α β : Type} {f : α → β} {xs : Array α} {l : List β} (h : xs.toList.map f = l) : xs.map f = l.toArray := by
  subst h; apply Array.ext'; simp

theorem run_resolve_func {c : Call} {f : Operand} {type : TypeId} {fn : Fn} {first captured args : Array Value} (hc : c.callee = .value f) (hf : a.eval f = .func fn first captured) (ha : c.args.map a.eval = args) :
    (resolve a.eval c type).run P w = .ok { target := .fn fn captured, args := first ++ args } w := by
  unfold resolve
  rw [ha, hc]
  simp only [hf, Deferred.ofValue]
  rfl

theorem effOf_sound (h : Inv w0 M V0 n st V a w) (o : Oper) : EffSem P o st V a w (effOf P o st) := by
  obtain ⟨dst, op, type, pos, after, guard⟩ := o
  cases op
  case move x =>
    simp only [effOf]
    split
    · rename_i s hs; exact ⟨_, h.opd hs, rfl⟩
    · trivial
  case assign x =>
    simp only [effOf]
    split
    · rename_i s hs; exact ⟨_, h.opd hs, rfl⟩
    · trivial
  case pick c x y =>
    simp only [effOf]
    split
    · rename_i hc
      split
      · rename_i s hs; exact ⟨_, h.opd hs, by simp [execOp, h.kb hc, asBool]⟩
      · trivial
    · rename_i hc
      split
      · rename_i s hs; exact ⟨_, h.opd hs, by simp [execOp, h.kb hc, asBool]⟩
      · trivial
    · rename_i b hc
      split
      · rename_i s t hs ht; exact ⟨_, _, h.opd hs, h.opd ht, by simp [execOp, h.v hc, asBool]⟩
      · trivial
    · trivial
  case box t x =>
    simp only [effOf]
    split
    · rename_i v hv
      simp only [EffSem, execOp, h.val hv, Instr.box, newVar, newRow, newObj]
      simp [Sem.run]
    · trivial
  case alloc t =>
    simp only [effOf]
    split
    · rename_i i hi
      split
      · rename_i z hz
        simp only [EffSem, execOp, Instr.alloc, zeroValue, typeInfo, program]
        simp [Sem.run, hi, hz, newVar, newRow, newObj]
      · trivial
    · trivial
  case load t x =>
    simp only [effOf]
    split
    · rename_i id off hx
      obtain ⟨b, ty, cells, hm, he⟩ := h.own hx
      split
      · rename_i b' ty' cells' z hm' hz
        rw [hm] at hm'
        simp only [Option.some.injEq, Res.box.injEq] at hm'
        obtain ⟨rfl, rfl, rfl⟩ := hm'
        split
        · rename_i v hv
          split
          · rename_i hl
            refine ⟨v, rfl, ?_⟩
            have hl' := Nat.eq_of_beq_eq_true hl
            have hg := (h.boxAt hm).1
            have := run_loadVar (P := P) (w := w) (b := b) (off := off) hz hl' (fun i y hy => by
              rw [cell_box hg]
              rw [List.getElem?_take] at hy
              split at hy
              · rwa [List.getElem?_drop] at hy
              · cases hy) hv
            simp [execOp, he, Instr.loadAt, Instr.sureAddr, this]
          · trivial
        · trivial
      · trivial
    · rename_i b off hx
      split
      · rename_i z hz
        intro l v hl hV hv
        have := run_loadVar (P := P) (w := w) (b := b) (off := off) hz hl (fun i y hy => h.mp.sub _ _ _ (hV i y hy)) hv
        simp [execOp, h.v hx, Instr.loadAt, Instr.sureAddr, this]
      · trivial
    · trivial
  case store t x y =>
    simp only [effOf]
    split
    · rename_i id off v z hx hy hz
      split
      · rename_i hl h1
        intro b ty old hm hle
        obtain ⟨b', ty', old', hm', he⟩ := h.own hx
        rw [hm] at hm'
        simp only [Option.some.injEq, Res.box.injEq] at hm'
        obtain ⟨rfl, rfl, rfl⟩ := hm'
        have := run_storeVar (P := P) (v := v) (off := off) (h.boxAt hm).1 (by rw [Nat.eq_of_beq_eq_true hl]; exact hz) h1 hle
        simp [execOp, he, h.val hy, Instr.storeAt, Instr.sureAddr, this]
      · trivial
    · trivial
  case fieldAddr s x f =>
    simp only [effOf]
    have hplace : ∀ (k : Nat) (b off : Nat), fieldOff P s f = some k → (Instr.fieldAt s (.pointer (some ⟨b, off, none⟩)) f).run P w = .ok (.pointer (some ⟨b, off + k, none⟩)) w := by
      intro k b off hk
      unfold fieldOff at hk
      split at hk
      · rename_i fs hfs
        split at hk
        · rename_i x' hx'
          split at hk
          · cases hk
          · rename_i z hne hz
            simp only [Option.some.injEq] at hk
            subst hk
            have hz0 : z ≠ 0 := fun e => hne e
            simp [Instr.fieldAt, run_underlying hfs, hx', Instr.sureAddr, fieldPlace, run_sizeOf hz, hz0, add_lit]
          · cases hk
        · cases hk
      · cases hk
    split
    · rename_i id off k hx hk
      obtain ⟨b, ty, cells, hm, he⟩ := h.own hx
      refine ⟨.pointer (some ⟨b, off + k, none⟩), by simp [toVal, hm], ?_⟩
      simp [execOp, he, hplace k b off hk]
    · rename_i b off k hx hk
      refine ⟨_, rfl, ?_⟩
      simp [execOp, h.v hx, hplace k b off hk]
    · trivial
  case indexAddr t x i =>
    simp only [effOf]
    split
    · rename_i e he
      split
      · rename_i base len cap k m z hx hi hz
        intro b off hb h0 hl
        subst hb
        simp only [execOp, h.val hx, h.val hi]
        simp [Instr.indexAt, asIntOf, run_underlying he, run_sizeOf hz, h0, hl, add_lit]
      · trivial
    · rename_i len e he
      have hplace : ∀ (k : IntKind) (m b off z : Nat), sizeB P e = some z → Nat.blt m len = true → (Instr.indexAt t (.pointer (some ⟨b, off, none⟩)) (.int k (.ofNat m))).run P w = .ok (.pointer (some ⟨b, off + m * z, none⟩)) w := by
        intro k m b off z hz hl
        have hl : m < len := Nat.le_of_ble_eq_true hl
        have h0 : (0 : Int) ≤ Int.ofNat m ∧ Int.ofNat m < (len : Int) := ⟨Int.natCast_nonneg m, by simpa using hl⟩
        simp only [Instr.indexAt, asIntOf, Sem.run_bind, Sem.run_pure, Result.andThen_ok, run_underlying he, Instr.sureAddr, pure_bind, h0, and_self, if_true, run_sizeOf hz, add_lit, Int.toNat_natCast, Int.ofNat_eq_natCast]
        simp [run_underlying he, run_sizeOf hz, add_lit, hl]
      split
      · rename_i id off k m z hx hi hz
        split
        · rename_i hl
          obtain ⟨b, ty, cells, hm, hev⟩ := h.own hx
          refine ⟨.pointer (some ⟨b, off + m * z, none⟩), by simp [toVal, hm], ?_⟩
          simp only [execOp, hev, h.val hi]
          rw [Sem.run_bind, hplace k m b off z hz hl]; rfl
        · trivial
      · rename_i b off k m z hx hi hz
        split
        · rename_i hl
          refine ⟨_, rfl, ?_⟩
          simp only [execOp, h.v hx, h.val hi]
          rw [Sem.run_bind, hplace k m b off z hz hl]; rfl
        · trivial
      · trivial
    · trivial
  case binOp op t x y yt =>
    simp only [effOf]
    split
    · rename_i u v hu hv
      split
      · intro x hx
        simp only [execOp, h.val hu, h.val hv]
        rw [Sem.run_bind, hx w]; rfl
      · refine EffSem.pureVal ?_
        simp only [execOp, h.val hu, h.val hv]
    · trivial
  case unOp op t x =>
    simp only [effOf]
    split
    · rename_i u hu
      refine EffSem.pureVal ?_
      simp only [execOp, h.val hu]
    · trivial
  case convert s d x =>
    simp only [effOf]
    split
    · rename_i u hu
      refine EffSem.pureVal ?_
      simp only [execOp, h.val hu]
    · trivial
  case makeInterface t x =>
    simp only [effOf]
    split
    · rename_i u hu
      refine EffSem.pureVal ?_
      simp only [execOp, h.val hu]
    · trivial
  case extract t i =>
    simp only [effOf]
    split
    · rename_i u hu
      refine EffSem.pureVal ?_
      simp only [execOp, h.val hu]
    · trivial
  case field t x f =>
    simp only [effOf]
    split
    · rename_i u hu
      refine EffSem.pureVal ?_
      simp only [execOp, h.val hu]
    · trivial
  case index t x i =>
    simp only [effOf]
    split
    · rename_i ht
      split
      · rename_i u v hu hv
        intro x hx
        simp only [execOp, h.val hu, h.val hv]
        rw [Sem.run_bind, hx w]; rfl
      · trivial
    · split
      · rename_i u v hu hv
        refine EffSem.pureVal ?_
        simp only [execOp, h.val hu, h.val hv]
      · trivial
  case build t ps =>
    simp only [effOf]
    split
    · rename_i l hl
      split
      · rename_i cells hc
        refine ⟨_, rfl, ?_⟩
        simp only [execOp]
        rw [map_toArray_eq (h.parts hl), Sem.run_bind, run_build hc w]; rfl
      · trivial
    · trivial
  case buildSlice t len ps =>
    simp only [effOf]
    split
    · rename_i l hl
      split
      · rename_i e cells hc
        simp only [EffSem, execOp]
        rw [map_toArray_eq (h.parts hl), buildSlice_eq]
        simp [run_litSem hc w, newRow, newObj, Sem.run]
      · trivial
    · trivial
  case makeFunc fn first captured =>
    simp only [effOf]
    split
    · rename_i x y hx hy
      refine ⟨_, rfl, ?_⟩
      simp only [execOp, map_toArray_eq (h.vals hx), map_toArray_eq (h.vals hy)]
      rfl
    · trivial
  case nilCheck x =>
    simp only [effOf]
    split
    · rename_i id off hx
      obtain ⟨b, ty, cells, hm, he⟩ := h.own hx
      refine ⟨.pointer (some ⟨b, off, none⟩), by simp only [toVal, hm], ?_⟩
      simp only [execOp, he]
      rfl
    · rename_i ad hx
      refine ⟨_, rfl, ?_⟩
      simp only [execOp, h.v hx]
      rfl
    · trivial
  case call c =>
    simp only [effOf]
    split
    · rename_i f hc
      split
      · rename_i g first captured args hf ha
        split
        · rename_i hok
          simp only [EffSem, execOp]
          rw [Sem.run_bind, run_resolve_func hc (h.val hf) (map_toArray_eq (h.vals ha))]
          simp only [Result.andThen_ok, invoke]
          rw [callOk_spec hok]
          congr 2
          apply Array.ext'
          simp
        · trivial
      · trivial
    · rename_i hc
      split
      · rename_i s x t t' hargs htypes
        split
        · rename_i e hbt hu
          split
          · rename_i i hi
            split
            · rename_i z hz
              split
              · rename_i sv xv hzs hsz hs hx
                have htt := Nat.eq_of_beq_eq_true hbt
                subst htt
                have hsz : Nat.ble 1 i.size = true := hsz
                refine ⟨t', i, z, _, h.opd hs, hu, hi, hz, rfl, rfl, Nat.eq_of_beq_eq_true hzs, Nat.le_of_ble_eq_true hsz, ?_⟩
                have ha : c.args.map a.eval = #[a.eval s, a.eval x] := by
                  apply Array.ext'; simp [hargs]
                have ht : c.argTypes = #[t', t'] := by
                  apply Array.ext'; simp [htypes]
                simp only [execOp, resolve, hc, ha, ht, pure_bind, invoke, builtin, h.val hx]
                rw [Sem.run_bind]
                rfl
              · trivial
            · trivial
          · trivial
        · trivial
      · trivial
    · rename_i hc
      split
      · rename_i l hl
        refine EffSem.pureVal ?_
        simp only [execOp, resolve, hc, map_toArray_eq (h.vals hl), pure_bind]
        rfl
      · trivial
    · rename_i hc
      split
      · rename_i l hl
        refine EffSem.pureVal ?_
        simp only [execOp, resolve, hc, map_toArray_eq (h.vals hl), pure_bind]
        rfl
      · trivial
    · rename_i hc
      split
      · rename_i l hl
        intro x hx
        simp only [execOp, resolve, hc, map_toArray_eq (h.vals hl), pure_bind, invoke, builtin]
        rw [Sem.run_bind, hx w]; rfl
      · trivial
    · rename_i hc
      split
      · rename_i l hl
        intro x hx
        simp only [execOp, resolve, hc, map_toArray_eq (h.vals hl), pure_bind, invoke, builtin]
        rw [Sem.run_bind, hx w]; rfl
      · trivial
    · trivial
  all_goals exact trivial
end
end Go.X
