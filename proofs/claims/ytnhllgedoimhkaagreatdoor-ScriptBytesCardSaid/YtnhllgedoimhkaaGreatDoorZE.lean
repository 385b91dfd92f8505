/- One part of a proof: an evaluator of the model, shown right, and contracts that it yields. No condition beyond those that each theorem names. -/
import Derived.Test.YtnhllgedoimhkaaGreatDoorZD
import Derived.Test.YtnhllgedoimhkaaGreatDoorXC
import Derived.Test.YtnhllgedoimhkaaGreatDoorXB
import Derived.Test.YtnhllgedoimhkaaGreatDoorXA
set_option linter.unusedSimpArgs false
set_option linter.unusedVariables false
set_option linter.unusedSectionVars false
set_option linter.deprecated false
section
namespace Go.Z
open Go.X
open Go.RowKit
mutual
theorem eqV_sound : ∀ (a b : Value), eqV a b = true → a = b
 | .bool a, b, h => by cases b <;> simp [eqV] at h; subst h; rfl
 | .int j a, b, h => by cases b <;> simp [eqV] at h; obtain ⟨rfl, rfl⟩ := h; rfl
 | .string a, b, h => by
  cases b <;> simp [eqV] at h
  rename_i b
  rw [eqBytes_iff] at h
  exact congrArg _ (bytes_inj (by simpa [bytesOf] using h))
 | .float k a, b, h => by cases b <;> simp [eqV] at h
 | .complex k i j, b, h => by
  cases b with
  | complex k' i' j' =>
   cases k <;> cases k' <;> simp [eqV] at h
   all_goals
    obtain ⟨h1, h2⟩ := h
    subst h1; subst h2; rfl
  | _ => cases k <;> simp [eqV] at h
 | .pointer none, b, h => by
  cases b with
  | pointer q =>
   cases q with
   | none => rfl
   | some q => obtain ⟨x, y, s⟩ := q; cases s <;> simp [eqV] at h
  | _ => simp [eqV] at h
 | .pointer (some ⟨n, o, s⟩), b, h => by
  cases b with
  | pointer q =>
   cases q with
   | none => cases s <;> simp [eqV] at h
   | some q =>
    obtain ⟨x, y, s'⟩ := q
    cases s <;> cases s' <;> simp [eqV] at h
    ·obtain ⟨rfl, rfl⟩ := h
     rfl
    ·obtain ⟨⟨rfl, rfl⟩, rfl⟩ := h
     rfl
  | _ => cases s <;> simp [eqV] at h
 | .slice none a c, b, h => by
  cases b with
  | slice q _ _ =>
   cases q with
   | none => simp [eqV] at h; obtain ⟨rfl, rfl⟩ := h; rfl
   | some q => obtain ⟨x, y, s⟩ := q; cases s <;> simp [eqV] at h
  | _ => simp [eqV] at h
 | .slice (some ⟨n, o, s⟩) a c, b, h => by
  cases b with
  | slice q _ _ =>
   cases q with
   | none => cases s <;> simp [eqV] at h
   | some q =>
    obtain ⟨x, y, s'⟩ := q
    cases s <;> cases s' <;> simp [eqV] at h
    ·obtain ⟨⟨⟨rfl, rfl⟩, rfl⟩, rfl⟩ := h; rfl
    ·obtain ⟨⟨⟨⟨rfl, rfl⟩, rfl⟩, rfl⟩, rfl⟩ := h; rfl
  | _ => cases s <;> simp [eqV] at h
 | .map none, b, h => by
  cases b with
  | map q =>
   cases q with
   | none => rfl
   | some q => simp [eqV] at h
  | _ => simp [eqV] at h
 | .map (some n), b, h => by
  cases b with
  | map q =>
   cases q with
   | none => simp [eqV] at h
   | some q => simp [eqV] at h; subst h; rfl
  | _ => simp [eqV] at h
 | .chan none, b, h => by
  cases b with
  | chan q =>
   cases q with
   | none => rfl
   | some q => simp [eqV] at h
  | _ => simp [eqV] at h
 | .chan (some n), b, h => by
  cases b with
  | chan q =>
   cases q with
   | none => simp [eqV] at h
   | some q => simp [eqV] at h; subst h; rfl
  | _ => simp [eqV] at h
 | .nilFunc, b, h => by cases b <;> simp [eqV] at h; rfl
 | .nilIface, b, h => by cases b <;> simp [eqV] at h; rfl
 | .func f a c, b, h => by
  cases f with
  | func f =>
   cases b with
   | func g a' c' =>
    cases g with
    | func g =>
     simp [eqV] at h
     obtain ⟨⟨rfl, h1⟩, h2⟩ := h
     rw [eqA_sound a a' h1, eqA_sound c c' h2]
    | _ => simp [eqV] at h
   | _ => simp [eqV] at h
  | yield f =>
   cases b with
   | func g a' c' =>
    cases g with
    | yield g =>
     simp [eqV] at h
     obtain ⟨⟨rfl, h1⟩, h2⟩ := h
     rw [eqA_sound a a' h1, eqA_sound c c' h2]
    | _ => simp [eqV] at h
   | _ => simp [eqV] at h
  | _ => cases b <;> simp [eqV] at h
 | .iface t v, b, h => by
  cases b <;> simp [eqV] at h
  obtain ⟨rfl, h1⟩ := h
  rw [eqV_sound v _ h1]
 | .agg a, b, h => by
  cases b <;> simp [eqV] at h
  rw [eqA_sound a _ h]
 | .tuple a, b, h => by
  cases b <;> simp [eqV] at h
  rw [eqA_sound a _ h]
theorem eqA_sound : ∀ (a b : Array Value), eqA a b = true → a = b
 | ⟨a⟩, ⟨b⟩, h => by
  simp only [eqA] at h
  rw [eqL_sound a b h]
theorem eqL_sound : ∀ (a b : List Value), eqL a b = true → a = b
 | [], [], _ => rfl
 | [], _ :: _, h => by simp [eqL] at h
 | _ :: _, [], h => by simp [eqL] at h
 | x :: l, y :: m, h => by
  simp only [eqL, Bool.and_eq_true] at h
  rw [eqV_sound x y h.1, eqL_sound l m h.2]
end
theorem eqO_sound {a b : HO} (h : eqO a b = true) : a = b := by
 unfold eqO at h
 split at h
 ·simp only [Bool.and_eq_true] at h
  obtain ⟨h1, h2⟩ := h
  have := Nat.eq_of_beq_eq_true h1
  subst this
  rw [eqL_sound _ _ h2]
 ·rfl
 ·have := Nat.eq_of_beq_eq_true h
  subst this
  rfl
 ·cases h
theorem quiet_free {P : Program} {h h' : Heap} {op : Op} {ty : TypeId} {args : List Value} (hr : reads op = false) : quiet P h op ty args = quiet P h' op ty args := by
 cases op <;> first | (simp [reads] at hr; done) | rfl | (unfold quiet; split <;> first | rfl | (rename_i hh; cases hh))
theorem tmps_looks {ops : Array Oper} {o : Oper} {t : Nat} (h : Operand.tmp t ∈ opnds o.op) : looksB ops o t = true := by
 unfold looksB
 rw [Bool.or_eq_true]
 exact .inl (List.any_eq_true.2 ⟨_, h, by simp [isTmp]⟩)
theorem rowOk_spec {ops : Array Oper} {ms : List Nat} {i : Nat} {o : Oper} : ∀ {l : List Oper} {k : Nat}, rowOk ops ms i o k l = true → ∀ j p, l[j]? = some p → pairOk ops ms i o (k + j) p = true
 | [], _, _, j, p, h => by simp at h
 | q :: l, k, h, j, p, hp => by
  simp only [rowOk, Bool.and_eq_true] at h
  cases j with
  | zero => simp at hp; subst hp; exact h.1
  | succ j =>
   have := rowOk_spec h.2 j p (by simpa using hp)
   rwa [show k + 1 + j = k + (j + 1) by omega] at this
theorem allOk_spec {ops : Array Oper} {ms : List Nat} : ∀ {l : List Oper} {k : Nat}, allOk ops ms k l = true → ∀ i o, l[i]? = some o → ∀ j p, ops[j]? = some p → pairOk ops ms (k + i) o j p = true
 | [], _, _, i, o, h => by simp at h
 | q :: l, k, h, i, o, ho => by
  simp only [allOk, Bool.and_eq_true] at h
  cases i with
  | zero =>
   simp at ho; subst ho
   intro j p hp
   have := rowOk_spec h.1 j p (by simpa using hp)
   simpa using this
  | succ i =>
   intro j p hp
   have := allOk_spec h.2 i o (by simpa using ho) j p hp
   rwa [show k + 1 + i = k + (i + 1) by omega] at this
structure Static (ops : Array Oper) : Prop where
 low : ∀ (i : Nat) (o : Oper) (z : Nat), ops[i]? = some o → waits o z = true → z < i
 own : ∀ (i : Nat) (o : Oper), ops[i]? = some o → ∀ d, o.dst = some d → looksB ops o d = false
 pair : ∀ (i : Nat) (o : Oper) (j : Nat) (p : Oper), i ≠ j → ops[i]? = some o → ops[j]? = some p → ∀ d, o.dst = some d → p.dst ≠ some d ∧ (looksB ops p d = true → trW (masks ops.toList []) j i = true ∨ trW (masks ops.toList []) i j = true)
theorem static_spec {ops : Array Oper} (h : staticB ops = true) : Static ops := by
 unfold staticB at h
 simp only [Bool.and_eq_true] at h
 obtain ⟨h1, h2⟩ := h
 have hp : ∀ i o, ops[i]? = some o → ∀ j p, ops[j]? = some p → pairOk ops (masks ops.toList []) i o j p = true := fun i o ho j p hp => by
  have := allOk_spec h2 i o (by simpa using ho) j p hp
  simpa using this
 refine ⟨fun i o z ho hz => ?_, fun i o ho d hd => ?_, fun i o j p hij ho hpj d hd => ?_⟩
 ·have := edgesB_spec h1 i o z (by simpa using ho) hz
  omega
 ·have := hp i o ho i o ho
  unfold pairOk at this
  rw [Nat.beq_refl] at this
  simp only [hd] at this
  simpa using this
 ·have := hp i o ho j p hpj
  unfold pairOk at this
  have hf : Nat.beq i j = false := by
   cases hb : Nat.beq i j with
   | false => rfl
   | true => exact absurd (Nat.eq_of_beq_eq_true hb) hij
  rw [hf] at this
  simp only [hd, Bool.and_eq_true] at this
  refine ⟨fun e => ?_, fun hl => ?_⟩
  ·have h3 := this.1
   rw [e] at h3
   simp [Nat.beq_refl] at h3
  ·have h3 := this.2
   rw [hl] at h3
   simpa using h3
theorem readyB_spec {done : Nat} : ∀ {l : List Edge}, readyB done l = true ↔ ∀ e ∈ l, bindsB e = true → done.testBit e.on = true
 | [] => by simp [readyB]
 | e :: l => by
  have ih := readyB_spec (done := done) (l := l)
  simp only [readyB, Bool.and_eq_true, Bool.or_eq_true, Bool.not_eq_true', ih, List.mem_cons, forall_eq_or_imp]
  constructor
  ·rintro ⟨h1, h2⟩
   refine ⟨fun hb => ?_, h2⟩
   rcases h1 with h | h
   ·rw [hb] at h; cases h
   ·exact h
  ·rintro ⟨h1, h2⟩
   refine ⟨?_, h2⟩
   cases hb : bindsB e with
   | true => exact .inr (h1 hb)
   | false => exact .inl rfl
theorem ready_waits {done : Nat} {o : Oper} (h : readyB done o.after.toList = true) : ∀ z, waits o z = true → done.testBit z = true := fun z hz => by
 obtain ⟨e, he, hb, rfl⟩ := waitsL_iff.1 hz
 exact readyB_spec.1 h e he hb
theorem bit_or {done i j : Nat} : (done ||| 2 ^ i).testBit j = true ↔ done.testBit j = true ∨ j = i := by
 rw [Nat.testBit_or, Bool.or_eq_true, Nat.testBit_two_pow]
 simp only [decide_eq_true_eq]
 exact or_congr_right eq_comm
theorem pickQ_spec {P : Program} {ops : Array Oper} {done : Nat} {env : Tr Value} : ∀ {l : List (Nat × Oper)} {i : Nat} {o : Oper} {b : Bool} {r : List (Nat × Oper)}, pickQ P ops done env l = some ((i, o, b), r) →
  (i, o) ∈ l ∧ readyB done o.after.toList = true ∧ wantsZ ops o env = some b ∧ (∃ l1 l2, l = l1 ++ (i, o) :: l2 ∧ r = l1 ++ l2)
 | [], _, _, _, _, h => by cases h
 | (j, p) :: l, i, o, b, r, h => by
  unfold pickQ at h
  split at h
  ·rename_i c hc
   simp only [Option.some.injEq, Prod.mk.injEq] at h
   obtain ⟨⟨rfl, rfl, rfl⟩, rfl⟩ := h
   split at hc
   ·rename_i hr
    refine ⟨by simp, hr, ?_, [], l, rfl, rfl⟩
    split at hc
    ·rename_i hw; cases hc; exact hw
    ·rename_i hw
     split at hc
     ·cases hc
     ·cases hc; exact hw
    ·cases hc
   ·cases hc
  ·split at h
   ·rename_i x r' hx
    simp only [Option.some.injEq, Prod.mk.injEq] at h
    obtain ⟨rfl, rfl⟩ := h
    obtain ⟨h1, h2, h3, l1, l2, h4, h5⟩ := pickQ_spec hx
    exact ⟨by simp [h1], h2, h3, (j, p) :: l1, l2, by rw [h4]; rfl, by rw [h5]; rfl⟩
   ·cases h
theorem pickL_spec {done : Nat} : ∀ {l : List (Nat × Oper)} {i : Nat} {o : Oper} {r : List (Nat × Oper)}, pickL done l = some ((i, o), r) → readyB done o.after.toList = true ∧ (∃ l1 l2, l = l1 ++ (i, o) :: l2 ∧ r = l1 ++ l2)
 | [], _, _, _, h => by cases h
 | (j, p) :: l, i, o, r, h => by
  unfold pickL at h
  split at h
  ·rename_i hr
   simp only [Option.some.injEq, Prod.mk.injEq] at h
   obtain ⟨⟨rfl, rfl⟩, rfl⟩ := h
   exact ⟨hr, [], l, rfl, rfl⟩
  ·split at h
   ·rename_i x r' hx
    simp only [Option.some.injEq, Prod.mk.injEq] at h
    obtain ⟨rfl, rfl⟩ := h
    obtain ⟨h2, l1, l2, h4, h5⟩ := pickL_spec hx
    exact ⟨h2, (j, p) :: l1, l2, by rw [h4]; rfl, by rw [h5]; rfl⟩
   ·cases h
theorem noneReady_spec {done : Nat} : ∀ {l : List (Nat × Oper)}, noneReady done l = true → ∀ x ∈ l, readyB done x.2.after.toList = false
 | [], _, x, hx => by cases hx
 | (j, p) :: l, h, x, hx => by
  simp only [noneReady, Bool.and_eq_true, Bool.not_eq_true'] at h
  rcases List.mem_cons.1 hx with rfl | hx
  ·exact h.1
  ·exact noneReady_spec h.2 x hx
theorem allHold_spec {P : Program} {h : Heap} : ∀ {l : List Watch}, allHold P h l = true → ∀ x ∈ l, x.holds P h = true
 | [], _, x, hx => by cases hx
 | y :: l, hh, x, hx => by
  unfold allHold at hh
  split at hh
  ·rename_i h1
   rcases List.mem_cons.1 hx with rfl | hx
   ·exact h1
   ·exact allHold_spec hh x hx
  ·cases hh
theorem mem_dropW {ms : List Nat} {i : Nat} : ∀ {l : List Watch} {x : Watch}, x ∈ dropW ms i l ↔ x ∈ l ∧ trW ms i x.i = false
 | [], x => by simp [dropW]
 | y :: l, x => by
  unfold dropW
  cases ht : trW ms i y.i with
  | true =>
   simp only
   rw [mem_dropW]
   constructor
   ·rintro ⟨h1, h2⟩; exact ⟨by simp [h1], h2⟩
   ·rintro ⟨h1, h2⟩
    rcases List.mem_cons.1 h1 with rfl | h1
    ·rw [ht] at h2; cases h2
    ·exact ⟨h1, h2⟩
  | false =>
   simp only [List.mem_cons]
   rw [mem_dropW]
   constructor
   ·rintro (rfl | ⟨h1, h2⟩)
    ·exact ⟨.inl rfl, ht⟩
    ·exact ⟨.inr h1, h2⟩
   ·rintro ⟨rfl | h1, h2⟩
    ·exact .inl rfl
    ·exact .inr ⟨h1, h2⟩
section
variable {E : Env} {σ : Nat → Nat → Value} [SigOk σ] {w0 : World} {call : FuncId → List Value → Heap → Nat → R (List Out)} {ρ0 : Ren} {nx0 n : Nat} {ops : Array Oper}
def evalF (f : Nat → Option Value) : Operand → Option Value
 | .tmp t => f t
 | .const v => (match plainD v with | true => some v | false => none)
 | .global _ => none
 | .func f => some (.func (.func f) #[] #[])
theorem evalZ_eq (env : Tr Value) (x : Operand) : evalZ env x = evalF env.get x := by cases x <;> rfl
def wantsF (ops : Array Oper) (o : Oper) (f : Nat → Option Value) : Option Bool := match o.guard with
 | none => some true
 | some (j, want) => (match dstOf ops j with
  | some d => (match f d with
   | some (.bool b) => (match b, want with
    | true, true => some true
    | false, false => some true
    | _, _ => some false)
   | some (.tuple _) => some false
   | _ => none)
  | none => none)
theorem wantsZ_eq (ops : Array Oper) (o : Oper) (env : Tr Value) : wantsZ ops o env = wantsF ops o env.get := rfl
def hasW (ops : Array Oper) (i t : Nat) : Prop := ∃ j p, ops[j]? = some p ∧ p.dst = some t ∧ trW (masks ops.toList []) i j = true
open Classical in
/-- what an operation finds in a temporary: what was written there, if it waits for that; or else what stood there ahead of the region -/
noncomputable def evA (ops : Array Oper) (e0 env : Tr Value) (i t : Nat) : Option Value := if hasW ops i t then env.get t else e0.get t
structure Plan (ops : Array Oper) (e0 : Tr Value) (todo : List (Nat × Oper)) (done : Nat) (ws : List Watch) (st : St) : Prop where
 opsAt : ∀ x ∈ todo, ops[x.1]? = some x.2
 nodup : (todo.map (·.1)).Nodup
 rest : ∀ (i : Nat) (o : Oper), ops[i]? = some o → (done.testBit i = true ↔ i ∉ todo.map (·.1))
 closed : ∀ (i : Nat) (o : Oper) (z : Nat), ops[i]? = some o → done.testBit i = true → waits o z = true → done.testBit z = true
 names : ∀ x ∈ ws, ∀ m ob, x.obj = some (m, ob) → m < st.nx ∧ ∀ y ∈ ws, ∀ ob', y.obj = some (m, ob') → x.i = y.i
 env : ∀ k, (∀ (j : Nat) (p : Oper), ops[j]? = some p → p.dst = some k → done.testBit j = false) → st.env.get k = e0.get k
structure Valid (P : Program) (ops : Array Oper) (e0 : Tr Value) (ws : List Watch) (st : St) (i : Nat) (o : Oper) : Prop where
 get : ∃ b, wantsF ops o (evA ops e0 st.env i) = some b ∧
  (b = false → ∀ d, o.dst = some d → ∀ x, st.env.get d = some x → x = undef) ∧
  (b = true → ∃ args v, argsOf (evalF (evA ops e0 st.env i)) (opnds o.op) = some args ∧ (∀ d, o.dst = some d → ∀ x, st.env.get d = some x → x = v) ∧
   ((reads o.op = false ∧ ∃ h0, quiet P h0 o.op o.type args = some v) ∨ (⟨i, o.op, o.type, args, v, none⟩ : Watch) ∈ ws ∨
    ∃ m ob, lays P o.op args m = some (v, ob) ∧ (⟨i, o.op, o.type, args, v, some (m, ob)⟩ : Watch) ∈ ws))
structure Sim (E : Env) (σ : Nat → Nat → Value) (w0 : World) (ρ0 : Ren) (nx0 n : Nat) (ops : Array Oper) (e0 : Tr Value) (done : Nat) (ws : List Watch) (st : St) (listed : Array Bool) (ρ : Ren) (a : Act) (w : World) : Prop where
 sz : listed.size = ops.size
 sub : ∀ i, i < ops.size → listed.getD i false = true → done.testBit i = true
 closed : ∀ (i : Nat) (o : Oper) (z : Nat), ops[i]? = some o → listed.getD i false = true → waits o z = true → listed.getD z false = true
 env1 : ∀ (k : Nat) (x : Value) (j : Nat) (p : Oper), ops[j]? = some p → p.dst = some k → listed.getD j false = true → st.env.get k = some x → Rep σ ρ x (a.tmps.getD k undef)
 env0 : ∀ k x, (∀ (j : Nat) (p : Oper), ops[j]? = some p → p.dst = some k → listed.getD j false = false) → e0.get k = some x → Rep σ ρ x (a.tmps.getD k undef)
 wi : WI σ w0 st.heap ρ w
 fresh : Fresh ρ st.nx
 free : ∀ x ∈ ws, ∀ m ob, x.obj = some (m, ob) → listed.getD x.i false = false → ρ m = none
 valid : ∀ (i : Nat) (o : Oper), ops[i]? = some o → done.testBit i = true → listed.getD i false = false → Valid E.P ops e0 ws st i o
 defers : a.defers = []
 size : a.tmps.size = n
 le0 : ρ0.le ρ
 new0 : New ρ0 ρ nx0
 nxle : nx0 ≤ st.nx
 low : ∀ x ∈ ws, ∀ m ob, x.obj = some (m, ob) → nx0 ≤ m
variable {e0 : Tr Value} {todo : List (Nat × Oper)} {done : Nat} {ws : List Watch} {st : St} {listed : Array Bool} {ρ : Ren} {a : Act} {w : World}
theorem argsOf_congr {f g : Operand → Option Value} : ∀ {l : List Operand}, (∀ x ∈ l, f x = g x) → argsOf f l = argsOf g l
 | [], _ => rfl
 | x :: l, h => by
  simp only [argsOf, h x (by simp), argsOf_congr (l := l) fun y hy => h y (by simp [hy])]
theorem wantsF_congr {o : Oper} {f g : Nat → Option Value} (h : ∀ t, looksB ops o t = true → f t = g t) : wantsF ops o f = wantsF ops o g := by
 unfold wantsF
 split
 ·rfl
 ·rename_i q want hg
  split
  ·rename_i d hqd
   rw [h d (by
    unfold looksB
    rw [Bool.or_eq_true]
    refine .inr ?_
    rw [hg]
    simp [hqd, Nat.beq_refl])]
  ·rfl
theorem evalF_congr {o : Oper} {f g : Nat → Option Value} (h : ∀ t, looksB ops o t = true → f t = g t) : argsOf (evalF f) (opnds o.op) = argsOf (evalF g) (opnds o.op) := argsOf_congr fun x hx => by
 cases x with
 | tmp t => exact h t (tmps_looks hx)
 | _ => rfl
theorem trW_listed (hcl : ∀ (i : Nat) (o : Oper) (z : Nat), ops[i]? = some o → listed.getD i false = true → waits o z = true → listed.getD z false = true) {i : Nat} {o : Oper} (ho : ops[i]? = some o) (hw : ∀ z, waits o z = true → listed.getD z false = true) {b : Nat}
  (ht : trW (masks ops.toList []) i b = true) : listed.getD b false = true :=
 trW_closed (ops := ops) (C := fun z => listed.getD z false = true) (fun a o z ha hoa hwa => hcl a o z hoa ha hwa) i b (fun o2 z2 ho2 hw2 => by rw [ho, Option.some.injEq] at ho2; subst ho2; exact hw z2 hw2) ht
theorem trW_done (hcl : ∀ (i : Nat) (o : Oper) (z : Nat), ops[i]? = some o → done.testBit i = true → waits o z = true → done.testBit z = true) {i : Nat} {o : Oper} (ho : ops[i]? = some o) (hw : ∀ z, waits o z = true → done.testBit z = true) {b : Nat}
  (ht : trW (masks ops.toList []) i b = true) : done.testBit b = true :=
 trW_closed (ops := ops) (C := fun z => done.testBit z = true) (fun a o z ha hoa hwa => hcl a o z hoa ha hwa) i b (fun o2 z2 ho2 hw2 => by rw [ho, Option.some.injEq] at ho2; subst ho2; exact hw z2 hw2) ht
theorem Sim.rep (hs : Static ops) (k : Sim E σ w0 ρ0 nx0 n ops e0 done ws st listed ρ a w) {i : Nat} {o : Oper} (ho : ops[i]? = some o) (hli : listed.getD i false = false) (hw : ∀ z, waits o z = true → listed.getD z false = true) {t : Nat} (ht : looksB ops o t = true) {x : Value}
  (hx : evA ops e0 st.env i t = some x) : Rep σ ρ x (a.tmps.getD t undef) := by
 unfold evA at hx
 split at hx
 ·rename_i hW
  obtain ⟨j, p, hj, hd, htr⟩ := hW
  exact k.env1 t x j p hj hd (trW_listed k.closed ho hw htr) hx
 ·rename_i hW
  refine k.env0 t x (fun j p hj hd => ?_) hx
  cases hl : listed.getD j false with
  | false => rfl
  | true =>
   by_cases hij : j = i
   ·subst hij; rw [hli] at hl; cases hl
   ·rcases (hs.pair j p i o hij hj ho t hd).2 ht with h | h
    ·exact absurd ⟨j, p, hj, hd, h⟩ hW
    ·have := trW_listed k.closed hj (fun z hz => k.closed j p z hj hl hz) h
     rw [hli] at this; cases this
theorem Sim.args (hs : Static ops) (k : Sim E σ w0 ρ0 nx0 n ops e0 done ws st listed ρ a w) {i : Nat} {o : Oper} (ho : ops[i]? = some o) (hli : listed.getD i false = false) (hw : ∀ z, waits o z = true → listed.getD z false = true) : ∀ {l : List Operand} {args : List Value}, (∀ x ∈ l, x ∈ opnds o.op) → argsOf (evalF (evA ops e0 st.env i)) l = some args → RepL σ ρ args (l.map a.eval)
 | [], args, _, h => by simp only [argsOf, Option.some.injEq] at h; subst h; exact .nil
 | x :: l, args, hl, h => by
  simp only [argsOf] at h
  split at h
  ·rename_i v hv
   split at h
   ·rename_i vs hvs
    cases h
    refine .cons ?_ (k.args hs ho hli hw (fun y hy => hl y (by simp [hy])) hvs)
    cases x with
    | tmp t => exact k.rep hs ho hli hw (tmps_looks (hl _ (by simp))) hv
    | const c =>
     simp only [evalF] at hv
     split at hv
     ·rename_i hp; cases hv; exact rep_plainD hp
     ·cases hv
    | global g => cases hv
    | func f => cases hv; exact .fn (a := []) (a' := []) (c := []) (c' := []) .nil .nil
   ·cases h
  ·cases h
theorem Sim.wants (hs : Static ops) (k : Sim E σ w0 ρ0 nx0 n ops e0 done ws st listed ρ a w) {i : Nat} {o : Oper} (ho : ops[i]? = some o) (hli : listed.getD i false = false) (hw : ∀ z, waits o z = true → listed.getD z false = true) {b : Bool} (h : wantsF ops o (evA ops e0 st.env i) = some b) : Region.wanted o (yielded ops a.tmps) = b := by
 unfold wantsF at h
 split at h
 ·rename_i hg; cases h; simp [Region.wanted, hg]
 ·rename_i j want hg
  split at h
  ·rename_i d hjd
   have hlook : looksB ops o d = true := by
    unfold looksB
    rw [Bool.or_eq_true]
    refine .inr ?_
    rw [hg]
    simp [hjd, Nat.beq_refl]
   have henv : ∀ x, evA ops e0 st.env i d = some x → Rep σ ρ x (a.tmps.getD d undef) := fun x hx => k.rep hs ho hli hw hlook hx
   split at h
   ·rename_i c hc
    have hv : a.tmps.getD d undef = .bool c := (henv _ hc).bool
    have hw : Region.wanted o (yielded ops a.tmps) = (c == want) := by
     simp only [Region.wanted, hg, yielded_of hjd hv]
     cases c <;> cases want <;> rfl
    rw [hw]
    split at h
    ·cases h; rfl
    ·cases h; rfl
    ·rename_i h1 h2
     cases h
     cases c <;> cases want <;> first | rfl | (exfalso; simp_all)
   ·rename_i c hc
    cases h
    obtain ⟨c', hv, _⟩ := (henv _ hc).tup_inv
    have hy : yielded ops a.tmps j = none := by
     unfold dstOf at hjd
     split at hjd
     ·rename_i o2 ho2
      unfold yielded
      simp only [ho2, Option.bind_some, hjd]
      rw [Array.getD_eq_getD_getElem?] at hv
      cases hl : a.tmps[d]? with
      | none => rfl
      | some v => rw [hl, Option.getD_some] at hv; subst hv; rfl
     ·cases hjd
    simp [Region.wanted, hg, hy]
   ·cases h
  ·cases h
theorem Plan.evA (hs : Static ops) (hp : Plan ops e0 todo done ws st) {i : Nat} {o : Oper} (ho : ops[i]? = some o) (hni : done.testBit i = false) (t : Nat) (ht : looksB ops o t = true) : Z.evA ops e0 st.env i t = st.env.get t := by
 unfold Z.evA
 split
 ·rfl
 ·rename_i hW
  refine (hp.env t fun j p hj hd => ?_).symm
  cases hb : done.testBit j with
  | false => rfl
  | true =>
   by_cases hij : j = i
   ·subst hij; rw [hni] at hb; cases hb
   ·rcases (hs.pair j p i o hij hj ho t hd).2 ht with h | h
    ·exact absurd ⟨j, p, hj, hd, h⟩ hW
    ·have := trW_done hp.closed hj (fun z hz => hp.closed j p z hj hb hz) h
     rw [hni] at this; cases this
theorem getD_set_same {l : Array Bool} {i : Nat} (h : i < l.size) : (l.setIfInBounds i true).getD i false = true := by
 simp [h]
theorem getD_set_ne {l : Array Bool} {i j : Nat} (h : i ≠ j) : (l.setIfInBounds i true).getD j false = l.getD j false := by
 simp [Array.getD_eq_getD_getElem?, Array.getElem?_setIfInBounds, h]
theorem Sim.did (hs : Static ops) (k : Sim E σ w0 ρ0 nx0 n ops e0 done ws st listed ρ a w) {i : Nat} {o : Oper} (ho : ops[i]? = some o) (hdn : done.testBit i = true) (hw : ∀ z, waits o z = true → listed.getD z false = true) (hd : ∀ d, o.dst = some d → d < n)
  {ρ' : Ren} {v' : Value} {w' : World} (hle : ρ.le ρ') (hv : ∀ d, o.dst = some d → ∀ x, st.env.get d = some x → Rep σ ρ' x v') (hwi : WI σ w0 st.heap ρ' w') (hf : Fresh ρ' st.nx) (hn0 : New ρ0 ρ' nx0)
  (hfree : ∀ x ∈ ws, ∀ m ob, x.obj = some (m, ob) → listed.getD x.i false = false → x.i ≠ i → ρ' m = none) :
  Sim E σ w0 ρ0 nx0 n ops e0 done ws st (listed.setIfInBounds i true) ρ' (a.put o.dst v') w' := by
 have hi : i < listed.size := by rw [k.sz]; exact (Array.getElem?_eq_some_iff.1 ho).1
 have hset : ∀ j, (listed.setIfInBounds i true).getD j false = true ↔ j = i ∨ listed.getD j false = true := fun j => by
  by_cases e : i = j
  ·subst e; simp [getD_set_same hi]
  ·rw [getD_set_ne e]; constructor
   ·exact .inr
   ·rintro (h | h)
    ·exact absurd h.symm e
    ·exact h
 have hne : ∀ m, o.dst ≠ some m → (a.put o.dst v').tmps.getD m undef = a.tmps.getD m undef := fun m hdm => by
  cases hdd : o.dst with
  | none => rfl
  | some d => rw [put_getD a rfl (by rw [k.size]; exact hd d hdd), if_neg (fun e => hdm (by rw [hdd, e]))]
 refine ⟨by simp [k.sz], fun j hj hl => ?_, fun j p z hp hl hz => ?_, fun m x j p hj hdj hl hx => ?_, fun m x hall hx => ?_, hwi, hf, fun x hx m ob hob hl => ?_, fun j p hp hdj hl => ?_, ?_, ?_, Ren.le_trans k.le0 hle, hn0, k.nxle, k.low⟩
 ·rcases (hset j).1 hl with rfl | h
  ·exact hdn
  ·exact k.sub j hj h
 ·rcases (hset j).1 hl with rfl | h
  ·rw [ho] at hp; cases hp
   exact (hset z).2 (.inr (hw z hz))
  ·exact (hset z).2 (.inr (k.closed j p z hp h hz))
 ·by_cases hdm : o.dst = some m
  ·rw [put_getD a hdm (by rw [k.size]; exact hd m hdm), if_pos rfl]
   exact hv m hdm x hx
  ·rw [hne m hdm]
   rcases (hset j).1 hl with rfl | h
   ·rw [ho] at hj; cases hj; exact absurd hdj hdm
   ·exact (k.env1 m x j p hj hdj h hx).mono hle
 ·have hdm : o.dst ≠ some m := fun e => by
   have := hall i o ho e
   rw [getD_set_same hi] at this; cases this
  rw [hne m hdm]
  refine (k.env0 m x (fun j p hj hdj => ?_) hx).mono hle
  have := hall j p hj hdj
  by_cases e : i = j
  ·subst e; rw [getD_set_same hi] at this; cases this
  ·rwa [getD_set_ne e] at this
 ·have h1 : ¬ (listed.setIfInBounds i true).getD x.i false = true := by rw [hl]; decide
  rw [hset] at h1
  have h2 : listed.getD x.i false = false := by
   cases hh : listed.getD x.i false with
   | false => rfl
   | true => exact absurd (.inr hh) h1
  exact hfree x hx m ob hob h2 (fun e => h1 (.inl e))
 ·have h1 : ¬ (listed.setIfInBounds i true).getD j false = true := by rw [hl]; decide
  rw [hset] at h1
  have h2 : listed.getD j false = false := by
   cases hh : listed.getD j false with
   | false => rfl
   | true => exact absurd (.inr hh) h1
  exact k.valid j p hp hdj h2
 ·cases o.dst <;> exact k.defers
 ·cases hdd : o.dst with
  | none => exact k.size
  | some d => simp [Act.put, k.size]
theorem Plan.next (hp : Plan ops e0 todo done ws st) (hnn : n ≤ 1000000) {i : Nat} {o : Oper} {l1 l2 : List (Nat × Oper)} (hl : todo = l1 ++ (i, o) :: l2) (hr : readyB done o.after.toList = true) (hd : ∀ d, o.dst = some d → d < n) {ws' : List Watch} {st' : St} {v : Value} {h' : Heap} {nx' : Nat} (hst : st' = St.set st.env o.dst v h' nx') (hnm : ∀ x ∈ ws', ∀ m ob, x.obj = some (m, ob) → m < st'.nx ∧ ∀ y ∈ ws', ∀ ob', y.obj = some (m, ob') → x.i = y.i) :
  Plan ops e0 (l1 ++ l2) (done ||| 2 ^ i) ws' st' := by
 subst hl
 have hoi : ops[i]? = some o := hp.opsAt (i, o) (by simp)
 have hnd := hp.nodup
 simp only [List.map_append, List.map_cons] at hnd
 have hni : i ∉ (l1 ++ l2).map (·.1) := by
  simp only [List.map_append]
  have := List.nodup_append.1 hnd
  intro hm
  rcases List.mem_append.1 hm with h | h
  ·exact this.2.2 i h i (by simp) rfl
  ·exact (List.nodup_cons.1 this.2.1).1 h
 refine ⟨fun x hx => hp.opsAt x (by rcases List.mem_append.1 hx with h | h <;> simp [h]), ?_, fun j p hj => ?_, fun j p z hj hdj hz => ?_, hnm, fun m hall => ?_⟩
 ·simp only [List.map_append]
  exact hnd.sublist ((List.Sublist.refl _).append (List.sublist_cons_self _ _))
 ·rw [bit_or, hp.rest j p hj]
  simp only [List.map_append, List.map_cons, List.mem_append, List.mem_cons, not_or]
  constructor
  ·rintro (⟨h1, _, h3⟩ | rfl)
   ·exact ⟨h1, h3⟩
   ·simpa [not_or] using hni
  ·rintro ⟨h1, h2⟩
   by_cases e : j = i
   ·exact .inr e
   ·exact .inl ⟨h1, e, h2⟩
 ·rw [bit_or] at hdj ⊢
  rcases hdj with h | rfl
  ·exact .inl (hp.closed j p z hj h hz)
  ·rw [hoi] at hj; cases hj
   exact .inl (ready_waits hr z hz)
 ·have hdm : o.dst ≠ some m := fun e => by
   have := hall i o hoi e
   have h2 : (done ||| 2 ^ i).testBit i = true := bit_or.2 (.inr rfl)
   rw [h2] at this; cases this
  have h1 : st.env.get m = e0.get m := hp.env m fun j p hj hdj => by
   have := hall j p hj hdj
   cases hb : done.testBit j with
   | false => rfl
   | true =>
    have h2 : (done ||| 2 ^ i).testBit j = true := bit_or.2 (.inl hb)
    rw [h2] at this; cases this
  rw [hst, ← h1]
  cases hdd : o.dst with
  | none => rfl
  | some d =>
   show (st.env.ins d (some v)).get m = _
   rw [Tr.get_ins_eq m (Nat.le_trans (Nat.le_of_lt (hd d hdd)) hnn), if_neg (fun e => hdm (by rw [hdd, e]))]
theorem Valid.next (hs : Static ops) (hp : Plan ops e0 todo done ws st) (hnn : n ≤ 1000000) {i j : Nat} {o p : Oper} (ho : ops[i]? = some o) (hd : ∀ d, o.dst = some d → d < n) (hni : done.testBit i = false) (hj : ops[j]? = some p) (hdj : done.testBit j = true) {ws' : List Watch} {v : Value} {h' : Heap} {nx' : Nat}
  (hws : ∀ x ∈ ws, x.i = j → x ∈ ws') (hv : Valid E.P ops e0 ws st j p) : Valid E.P ops e0 ws' (St.set st.env o.dst v h' nx') j p := by
 have hij : i ≠ j := fun e => by subst e; rw [hni] at hdj; cases hdj
 have hlook : ∀ t, looksB ops p t = true → evA ops e0 (St.set st.env o.dst v h' nx').env j t = evA ops e0 st.env j t := fun t ht => by
  unfold evA
  split
  ·rename_i hW
   cases hdd : o.dst with
   | none => rfl
   | some d =>
    have htd : t ≠ d := fun e => by
     subst e
     obtain ⟨q, u, hq, hqd, hqt⟩ := hW
     have hqi : q = i := by
      by_cases e : q = i
      ·exact e
      ·exact absurd hdd (hs.pair q u i o e hq ho t hqd).1
     subst hqi
     have := trW_done hp.closed hj (fun z hz => hp.closed j p z hj hdj hz) hqt
     rw [hni] at this; cases this
    show (st.env.ins d (some v)).get t = _
    rw [Tr.get_ins_eq t (Nat.le_trans (Nat.le_of_lt (hd d hdd)) hnn), if_neg htd]
  ·rfl
 have hdst : ∀ d, p.dst = some d → (St.set st.env o.dst v h' nx').env.get d = st.env.get d := fun d hpd => by
  cases hdd : o.dst with
  | none => rfl
  | some d' =>
   have hne : d ≠ d' := fun e => by subst e; exact (hs.pair i o j p hij ho hj d hdd).1 hpd
   show (st.env.ins d' (some v)).get d = _
   rw [Tr.get_ins_eq d (Nat.le_trans (Nat.le_of_lt (hd d' hdd)) hnn), if_neg hne]
 have hargs := evalF_congr (o := p) hlook
 have hwants := wantsF_congr (o := p) hlook
 obtain ⟨b, h1, h2, h3⟩ := hv.get
 refine ⟨b, by rw [hwants]; exact h1, fun hb d hpd x hx => h2 hb d hpd x (by rw [← hdst d hpd]; exact hx), fun hb => ?_⟩
 obtain ⟨args, u, g1, g2, g3⟩ := h3 hb
 refine ⟨args, u, by rw [hargs]; exact g1, fun d hpd x hx => g2 d hpd x (by rw [← hdst d hpd]; exact hx), ?_⟩
 rcases g3 with g | g | ⟨m, ob, g, g'⟩
 ·exact .inl g
 ·exact .inr (.inl (hws _ g rfl))
 ·exact .inr (.inr ⟨m, ob, g, hws _ g' rfl⟩)
theorem Sim.plan (hs : Static ops) (hp : Plan ops e0 todo done ws st) (hnn : n ≤ 1000000) (k : Sim E σ w0 ρ0 nx0 n ops e0 done ws st listed ρ a w) {i : Nat} {o : Oper} (ho : ops[i]? = some o) (hd : ∀ d, o.dst = some d → d < n) (hni : done.testBit i = false)
  {ws' : List Watch} {v : Value} {h' : Heap} {nx' : Nat} (hnx : st.nx ≤ nx') (hh : ∀ m o, m < st.nx → h'.get m = some o → st.heap.get m = some o) (hws : ∀ x ∈ ws, x ∈ ws') (hws2 : ∀ x ∈ ws', x ∈ ws ∨ (x.i = i ∧ ∀ m ob, x.obj = some (m, ob) → st.nx ≤ m))
  (hv : Valid E.P ops e0 ws' (St.set st.env o.dst v h' nx') i o) : Sim E σ w0 ρ0 nx0 n ops e0 (done ||| 2 ^ i) ws' (St.set st.env o.dst v h' nx') listed ρ a w := by
 have hi : i < ops.size := (Array.getElem?_eq_some_iff.1 ho).1
 have hli : listed.getD i false = false := by
  cases hl : listed.getD i false with
  | false => rfl
  | true => have := k.sub i hi hl; rw [hni] at this; cases this
 have hnxs : (St.set st.env o.dst v h' nx').nx = nx' := by cases o.dst <;> rfl
 have hhs : (St.set st.env o.dst v h' nx').heap = h' := by cases o.dst <;> rfl
 refine ⟨k.sz, fun j hj hl => bit_or.2 (.inl (k.sub j hj hl)), k.closed, fun m x j p hj hdj hl hx => ?_, k.env0, ?_, ?_, fun x hx m ob hob hl => ?_, fun j p hj hdj hl => ?_, k.defers, k.size, k.le0, k.new0, ?_, fun x hx m ob hob => ?_⟩
 ·cases hdd : o.dst with
  | none => rw [hdd] at hx; exact k.env1 m x j p hj hdj hl hx
  | some d =>
   rw [hdd] at hx
   by_cases e : m = d
   ·subst e
    by_cases hji : j = i
    ·subst hji; rw [hli] at hl; cases hl
    ·exact absurd hdd (hs.pair j p i o hji hj ho m hdj).1
   ·have hx' : (st.env.ins d (some v)).get m = some x := hx
    rw [Tr.get_ins_eq m (Nat.le_trans (Nat.le_of_lt (hd d hdd)) hnn), if_neg e] at hx'
    exact k.env1 m x j p hj hdj hl hx'
 ·rw [hhs]
  exact k.wi.weaken' fun m x o hm ho => .inl (hh m o (k.fresh m x hm) ho)
 ·rw [hnxs]
  exact fun m x hm => Nat.lt_of_lt_of_le (k.fresh m x hm) hnx
 ·rcases hws2 x hx with h | ⟨_, h⟩
  ·exact k.free x h m ob hob hl
  ·have := h m ob hob
   cases hm : ρ m with
   | none => rfl
   | some y => have := k.fresh m y hm; omega
 ·rcases bit_or.1 hdj with h | rfl
  ·exact (k.valid j p hj h hl).next hs hp hnn ho hd hni hj h (fun x hx _ => hws x hx)
  ·rw [ho] at hj; cases hj; exact hv
 ·rw [hnxs]; exact Nat.le_trans k.nxle hnx
 ·rcases hws2 x hx with h | ⟨_, h⟩
  ·exact k.low x h m ob hob
  ·exact Nat.le_trans k.nxle (h m ob hob)
end
section
variable {E : Env} {σ : Nat → Nat → Value} [SigOk σ] {w0 : World} {call : FuncId → List Value → Heap → Nat → R (List Out)} {ρ0 : Ren} {nx0 n : Nat} {ops : Array Oper}
def Left (ops : Array Oper) (k : Nat) (listed : Array Bool) : Prop := ∃ L : List Nat, L.length ≤ k ∧ ∀ i, i < ops.size → listed.getD i false = false → i ∈ L
theorem Left.next {k i : Nat} {listed : Array Bool} (h : Left ops (k + 1) listed) (hi : i < ops.size) (hb : i < listed.size) (hl : listed.getD i false = false) : Left ops k (listed.setIfInBounds i true) := by
 obtain ⟨L, h1, h2⟩ := h
 refine ⟨L.erase i, ?_, fun j hj hlj => ?_⟩
 ·rw [List.length_erase_of_mem (h2 i hi hl)]; omega
 ·by_cases e : i = j
  ·subst e
   rw [getD_set_same hb] at hlj; cases hlj
  ·rw [getD_set_ne e] at hlj
   exact (List.mem_erase_of_ne (fun h => e h.symm)).2 (h2 j hj hlj)
variable {e0 : Tr Value} {todo : List (Nat × Oper)} {done : Nat} {ws : List Watch} {st : St} {listed : Array Bool} {ρ : Ren} {a : Act} {w : World}
theorem least_unlisted (hs : Static ops) (hsz : listed.size = ops.size) (h : ∃ i, i < ops.size ∧ listed.getD i false = false) : ∃ i, i ∈ Region.ready .any ops listed := by
 obtain ⟨i, ⟨hi, hl⟩, hmin⟩ := exists_least h
 refine ⟨i, mem_ready.2 ⟨?_, ops[i], Array.getElem?_eq_getElem hi, fun e he hb => ?_⟩⟩
 ·have : i < listed.size := by omega
  simp [this] at hl ⊢
  exact hl
 ·have hw : waits ops[i] e.on = true := waitsL_iff.2 ⟨e, by simpa using he, by rw [bindsB_eq]; exact hb, rfl⟩
  have hz := hs.low i _ e.on (Array.getElem?_eq_getElem hi) hw
  cases hl' : listed.getD e.on false with
  | true => rfl
  | false =>
   have := hmin e.on ⟨by omega, hl'⟩
   omega
theorem Sim.inv (hp : Plan ops e0 todo done ws st) (k : Sim E σ w0 ρ0 nx0 n ops e0 done ws st listed ρ a w) (hall : ∀ i, i < ops.size → listed.getD i false = true) : Inv σ w0 ρ0 nx0 n st ρ a w := by
 refine ⟨k.defers, k.size, fun m x hx => ?_, k.fresh, k.wi, k.le0, k.new0, k.nxle⟩
 by_cases hW : ∃ (j : Nat) (p : Oper), ops[j]? = some p ∧ p.dst = some m
 ·obtain ⟨j, p, hj, hd⟩ := hW
  exact k.env1 m x j p hj hd (hall j (Array.getElem?_eq_some_iff.1 hj).1) hx
 ·have hno : ∀ (j : Nat) (p : Oper), ops[j]? = some p → p.dst = some m → False := fun j p hj hd => hW ⟨j, p, hj, hd⟩
  rw [hp.env m (fun j p hj hd => (hno j p hj hd).elim)] at hx
  exact k.env0 m x (fun j p hj hd => (hno j p hj hd).elim) hx
theorem Sim.late (hs : Static ops) (hp : Plan ops e0 todo done ws st) (hall : allHold E.P st.heap ws = true) (k : Sim E σ w0 ρ0 nx0 n ops e0 done ws st listed ρ a w) {i : Nat} {o : Oper} (ho : ops[i]? = some o) (hd : ∀ d, o.dst = some d → d < n) (hdn : done.testBit i = true) (hl : listed.getD i false = false)
  (hw : ∀ z, waits o z = true → listed.getD z false = true) {K : Act → World → Prop} {Q : Exit → Act → World → Prop} (hK : ∀ ρ' a' w', Sim E σ w0 ρ0 nx0 n ops e0 done ws st (listed.setIfInBounds i true) ρ' a' w' → K a' w') : wpOp E.P ops Q i K a w := by
 obtain ⟨b, h1, h2, h3⟩ := (k.valid i o ho hdn hl).get
 unfold wpOp
 rw [ho]
 simp only
 rw [k.wants hs ho hl hw h1]
 have hfree : ∀ x ∈ ws, ∀ m ob, x.obj = some (m, ob) → listed.getD x.i false = false → x.i ≠ i → ρ m = none := fun x hx m ob hob hlx _ => k.free x hx m ob hob hlx
 cases b with
 | false =>
  rw [if_neg (by decide)]
  exact hK ρ _ _ (k.did hs ho hdn hw hd (Ren.le_refl _) (fun d hdd x hx => by rw [h2 rfl d hdd x hx]; exact rep_undef) k.wi k.fresh k.new0 hfree)
 | true =>
  rw [if_pos rfl]
  obtain ⟨args, v, g1, g2, g3⟩ := h3 rfl
  have hargs : RepL σ ρ args ((opnds o.op).map a.eval) := k.args hs ho hl hw (fun x hx => hx) g1
  have quietly : quiet E.P st.heap o.op o.type args = some v → o.wp E.P a w K Q ∨ (o.asks E.P a w ∧ LetsOut Q) := fun hq => by
   obtain ⟨v', hr, hrv⟩ := quiet_sound (P := E.P) k.wi hargs hq
   left
   unfold Oper.wp
   rw [hr]
   exact hK ρ _ _ (k.did hs ho hdn hw hd (Ren.le_refl _) (fun d hdd x hx => by rw [g2 d hdd x hx]; exact hrv) k.wi k.fresh k.new0 hfree)
  rcases g3 with ⟨hr, h0, hq⟩ | hmem | ⟨m, ob, hlay, hmem⟩
  ·exact quietly (by rw [quiet_free (h' := h0) hr]; exact hq)
  ·have := allHold_spec hall _ hmem
   unfold Watch.holds at this
   simp only at this
   split at this
   ·rename_i u hu
    have := eqV_sound _ _ this
    subst this
    exact quietly hu
   ·cases this
  ·have hho := allHold_spec hall _ hmem
   unfold Watch.holds at hho
   simp only at hho
   split at hho
   ·rename_i o' ho'
    have := eqO_sound hho
    subst this
    have hfr : ρ m = none := k.free _ hmem m o' rfl hl
    have hnm := hp.names _ hmem m o' rfl
    obtain ⟨O, v', hr, hfz, hlive, hobj, hrv⟩ := lays_sound (P := E.P) (w := w) hfr hargs hlay
    left
    unfold Oper.wp
    rw [hr]
    refine hK (ρ.add m w.heap.size 0) _ _ (k.did hs ho hdn hw hd (Ren.add_le hfr) (fun d hdd x hx => by rw [g2 d hdd x hx]; exact hrv) ?_ ?_ ?_ ?_)
    ·refine k.wi.alloc hfr (fun _ _ _ h => .inl h) fun o2 ho2 => ?_
     rw [ho'] at ho2
     cases ho2
     exact ⟨hlive, hobj⟩
    ·intro q x hq
     unfold Ren.add at hq
     split at hq
     ·rename_i e; subst e; exact hnm.1
     ·exact k.fresh q x hq
    ·intro q x hq
     unfold Ren.add at hq
     split at hq
     ·rename_i e; subst e
      exact .inr (k.low _ hmem q o' rfl)
     ·exact k.new0 q x hq
    ·intro x hx q ob2 hob hlx hne
     have := k.free x hx q ob2 hob hlx
     unfold Ren.add
     split
     ·rename_i e; subst e
      exact absurd ((hnm.2 x hx ob2 hob).symm) hne
     ·exact this
   ·cases hho
theorem phase_end (hs : Static ops) (hp : Plan ops e0 todo done ws st) (hd : ∀ (i : Nat) (o : Oper), ops[i]? = some o → ∀ d, o.dst = some d → d < n) (hall : allHold E.P st.heap ws = true) {Q : Exit → Act → World → Prop}
  (hfin : (∀ i, i < ops.size → done.testBit i = true) → ∀ ρ a w, Inv σ w0 ρ0 nx0 n st ρ a w → Q .normal a w)
  (hloud : ∀ (i : Nat) (o : Oper), ops[i]? = some o → done.testBit i = false → readyB done o.after.toList = true → ∀ kk listed ρ a w, Left ops kk (listed.setIfInBounds i true) → Sim E σ w0 ρ0 nx0 n ops e0 done ws st listed ρ a w → (∀ z, waits o z = true → listed.getD z false = true) → listed.getD i false = false →
   wpOp E.P ops Q i (wpAny E.P .any ops Q kk (listed.setIfInBounds i true)) a w) :
  ∀ kk listed ρ a w, Left ops kk listed → Sim E σ w0 ρ0 nx0 n ops e0 done ws st listed ρ a w → wpAny E.P .any ops Q kk listed a w
 | 0, listed, ρ, a, w, hl, k => by
  obtain ⟨L, h1, h2⟩ := hl
  have hL : L = [] := List.eq_nil_of_length_eq_zero (by omega)
  subst hL
  have hlist : ∀ i, i < ops.size → listed.getD i false = true := fun i hi => by
   cases hh : listed.getD i false with
   | true => rfl
   | false => have := h2 i hi hh; cases this
  refine ⟨?_, hfin (fun i hi => k.sub i hi (hlist i hi)) ρ a w (k.inv hp hlist)⟩
  cases hr : Region.ready .any ops listed with
  | nil => rfl
  | cons i l =>
   obtain ⟨h3, o, ho, _⟩ := mem_ready.1 (show i ∈ Region.ready .any ops listed by rw [hr]; simp)
   have hi := (Array.getElem?_eq_some_iff.1 ho).1
   have := hlist i hi
   have hsz := k.sz
   have hi' : i < listed.size := by omega
   simp [hi'] at h3 this
   rw [h3] at this; cases this
 | kk + 1, listed, ρ, a, w, hl, k => by
  refine ⟨fun hr => ?_, fun i hi => ?_⟩
  ·have hlist : ∀ i, i < ops.size → listed.getD i false = true := fun i hi => by
    cases hh : listed.getD i false with
    | true => rfl
    | false =>
     obtain ⟨j, hj⟩ := least_unlisted hs k.sz ⟨i, hi, hh⟩
     rw [hr] at hj; cases hj
   exact hfin (fun i hi => k.sub i hi (hlist i hi)) ρ a w (k.inv hp hlist)
  ·obtain ⟨h1, o, ho, hafter⟩ := mem_ready.1 hi
   have hlt := (Array.getElem?_eq_some_iff.1 ho).1
   have hli : listed.getD i false = false := by
    have hi' : i < listed.size := by rw [k.sz]; exact hlt
    simp [hi'] at h1 ⊢
    exact h1
   have hw : ∀ z, waits o z = true → listed.getD z false = true := fun z hz => by
    obtain ⟨e, he, hb, rfl⟩ := waitsL_iff.1 hz
    exact hafter e (by simpa using he) (by rw [← bindsB_eq]; exact hb)
   cases hdn : done.testBit i with
   | true =>
    exact k.late hs hp hall ho (hd i o ho) hdn hli hw fun ρ' a' w' k' => phase_end hs hp hd hall hfin hloud kk _ ρ' a' w' (hl.next hlt (by rw [k.sz]; exact hlt) hli) k'
   | false =>
    refine hloud i o ho hdn (readyB_spec.2 fun e he hb => ?_) kk listed ρ a w (hl.next hlt (by rw [k.sz]; exact hlt) hli) k hw hli
    have hz := hw e.on (waitsL_iff.2 ⟨e, he, hb, rfl⟩)
    have hlow := hs.low i o e.on ho (waitsL_iff.2 ⟨e, he, hb, rfl⟩)
    exact k.sub e.on (by omega) hz
theorem dloop_sound (hE : EnvOk E σ) (hc : CallOk E.P σ call) (hs : Static ops) (hnn : n ≤ 1000000) (hd : ∀ (i : Nat) (o : Oper), ops[i]? = some o → ∀ d, o.dst = some d → d < n) {Q : Exit → Act → World → Prop} : ∀ (f : Nat) (todo : List (Nat × Oper)) (done : Nat) (ws : List Watch) (st stF : St),
  dloop E call ops (masks ops.toList []) f todo done ws st = .ok stF → Plan ops e0 todo done ws st → (∀ ρ a w, Inv σ w0 ρ0 nx0 n stF ρ a w → Q .normal a w) →
  ∀ kk listed ρ a w, Left ops kk listed → Sim E σ w0 ρ0 nx0 n ops e0 done ws st listed ρ a w → wpAny E.P .any ops Q kk listed a w
 | 0, todo, done, ws, st, stF, h, _, _ => by simp only [dloop] at h; cases h
 | f + 1, todo, done, ws, st, stF, h, hp, hQ => by
  have ih := dloop_sound hE hc hs hnn hd (Q := Q) f
  have hnot : ∀ {i : Nat} {o : Oper}, ops[i]? = some o → i ∈ todo.map (·.1) → done.testBit i = false := fun {i o} ho hm => by
   cases hb : done.testBit i with
   | false => rfl
   | true => exact absurd hm ((hp.rest i o ho).1 hb)
  simp only [dloop] at h
  split at h
  ·-- the end
   split at h
   ·rename_i hall
    cases h
    refine phase_end hs hp hd hall (fun _ ρ a w k => hQ ρ a w k) fun i o ho hdn _ => ?_
    have := (hp.rest i o ho).2 (by simp)
    rw [hdn] at this; cases this
   ·cases h
  ·split at h
   ·-- one that is passed over
    rename_i i o rest hpk
    rw [setK_eq] at h
    obtain ⟨hm, hr, hw, l1, l2, hl, rfl⟩ := pickQ_spec hpk
    have ho := hp.opsAt _ hm
    have hni := hnot ho (List.mem_map.2 ⟨_, hm, rfl⟩)
    have hnx : (St.set st.env o.dst undef st.heap st.nx).nx = st.nx := by cases o.dst <;> rfl
    have hlook : ∀ (v : Value) (h' : Heap) (nx' : Nat) t, looksB ops o t = true → evA ops e0 (St.set st.env o.dst v h' nx').env i t = st.env.get t := fun v h' nx' t ht => by
     rw [← hp.evA hs ho hni t ht]
     unfold evA
     split
     ·cases hdd : o.dst with
      | none => rfl
      | some d =>
       have htd : t ≠ d := fun e => by subst e; rw [hs.own i o ho t hdd] at ht; cases ht
       show (st.env.ins d (some v)).get t = _
       rw [Tr.get_ins_eq t (Nat.le_trans (Nat.le_of_lt (hd i o ho d hdd)) hnn), if_neg htd]
     ·rfl
    refine fun kk listed ρ a w hlf k => ih _ _ _ _ _ h (hp.next hnn hl hr (hd i o ho) rfl (by rw [hnx]; exact hp.names)) hQ kk listed ρ a w hlf ?_
    refine k.plan hs hp hnn ho (hd i o ho) hni (Nat.le_refl _) (fun _ _ _ h => h) (fun _ h => h) (fun _ h => .inl h) ⟨false, ?_, fun _ d hdd x hx => ?_, fun h => by cases h⟩
    ·rw [wantsF_congr (hlook undef st.heap st.nx), ← wantsZ_eq]; exact hw
    ·rw [hdd] at hx
     have hx' : (st.env.ins d (some undef)).get d = some x := hx
     rw [Tr.get_ins_eq d (Nat.le_trans (Nat.le_of_lt (hd i o ho d hdd)) hnn), if_pos rfl] at hx'
     exact (Option.some.inj hx').symm
   ·-- one that is done at once
    rename_i i o rest hpk
    obtain ⟨hm, hr, hw, l1, l2, hl, rfl⟩ := pickQ_spec hpk
    have ho := hp.opsAt _ hm
    have hni := hnot ho (List.mem_map.2 ⟨_, hm, rfl⟩)
    have hlook : ∀ (v : Value) (h' : Heap) (nx' : Nat) t, looksB ops o t = true → evA ops e0 (St.set st.env o.dst v h' nx').env i t = st.env.get t := fun v h' nx' t ht => by
     rw [← hp.evA hs ho hni t ht]
     unfold evA
     split
     ·cases hdd : o.dst with
      | none => rfl
      | some d =>
       have htd : t ≠ d := fun e => by subst e; rw [hs.own i o ho t hdd] at ht; cases ht
       show (st.env.ins d (some v)).get t = _
       rw [Tr.get_ins_eq t (Nat.le_trans (Nat.le_of_lt (hd i o ho d hdd)) hnn), if_neg htd]
     ·rfl
    have hwant : ∀ (v : Value) (h' : Heap) (nx' : Nat), wantsF ops o (evA ops e0 (St.set st.env o.dst v h' nx').env i) = some true := fun v h' nx' => by
     rw [wantsF_congr (hlook v h' nx'), ← wantsZ_eq]; exact hw
    have hdst : ∀ (v : Value) (h' : Heap) (nx' : Nat) d, o.dst = some d → ∀ x, (St.set st.env o.dst v h' nx').env.get d = some x → x = v := fun v h' nx' d hdd x hx => by
     rw [hdd] at hx
     have hx' : (st.env.ins d (some v)).get d = some x := hx
     rw [Tr.get_ins_eq d (Nat.le_trans (Nat.le_of_lt (hd i o ho d hdd)) hnn), if_pos rfl] at hx'
     exact (Option.some.inj hx').symm
    split at h
    ·rename_i args hargs
     have hargs' : ∀ (v : Value) (h' : Heap) (nx' : Nat), argsOf (evalF (evA ops e0 (St.set st.env o.dst v h' nx').env i)) (opnds o.op) = some args := fun v h' nx' => by
      rw [evalF_congr (hlook v h' nx'), ← hargs]
      exact argsOf_congr fun x _ => (evalZ_eq st.env x).symm
     split at h
     ·split at h
      ·rename_i v hq
       rw [setK_eq] at h
       have hnx : (St.set st.env o.dst v st.heap st.nx).nx = st.nx := by cases o.dst <;> rfl
       refine fun kk listed ρ a w hlf k => ih _ _ _ _ _ h (hp.next hnn hl hr (hd i o ho) rfl ?_) hQ kk listed ρ a w hlf ?_
       ·rw [hnx]
        intro x hx m ob hob
        split at hx
        ·rcases List.mem_cons.1 hx with rfl | hx
         ·cases hob
         ·refine ⟨(hp.names x hx m ob hob).1, fun y hy ob' hob' => ?_⟩
          rcases List.mem_cons.1 hy with rfl | hy
          ·cases hob'
          ·exact (hp.names x hx m ob hob).2 y hy ob' hob'
        ·exact hp.names x hx m ob hob
       ·refine k.plan hs hp hnn ho (hd i o ho) hni (Nat.le_refl _) (fun _ _ _ h => h) (fun x hx => ?_) (fun x hx => ?_) ⟨true, hwant _ _ _, fun h => (by cases h), fun _ => ⟨args, v, hargs' _ _ _, hdst _ _ _, ?_⟩⟩
        ·split <;> simp [hx]
        ·split at hx
         ·rcases List.mem_cons.1 hx with rfl | hx
          ·exact .inr ⟨rfl, fun _ _ e => by cases e⟩
          ·exact .inl hx
         ·exact .inl hx
        ·cases hrd : reads o.op with
         | true => exact .inr (.inl (by simp))
         | false => exact .inl ⟨rfl, st.heap, hq⟩
      ·cases h
     ·split at h
      ·rename_i v ob hlay
       rw [setK_eq] at h
       have hnx : (St.set st.env o.dst v (st.heap.ins st.nx (some ob)) (st.nx + 1)).nx = st.nx + 1 := by cases o.dst <;> rfl
       refine fun kk listed ρ a w hlf k => ih _ _ _ _ _ h (hp.next hnn hl hr (hd i o ho) rfl ?_) hQ kk listed ρ a w hlf ?_
       ·rw [hnx]
        intro x hx m ob2 hob
        rcases List.mem_cons.1 hx with rfl | hx
        ·cases hob
         refine ⟨Nat.lt_succ_self _, fun y hy ob' hob' => ?_⟩
         rcases List.mem_cons.1 hy with rfl | hy
         ·rfl
         ·have := (hp.names y hy _ ob' hob').1; omega
        ·refine ⟨Nat.lt_succ_of_lt (hp.names x hx m ob2 hob).1, fun y hy ob' hob' => ?_⟩
         rcases List.mem_cons.1 hy with rfl | hy
         ·cases hob'
          have := (hp.names x hx _ ob2 hob).1; omega
         ·exact (hp.names x hx m ob2 hob).2 y hy ob' hob'
       ·refine k.plan hs hp hnn ho (hd i o ho) hni (Nat.le_succ _) (fun m o2 hm hg => ?_) (fun x hx => by simp [hx]) (fun x hx => ?_) ⟨true, hwant _ _ _, fun h => (by cases h), fun _ => ⟨args, v, hargs' _ _ _, hdst _ _ _, .inr (.inr ⟨st.nx, ob, hlay, by simp⟩)⟩⟩
        ·rcases Heap.ins_get hg with ⟨e, _⟩ | ⟨_, e⟩
         ·omega
         ·exact e
        ·rcases List.mem_cons.1 hx with rfl | hx
         ·exact .inr ⟨rfl, fun _ _ e => by cases e; exact Nat.le_refl _⟩
         ·exact .inl hx
      ·cases h
     ·cases h
    ·cases h
   ·-- a loud one
    split at h
    ·rename_i i o rest hall hpk
     obtain ⟨hr, l1, l2, hl, rfl⟩ := pickL_spec hpk
     have hm : (i, o) ∈ l1 ++ (i, o) :: l2 := by simp
     rw [← hl] at hm
     have ho := hp.opsAt _ hm
     have hni := hnot ho (List.mem_map.2 ⟨_, hm, rfl⟩)
     split at h
     ·rename_i hnone hw hcls
      split at h
      ·rename_i v hh nx hst
       rw [setK_eq] at h
       refine phase_end hs hp hd hall (fun hdall => ?_) fun j p hj hdj hrj => ?_
       ·have := hdall i (Array.getElem?_eq_some_iff.1 ho).1
        rw [hni] at this; cases this
       ·-- it is the one
        have hji : j = i := by
         have hmem : (j, p) ∈ l1 ++ (i, o) :: l2 := by
          rw [← hl]
          have h1 := Classical.not_not.1 (fun hno => absurd ((hp.rest j p hj).2 hno) (by rw [hdj]; decide))
          obtain ⟨x, hx, he⟩ := List.mem_map.1 h1
          have := hp.opsAt x hx
          obtain ⟨x1, x2⟩ := x
          simp only at he this
          subst he
          rw [hj] at this
          cases this
          exact hx
         have hc : (j, p) = (i, o) ∨ (j, p) ∈ l1 ++ l2 := by
          rcases List.mem_append.1 hmem with h | h
          ·exact .inr (by simp [h])
          ·rcases List.mem_cons.1 h with h | h
           ·exact .inl h
           ·exact .inr (by simp [h])
         rcases hc with h | h
         ·cases h; rfl
         ·have := noneReady_spec hnone _ h
          rw [hrj] at this; cases this
        subst hji
        rw [ho] at hj; cases hj
        intro kk listed ρ a w hlf k hwl hli
        unfold wpOp
        rw [ho]
        simp only
        have hlookj : ∀ t, looksB ops o t = true → evA ops e0 st.env j t = st.env.get t := fun t ht => hp.evA hs ho hni t ht
        rw [k.wants hs ho hli hwl (b := true) (by rw [wantsF_congr hlookj, ← wantsZ_eq]; exact hw), if_pos rfl]
        left
        unfold stepO at hst
        split at hst
        ·rename_i args hargs
         rw [stepF_eq] at hst
         have hra : RepL σ ρ args ((opnds o.op).map a.eval) := k.args hs ho hli hwl (fun x hx => hx) (by rw [evalF_congr hlookj, ← hargs]; exact argsOf_congr fun x _ => (evalZ_eq st.env x).symm)
         refine step_sound hE hc k.wi k.fresh hra hst _ _ fun out hout ρ' v' w' hle hnew hnx' hf' hrv hwi => ?_
         simp only [List.mem_singleton] at hout
         subst hout
         have hnx : (St.set st.env o.dst v hh nx).nx = nx := by cases o.dst <;> rfl
         have hhs : (St.set st.env o.dst v hh nx).heap = hh := by cases o.dst <;> rfl
         refine ih _ _ _ _ _ h (hp.next hnn hl hr (hd j o ho) rfl ?_) hQ kk _ ρ' _ w' hlf ?_
         ·rw [hnx]
          intro x hx m ob hob
          have hx := (mem_dropW.1 hx).1
          refine ⟨Nat.lt_of_lt_of_le (hp.names x hx m ob hob).1 hnx', fun y hy ob' hob' => (hp.names x hx m ob hob).2 y (mem_dropW.1 hy).1 ob' hob'⟩
         ·have hset : ∀ q, (listed.setIfInBounds j true).getD q false = true ↔ q = j ∨ listed.getD q false = true := fun q => by
           by_cases e : j = q
           ·subst e; simp [getD_set_same (show j < listed.size by rw [k.sz]; exact (Array.getElem?_eq_some_iff.1 ho).1)]
           ·rw [getD_set_ne e]; constructor
            ·exact .inr
            ·rintro (h | h)
             ·exact absurd h.symm e
             ·exact h
          have hun : ∀ q, (listed.setIfInBounds j true).getD q false = false → q ≠ j ∧ listed.getD q false = false := fun q hq => by
           have h1 : ¬ (listed.setIfInBounds j true).getD q false = true := by rw [hq]; decide
           rw [hset] at h1
           refine ⟨fun e => h1 (.inl e), ?_⟩
           cases hh : listed.getD q false with
           | false => rfl
           | true => exact absurd (.inr hh) h1
          have hnep : ∀ m, o.dst ≠ some m → (a.put o.dst v').tmps.getD m undef = a.tmps.getD m undef := fun m hdm => by
           cases hdd : o.dst with
           | none => rfl
           | some d => rw [put_getD a rfl (by rw [k.size]; exact hd j o ho d hdd), if_neg (fun e => hdm (by rw [hdd, e]))]
          refine ⟨by simp [k.sz], fun q hq hlq => ?_, fun q p z hq hlq hz => ?_, fun m x q p hq hdq hlq hx => ?_, fun m x hall' hx => ?_, by rw [hhs]; exact hwi, by rw [hnx]; exact hf', fun x hx m ob hob hlx => ?_, fun q p hq hdq hlq => ?_, ?_, ?_, Ren.le_trans k.le0 hle, fun m x hm => ?_, by rw [hnx]; exact Nat.le_trans k.nxle hnx', fun x hx => k.low x (mem_dropW.1 hx).1⟩
          ·rcases (hset q).1 hlq with rfl | h
           ·exact bit_or.2 (.inr rfl)
           ·exact bit_or.2 (.inl (k.sub q hq h))
          ·rcases (hset q).1 hlq with rfl | h
           ·rw [ho] at hq; cases hq
            exact (hset z).2 (.inr (hwl z hz))
           ·exact (hset z).2 (.inr (k.closed q p z hq h hz))
          ·by_cases hdm : o.dst = some m
           ·rw [put_getD a hdm (by rw [k.size]; exact hd j o ho m hdm), if_pos rfl]
            rw [hdm] at hx
            have hx' : (st.env.ins m (some v)).get m = some x := hx
            rw [Tr.get_ins_eq m (Nat.le_trans (Nat.le_of_lt (hd j o ho m hdm)) hnn), if_pos rfl] at hx'
            cases hx'
            exact hrv
           ·have hxo : st.env.get m = some x := by
             cases hdd : o.dst with
             | none => rw [hdd] at hx; exact hx
             | some d =>
              rw [hdd] at hx
              have hx' : (st.env.ins d (some v)).get m = some x := hx
              rw [Tr.get_ins_eq m (Nat.le_trans (Nat.le_of_lt (hd j o ho d hdd)) hnn), if_neg (fun e => hdm (by rw [hdd, e]))] at hx'
              exact hx'
            rw [hnep m hdm]
            rcases (hset q).1 hlq with rfl | h
            ·rw [ho] at hq; cases hq; exact absurd hdq hdm
            ·exact (k.env1 m x q p hq hdq h hxo).mono hle
          ·have hdm : o.dst ≠ some m := fun e => by
            have := hall' j o ho e
            have h2 := (hset j).2 (.inl rfl)
            rw [h2] at this; cases this
           rw [hnep m hdm]
           exact (k.env0 m x (fun q p hq hdq => (hun q (hall' q p hq hdq)).2) hx).mono hle
          ·have hx' := (mem_dropW.1 hx).1
           have h1 := k.free x hx' m ob hob (hun x.i hlx).2
           cases hm : ρ' m with
           | none => rfl
           | some y =>
            rcases hnew m y hm with h2 | h2
            ·rw [h1] at h2; cases h2
            ·have := (hp.names x hx' m ob hob).1; omega
          ·obtain ⟨hqj, hlq'⟩ := hun q hlq
           have hdq' : done.testBit q = true := by
            rcases bit_or.1 hdq with h | h
            ·exact h
            ·exact absurd h hqj
           refine (k.valid q p hq hdq' hlq').next hs hp hnn ho (hd j o ho) hni hq hdq' fun x hx hxi => mem_dropW.2 ⟨hx, ?_⟩
           cases ht : trW (masks ops.toList []) j x.i with
           | false => rfl
           | true =>
            have := trW_listed k.closed ho hwl ht
            rw [hxi, hlq'] at this; cases this
          ·cases o.dst <;> exact k.defers
          ·cases hdd : o.dst with
           | none => exact k.size
           | some d => simp [Act.put, k.size]
          ·rcases hnew m x hm with h2 | h2
           ·exact k.new0 m x h2
           ·exact .inr (Nat.le_trans k.nxle h2)
        ·cases hst
      ·cases h
      ·cases h
     ·cases h
    ·cases h
    ·cases h
theorem mem_tagOps : ∀ {l : List Oper} {k : Nat} {x : Nat × Oper}, x ∈ tagOps k l ↔ ∃ j, x.1 = k + j ∧ l[j]? = some x.2
 | [], k, x => by simp [tagOps]
 | o :: l, k, x => by
  simp only [tagOps, List.mem_cons, mem_tagOps]
  constructor
  ·rintro (rfl | ⟨j, h1, h2⟩)
   ·exact ⟨0, rfl, rfl⟩
   ·exact ⟨j + 1, by omega, by simpa using h2⟩
  ·rintro ⟨j, h1, h2⟩
   cases j with
   | zero =>
    left
    obtain ⟨x1, x2⟩ := x
    simp at h1 h2
    rw [h1, h2]
   | succ j => exact .inr ⟨j, by omega, by simpa using h2⟩
theorem nodup_tagOps : ∀ (l : List Oper) (k : Nat), ((tagOps k l).map (·.1)).Nodup
 | [], k => by simp [tagOps]
 | o :: l, k => by
  simp only [tagOps, List.map_cons, List.nodup_cons]
  refine ⟨fun h => ?_, nodup_tagOps l (k + 1)⟩
  obtain ⟨x, hx, e⟩ := List.mem_map.1 h
  obtain ⟨j, h1, _⟩ := mem_tagOps.1 hx
  omega
theorem zdraw_sound (hE : EnvOk E σ) (hc : CallOk E.P σ call) : DrawOk E σ (zdraw E call) := by
 intro w0 ρ0 nx0 n ops st outs ho hok hnn ρ a w id Q k hQ
 unfold zdraw at ho
 split at ho
 ·rename_i hst
  have hs := static_spec hst
  split at ho
  ·rename_i stF hl
   cases ho
   refine wp_region_any hE.mixed ?_
   have hd : ∀ (i : Nat) (o : Oper), ops[i]? = some o → ∀ d, o.dst = some d → d < n := fun i o hio => opsOk_spec hok o (by
    have := List.mem_of_getElem? (show ops.toList[i]? = some o by simpa using hio)
    exact this)
   have hempty : ∀ i, (Array.replicate ops.size false).getD i false = false := fun i => by
    simp [Array.getD_eq_getD_getElem?, Array.getElem?_replicate]
    split <;> rfl
   refine dloop_sound (σ := σ) (w0 := w0) (ρ0 := ρ0) (nx0 := nx0) (e0 := st.env) hE hc hs hnn hd _ _ _ _ _ _ hl ⟨fun x hx => ?_, nodup_tagOps _ _, fun i o hio => ?_, fun i o z _ h => ?_, fun x hx => (by cases hx), fun _ _ => rfl⟩ (fun ρ a w k' => hQ _ (by simp) ρ a w k') ops.size _ ρ a _ ⟨List.range ops.size, by simp, fun i hi _ => by simpa using hi⟩ ?_
   ·obtain ⟨j, h1, h2⟩ := mem_tagOps.1 hx
    simp only [Nat.zero_add] at h1
    rw [h1]
    simpa using h2
   ·simp only [Nat.zero_testBit, Bool.false_eq_true, false_iff, Classical.not_not]
    exact List.mem_map.2 ⟨(i, o), mem_tagOps.2 ⟨i, by simp, by simpa using hio⟩, rfl⟩
   ·simp at h
   ·have k' := k.drew
    exact ⟨by simp, fun i _ h => (by rw [hempty] at h; cases h), fun i o z _ h => (by rw [hempty] at h; cases h), fun m x i o _ _ h => (by rw [hempty] at h; cases h), fun m x _ hx => k'.env m x hx, k'.wi, k'.fresh, fun x hx => (by cases hx), fun i o _ h => (by simp at h), k'.defers, k'.size, k'.le0, k'.new0, k'.nx0, fun x hx => (by cases hx)⟩
  ·cases ho
 ·cases ho
theorem run_sound (hE : EnvOk E σ) (d : Nat) : CallOk E.P σ (run E d) := fun w0 f args h nx outs ho => zfun_sound hE (fun _ hc => zdraw_sound hE hc) d w0 f args h nx outs ho
end
def sig0 (i j : Nat) : Value := sval (i % 16) ((i % 16 : Nat) : Int) j
instance sig0_ok : SigOk sig0 := ⟨fun i => i % 16, fun i => ((i % 16 : Nat) : Int), fun i => (by show i % 16 < 65536; omega), fun i => (by show -9223372036854775808 ≤ ((i % 16 : Nat) : Int) ∧ ((i % 16 : Nat) : Int) < 9223372036854775808; omega), fun _ _ => rfl, fun i k _ h _ => (by show i % 16 < k % 16 ∧ ((i % 16 : Nat) : Int) < ((k % 16 : Nat) : Int); omega), fun i h h2 => by
 show ((mate i % 16 : Nat) : Int) = xor1 ((i % 16 : Nat) : Int)
 unfold mate xor1
 split <;> split <;> omega, fun g => (by show 0 ≤ ((gbase g % 16 : Nat) : Int) ∧ ((gbase g % 16 : Nat) : Int) ≤ 40; omega)⟩
section
variable {E : Env}
theorem wi_start (σ : Nat → Nat → Value) (w : World) : WI σ w .nil (fun _ => none) w :=
 ⟨fun _ _ _ _ h => (by cases h), fun _ _ _ h => (by cases h), fun _ _ _ _ _ h => (by cases h), fun _ _ _ h => (by cases h), fun _ _ _ _ h => (by cases h), KeptZ.refl _⟩
def allAre (v : Value) : List Out → Bool
 | [] => true
 | o :: l => eqV o.1 v && allAre v l
theorem allAre_spec {v : Value} : ∀ {l : List Out}, allAre v l = true → ∀ o ∈ l, o.1 = v
 | [], _, o, ho => by cases ho
 | x :: l, h, o, ho => by
  simp only [allAre, Bool.and_eq_true] at h
  rcases List.mem_cons.1 ho with rfl | ho
  ·exact eqV_sound _ _ h.1
  ·exact allAre_spec h.2 o ho
def says (r : R (List Out)) (v : Value) : Bool := match r with
 | .ok l => allAre v l
 | .no _ => false
theorem calls_of_run_at {σ : Nat → Nat → Value} [SigOk σ] (hE : EnvOk E σ) {d : Nat} {f : FuncId} {v : Value} (hp : plain v = true) {args vs : List Value} {h : Heap} {nx : Nat} (hs : says (run E d f args h nx) v = true) {w0 w : World} {ρ : Ren} (hf : Fresh ρ nx) (ha : RepL σ ρ args vs) (hw : WI σ w0 h ρ w) :
  Calls E.P f vs.toArray w fun e w' => e = .returned v ∧ KeptZ w0 w' := by
 unfold says at hs
 split at hs
 ·rename_i outs ho
  have := run_sound hE d w0 f args h nx outs ho ρ vs w hf ha hw
  refine this.mono fun e w' ⟨out, hout, v', ρ', he, _, _, _, _, hrv, hwi⟩ => ?_
  have hov := allAre_spec hs out hout
  rw [hov] at hrv
  have := hrv.of_plain hp
  subst this
  exact ⟨he, hwi.kept⟩
 ·cases hs
theorem calls_of_run {σ : Nat → Nat → Value} [SigOk σ] (hE : EnvOk E σ) {d : Nat} {f : FuncId} {v : Value} (hp : plain v = true) (h : says (run E d f [] .nil 0) v = true) (w : World) : Calls E.P f #[] w fun e w' => e = .returned v ∧ KeptZ w w' :=
 calls_of_run_at hE hp h (ρ := fun _ => none) (vs := []) (fun _ _ h => by cases h) .nil (wi_start σ w)
end
end Go.Z
end
