/- One part of a proof: an evaluator of the model, shown right, and contracts that it yields. No condition beyond those that each theorem names. -/
import Derived.Test.YtnhllgedoimhkaaGreatDoorZFB
set_option linter.unusedSimpArgs false
set_option linter.unusedVariables false
set_option linter.unusedSectionVars false
set_option linter.deprecated false
section
namespace Go.Z
open Go.X
noncomputable section
def Le {α : Type} (a b : R α) : Prop := ∀ r, a = .ok r → b = .ok r
section
variable {α β γ : Type}
theorem Le.rfl' {a : R α} : Le a a := fun _ h => h
theorem Le.trans {a b c : R α} (h : Le a b) (k : Le b c) : Le a c := fun r hr => k r (h r hr)
theorem Le.no {w : List String} {b : R α} : Le (.no w) b := fun _ h => by cases h
theorem Le.of_eq {a b c : R α} (h : a = b) (k : Le b c) : Le a c := h ▸ k
theorem bindL_mono {f g : α → R (List β)} : ∀ {l : List α}, (∀ x ∈ l, Le (f x) (g x)) → Le (bindL l f) (bindL l g)
 | [], _ => Le.rfl'
 | [x], h => h x (by simp)
 | x :: y :: m, h => fun r hr => by
  unfold bindL at hr ⊢
  simp only at hr ⊢
  split at hr
  ·rename_i a ha
   rw [h x (by simp) a ha]
   split at hr
   ·rename_i b hb
    rw [bindL_mono (fun z hz => h z (by simp at hz ⊢; exact .inr hz)) b hb]
    exact hr
   ·cases hr
  ·cases hr
theorem bindL_append {f : α → R (List β)} : ∀ {l m : List α} {a b : List β}, bindL l f = .ok a → bindL m f = .ok b → bindL (l ++ m) f = .ok (a ++ b)
 | [], m, a, b, h, k => by cases h; exact k
 | [x], [], a, b, h, k => by cases k; simpa using h
 | [x], y :: m, a, b, h, k => by
  show bindL (x :: y :: m) f = _
  unfold bindL
  have h' : f x = .ok a := h
  simp only [h', k]
 | x :: y :: l, m, a, b, h, k => by
  unfold bindL at h
  simp only at h
  split at h
  ·rename_i a1 ha
   split at h
   ·rename_i b1 hb
    cases h
    have := bindL_append hb k
    show bindL (x :: (y :: (l ++ m))) f = _
    unfold bindL
    have e : y :: (l ++ m) = (y :: l) ++ m := rfl
    simp only [ha, e, this, List.append_assoc]
   ·cases h
  ·cases h
theorem bindL_bindL {f : α → R (List β)} {k : β → R (List γ)} : ∀ {l : List α}, Le (bindL l fun x => bindR (f x) k) (bindR (bindL l f) k)
 | [] => Le.rfl'
 | [x] => Le.rfl'
 | x :: y :: m => fun r hr => by
  unfold bindL at hr
  simp only at hr
  split at hr
  ·rename_i a ha
   split at hr
   ·rename_i b hb
    cases hr
    have h2 := bindL_bindL b hb
    unfold bindR at ha h2
    split at ha
    ·rename_i l1 hl1
     split at h2
     ·rename_i l2 hl2
      have : bindL (x :: y :: m) f = .ok (l1 ++ l2) := by unfold bindL; simp only [hl1, hl2]
      rw [this]
      exact bindL_append ha h2
     ·cases h2
    ·cases ha
   ·cases hr
  ·cases hr
theorem bindR_mono {r r' : R (List α)} {f g : α → R (List β)} (h : Le r r') (k : ∀ x, Le (f x) (g x)) : Le (bindR r f) (bindR r' g) := fun q hq => by
 cases r with
 | ok l => rw [h l rfl]; exact bindL_mono (fun x _ => k x) q hq
 | no w => cases hq
theorem bindR_assoc {r : R (List α)} {f : α → R (List β)} {k : β → R (List γ)} : Le (bindR r fun x => bindR (f x) k) (bindR (bindR r f) k) := by
 cases r with
 | ok l => exact bindL_bindL
 | no w => exact Le.no
theorem bindL_map {f : α → β} {k : β → R (List γ)} : ∀ {l : List α}, bindL (l.map f) k = bindL l fun x => k (f x)
 | [] => rfl
 | [x] => rfl
 | x :: y :: m => by
  show bindL (f x :: f y :: m.map f) k = _
  have := bindL_map (f := f) (k := k) (l := y :: m)
  unfold bindL
  simp only at this ⊢
  have e : bindL (f y :: m.map f) k = bindL ((y :: m).map f) k := rfl
  rw [e, this]
end
structure BkOk (bk : Bk) (B : R (List Out) → (Out → Ans) → Ans) : Prop where
 le : ∀ {r r' : R (List Out)} {kl : Kl} {K : Out → Ans}, Le r r' → (∀ v h nx, Le (kl v h nx) (K (v, h, nx))) → Le (bk r kl) (B r' K)
 one : ∀ x K, B (.ok [x]) K = K x
def bindOne (r : R (List Out)) (K : Out → Ans) : Ans := match r with
 | .ok [x] => K x
 | .ok _ => .no ["ways"]
 | .no w => .no w
theorem bkAll_ok : BkOk bkAll bindR := ⟨fun {r r' kl K} h hk => by
 cases r with
 | no w => exact Le.no
 | ok l =>
  rw [h l rfl]
  match l with
  | [] => exact Le.rfl'
  | [x] => exact hk x.1 x.2.1 x.2.2
  | x :: y :: m => exact bindL_mono fun x _ => hk x.1 x.2.1 x.2.2, fun _ _ => rfl⟩
theorem bkOne_ok : BkOk bkOne bindOne := ⟨fun {r r' kl K} h hk => by
 cases r with
 | no w => exact Le.no
 | ok l =>
  rw [h l rfl]
  match l with
  | [] => exact Le.no
  | [x] => exact hk x.1 x.2.1 x.2.2
  | x :: y :: m => exact Le.no, fun _ _ => rfl⟩
section
variable {E : Env} {callF call : CallT} {bk : Bk} {B : R (List Out) → (Out → Ans) → Ans} {w : List String}
theorem vCells_eq (v : Value) (k : List Value → Ans) : vCells v k = k v.cells.toList := by cases v <;> rfl
theorem storeA_eq (P : Program) (t : TypeId) (h : Heap) (n off : Nat) (v : Value) (no : Ans) (k : Heap → Ans) : storeA P t h n off v no k = (match sizeB P t with
  | some z => (match lenIs v.cells.toList z, allOneF v.cells.toList with
   | true, true => (match (match v.cells.toList with | [] => none | _ :: _ => writeCells h n off v.cells.toList) with | some h' => k h' | none => no)
   | _, _ => no)
  | none => no) := by
 unfold storeA
 rw [vCells_eq]
 cases hz : sizeB P t with
 | none => rfl
 | some z =>
  show bA (lenIs v.cells.toList z) no _ = _
  dsimp only
  cases hl : lenIs v.cells.toList z with
  | false => rfl
  | true =>
   show bA (allOneF v.cells.toList) no _ = _
   cases h1 : allOneF v.cells.toList with
   | false => rfl
   | true =>
    rw [allOneF_eq] at h1
    have hrw : ∀ c : List Value, allOne c = true → (@List.rec Value (fun _ => Ans → Ans) (fun _ => no) (fun _ _ _ s => s) c (wr h n off c no k)) = (match (match c with | [] => none | _ :: _ => writeCells h n off c) with | some h' => k h' | none => no) := by
     intro c hc
     cases c with
     | nil => rfl
     | cons x c => exact wr_eq h n off (x :: c) (by simp) hc no k
    exact hrw _ h1
theorem storeA_ok (P : Program) (t : TypeId) (h : Heap) (n off : Nat) (v : Value) (no : Ans) (k : Heap → Ans) : storeA P t h n off v no k = no ∨ ∃ z h', sizeB P t = some z ∧ Nat.beq v.cells.size z = true ∧ writeCells h n off v.cells.toList = some h' ∧ storeA P t h n off v no k = k h' := by
 rw [storeA_eq]
 cases hz : sizeB P t with
 | none => exact .inl rfl
 | some z =>
  simp only
  cases hl : lenIs v.cells.toList z with
  | false => exact .inl rfl
  | true =>
   cases h1 : allOneF v.cells.toList with
   | false => exact .inl rfl
   | true =>
    simp only
    rw [lenIs_eq] at hl
    have hsz : Nat.beq v.cells.size z = true := by rw [← Array.length_toList]; exact hl
    revert hsz
    generalize v.cells.toList = c
    intro hsz
    cases c with
    | nil => exact .inl rfl
    | cons x c =>
     simp only
     cases hw : writeCells h n off (x :: c) with
     | none => exact .inl rfl
     | some h' => exact .inr ⟨z, h', rfl, hsz, rfl, rfl⟩
theorem loud_call {c1 c2 : CallT} {op : Op} {args : List Value} {h : Heap} {nx : Nat} (hi : isCall op = false) : loud E c1 op args h nx = loud E c2 op args h nx := by
 cases op with
 | call c =>
  obtain ⟨callee, cargs, ts⟩ := c
  cases callee with
  | value f => cases hi
  | invoke r m => rfl
  | builtin b => cases b <;> first | rfl | (rcases args with _ | ⟨a, _ | ⟨b, _ | ⟨c, r⟩⟩⟩ <;> rfl)
 | store t a b =>
  rcases args with _ | ⟨p, r⟩
  ·rfl
  ·cases p with
   | pointer a =>
    cases a with
    | none => rcases r with _ | ⟨v, _ | ⟨x, r⟩⟩ <;> rfl
    | some a => obtain ⟨n, off, s⟩ := a; cases s <;> rcases r with _ | ⟨v, _ | ⟨x, r⟩⟩ <;> rfl
   | _ => rcases r with _ | ⟨v, _ | ⟨x, r⟩⟩ <;> rfl
 | convert s d x =>
  rcases args with _ | ⟨p, _ | ⟨v, r⟩⟩
  ·rfl
  ·cases p <;> rfl
  ·cases p <;> rfl
 | _ => first | rfl | (rcases args with _ | ⟨a, _ | ⟨b, _ | ⟨c, _ | ⟨d, r⟩⟩⟩⟩ <;> rfl)
theorem loudA_le (hc : ∀ f args h nx, Le (callF f args h nx) (call f args h nx)) (hB : BkOk bk B) (op : Op) (ty : TypeId) (args : List Value) (h : Heap) (nx : Nat) {kl : Kl} {K : Out → Ans} (hl : ∀ v h' nx', Le (kl v h' nx') (K (v, h', nx'))) :
  Le (loudA op E callF bk ty args h nx (.no w) kl) (B (loud E call op args h nx) K) := by
 have slow : isCall op = false → Le (dSlow op E callF bk ty args h nx (.no w) kl) (B (loud E call op args h nx) K) := fun hi => by
  refine hB.le (by rw [loud_call (c2 := call) hi]; exact Le.rfl') fun v h nx => ?_
  have : fK kl v h nx = kl v h nx := by
   unfold fK
   rw [fV_eq]
   have fT_eq : ∀ (h : Heap) (k : Heap → Ans), fT h k = k h := fun h k => by cases h <;> rfl
   rw [fT_eq, fN_eq]
  rw [this]; exact hl v h nx
 cases op with
 | store t a b =>
  show Le (d_store t E callF bk ty args h nx (.no w) kl) _
  unfold d_store
  rcases args with _ | ⟨p, _ | ⟨v, _ | ⟨x, r⟩⟩⟩
  ·exact Le.no
  ·exact Le.no
  ·show Le (vPtr p (.no w) fun n off => storeA E.P t h n off v (.no w) fun h => kl undef h nx) _
   have key : ∀ n off, p = .pointer (some ⟨n, off, none⟩) → Le (storeA E.P t h n off v (.no w) fun h => kl undef h nx) (B (loud E call (.store t a b) [p, v] h nx) K) := fun n off hp => by
    subst hp
    rcases storeA_ok E.P t h n off v (.no w) (fun h => kl undef h nx) with e | ⟨z, h', hz, hl', hw, e⟩
    ·rw [e]; exact Le.no
    ·rw [e]
     have : loud E call (.store t a b) [.pointer (some ⟨n, off, none⟩), v] h nx = .ok [(undef, h', nx)] := by
      unfold loud
      simp only [hz, hl', hw]
     rw [this, hB.one]
     exact hl undef h' nx
   cases p with
   | pointer a =>
    cases a with
    | none => exact Le.no
    | some a =>
     obtain ⟨n, off, s⟩ := a
     cases s with
     | none => exact key n off rfl
     | some s => exact Le.no
   | _ => exact Le.no
  ·exact Le.no
 | call c =>
  obtain ⟨callee, cargs, ts⟩ := c
  cases callee with
  | value f =>
   show Le (d_call E callF bk ty args h nx (.no w) kl) _
   cases args with
   | nil => exact Le.no
   | cons fv l =>
    show Le (vFn fv (.no w) fun g first captured => lapp (Array.toList first) l fun a => lapp a (Array.toList captured) fun args => callA E callF bk g args h nx (.no w) kl) _
    cases fv with
    | func fn first captured =>
     cases fn with
     | func g =>
      show Le (lapp (Array.toList first) l fun a => lapp a (Array.toList captured) fun args => callA E callF bk g args h nx (.no w) kl) _
      rw [lapp_eq, lapp_eq]
      have e : loud E call (.call { callee := .value f, args := cargs, argTypes := ts }) (.func (.func g) first captured :: l) h nx = (match E.ext g with
       | some f => (match f h (first.toList ++ l ++ captured.toList) with | some v => .ok [(v, h, nx)] | none => .no [])
       | none => (match callOk E.P g with
        | true => call g (first.toList ++ l ++ captured.toList) h nx
        | false => .no [])) := rfl
      rw [e]
      unfold callA
      cases E.ext g with
      | none =>
       show Le (bA (callOk E.P g) (.no w) _) _
       cases callOk E.P g with
       | false => exact Le.no
       | true => exact hB.le (hc g _ h nx) hl
      | some fe =>
       show Le (oV (fe h (first.toList ++ l ++ captured.toList)) (.no w) _) _
       cases hfe : fe h (first.toList ++ l ++ captured.toList) with
       | none => exact Le.no
       | some v =>
        simp only
        rw [hfe, hB.one]
        show Le (fV v fun v => kl v h nx) _
        rw [fV_eq]
        exact hl v h nx
     | _ => exact Le.no
    | _ => exact Le.no
  | invoke r m => exact slow rfl
  | builtin b =>
   cases b with
   | append =>
    rcases hts : ts.toList with _ | ⟨t, _ | ⟨t', _ | ⟨t2, r⟩⟩⟩
    ·have : isApp (.call { callee := .builtin .append, args := cargs, argTypes := ts }) = none := by unfold isApp; simp only [hts]
     show Le (@Option.rec (TypeId × TypeId) (fun _ => Ldt) (dSlow _) (fun p => d_app _ p.1 p.2) (isApp (.call { callee := .builtin .append, args := cargs, argTypes := ts })) E callF bk ty args h nx (.no w) kl) _
     rw [this]; exact slow rfl
    ·have : isApp (.call { callee := .builtin .append, args := cargs, argTypes := ts }) = none := by unfold isApp; simp only [hts]
     show Le (@Option.rec (TypeId × TypeId) (fun _ => Ldt) (dSlow _) (fun p => d_app _ p.1 p.2) (isApp (.call { callee := .builtin .append, args := cargs, argTypes := ts })) E callF bk ty args h nx (.no w) kl) _
     rw [this]; exact slow rfl
    ·have : isApp (.call { callee := .builtin .append, args := cargs, argTypes := ts }) = some (t, t') := by unfold isApp; simp only [hts]
     show Le (@Option.rec (TypeId × TypeId) (fun _ => Ldt) (dSlow _) (fun p => d_app _ p.1 p.2) (isApp (.call { callee := .builtin .append, args := cargs, argTypes := ts })) E callF bk ty args h nx (.no w) kl) _
     rw [this]
     rcases args with _ | ⟨s, _ | ⟨x, _ | ⟨y, r⟩⟩⟩
     ·exact Le.no
     ·exact Le.no
     ·show Le (appA E.P t t' s x h nx (dSlow _ E callF bk ty [s, x] h nx (.no w) kl) kl) _
      rcases appA_ok E.P t t' s x h nx (dSlow (.call { callee := .builtin .append, args := cargs, argTypes := ts }) E callF bk ty [s, x] h nx (.no w) kl) kl with h1 | ⟨o, ho, h1⟩
      ·rw [h1]; exact slow rfl
      ·rw [h1]
       have : loud E call (.call { callee := .builtin .append, args := cargs, argTypes := ts }) [s, x] h nx = .ok [o] := by
        unfold loud
        simp only [hts, ho]
       rw [this, hB.one]
       exact hl _ _ _
     ·exact Le.no
    ·have : isApp (.call { callee := .builtin .append, args := cargs, argTypes := ts }) = none := by unfold isApp; simp only [hts]
     show Le (@Option.rec (TypeId × TypeId) (fun _ => Ldt) (dSlow _) (fun p => d_app _ p.1 p.2) (isApp (.call { callee := .builtin .append, args := cargs, argTypes := ts })) E callF bk ty args h nx (.no w) kl) _
     rw [this]; exact slow rfl
   | _ => exact slow rfl
 | _ => exact slow rfl
theorem stepA_le (hc : ∀ f args h nx, Le (callF f args h nx) (call f args h nx)) (hB : BkOk bk B) (op : Op) (ty : TypeId) (args : List Value) (h : Heap) (nx : Nat) {kq : Value → Ans} {kl : Kl} {K : Out → Ans} (hq : ∀ v, Le (kq v) (K (v, h, nx))) (hl : ∀ v h' nx', Le (kl v h' nx') (K (v, h', nx'))) :
  Le (stepA E callF bk op ty args h nx (.no w) kq kl) (B (step E call op ty args h nx) K) := by
 unfold stepA step
 have h0 : Le (quietA op E.P h ty args (.no w) kq) (B (match quiet E.P h op ty args with | some v => .ok [(v, h, nx)] | none => .no []) K) := by
  rcases quietA_ok (P := E.P) (h := h) (ty := ty) op args (.no w) kq with e | ⟨v, hv, e⟩
  ·rw [e]; exact Le.no
  ·rw [e, hv]
   simp only
   rw [hB.one]; exact hq v
 have h1 : Le (laysO op E.P args nx (.no w) fun v o => Tr.insF 40 h nx (some o) fun h => fN (Nat.succ nx) fun nx => kl v h nx) (B (match lays E.P op args nx with | some (v, o) => .ok [(v, h.ins nx (some o), nx + 1)] | none => .no []) K) := by
  rcases laysO_ok E.P op args nx (.no w) (fun v o => Tr.insF 40 h nx (some o) fun h => fN (Nat.succ nx) fun nx => kl v h nx) with e | ⟨v, ob, hv, e⟩
  ·rw [e]; exact Le.no
  ·rw [e, hv]
   simp only
   rw [hB.one, show (Tr.insF 40 h nx (some ob) fun h => fN (Nat.succ nx) fun nx => kl v h nx) = fN (Nat.succ nx) (fun nx => kl v (h.ins nx.pred (some ob)) nx) by
    rw [fN_eq]; refine (Tr.insK_eq 40 h nx (some ob) _).trans ?_; rw [fN_eq]; rfl, fN_eq]
   exact hl v _ _
 have h2 := loudA_le (E := E) (w := w) hc hB op ty args h nx hl
 generalize cls E.P op = c
 match c with
 | 0 => exact h0
 | 1 => exact h1
 | n + 2 => exact h2
variable {fe : EA} {e : Tr Value}
theorem opX_le (hc : ∀ f args h nx, Le (callF f args h nx) (call f args h nx)) (hB : BkOk bk B) (he : EnvR fe e) (op : Op) (ty : TypeId) (h : Heap) (nx : Nat) {kq : Value → Ans} {kl : Kl} {K : Out → Ans} (hq : ∀ v, Le (kq v) (K (v, h, nx))) (hl : ∀ v h' nx', Le (kl v h' nx') (K (v, h', nx'))) :
  Le (opX op E callF bk ty fe h nx (.no w) kq kl) (match argsOf (evalZ e) (opnds op) with | some args => B (step E call op ty args h nx) K | none => .no []) := by
 have slow : Le (xSlow op E callF bk ty fe h nx (.no w) kq kl) (match argsOf (evalZ e) (opnds op) with | some args => B (step E call op ty args h nx) K | none => .no []) := by
  unfold xSlow
  rcases argsK_ok he (opnds op) (.no w) (fun args => stepA E callF bk op ty args h nx (.no w) kq kl) with e1 | ⟨vs, hvs, e1⟩
  ·rw [e1]; exact Le.no
  ·rw [e1, hvs]
   exact stepA_le hc hB op ty vs h nx hq hl
 have one : ∀ (x : Operand) (f : Value → Ans), opnds op = [x] → (∀ v, Le (f v) (B (step E call op ty [v] h nx) K)) → Le (evF x fe (.no w) f) (match argsOf (evalZ e) (opnds op) with | some args => B (step E call op ty args h nx) K | none => .no []) := fun x f hx hf => by
  rcases evF_ok he x (.no w) f with e1 | ⟨v, hv, e1⟩
  ·rw [e1]; exact Le.no
  ·rw [e1, hx]
   unfold argsOf
   rw [hv]
   exact hf v
 have two : ∀ (x y : Operand) (f : Value → Value → Ans), opnds op = [x, y] → (∀ u v, Le (f u v) (B (step E call op ty [u, v] h nx) K)) → Le (evF x fe (.no w) fun u => evF y fe (.no w) fun v => f u v) (match argsOf (evalZ e) (opnds op) with | some args => B (step E call op ty args h nx) K | none => .no []) := fun x y f hx hf => by
  rcases evF_ok he x (.no w) (fun u => evF y fe (.no w) fun v => f u v) with e1 | ⟨u, hu, e1⟩
  ·rw [e1]; exact Le.no
  ·rw [e1]
   rcases evF_ok he y (.no w) (fun v => f u v) with e2 | ⟨v, hv, e2⟩
   ·rw [e2]; exact Le.no
   ·rw [e2, hx]
    unfold argsOf
    rw [hu]
    unfold argsOf
    rw [hv]
    exact hf u v
 have st := fun args => stepA_le (E := E) (w := w) hc hB op ty args h nx hq hl
 cases op with
 | move x => exact one x kq rfl fun v => st [v]
 | assign x => exact one x kq rfl fun v => st [v]
 | load t x => exact one x _ rfl fun v => st [v]
 | store t p v => exact two p v _ rfl fun u v => st [u, v]
 | binOp op t x y u => exact two x y _ rfl fun u v => st [u, v]
 | fieldAddr s x f => exact one x _ rfl fun v => st [v]
 | extract x i => exact one x _ rfl fun v => st [v]
 | _ => exact slow
end
end
noncomputable section
section
variable {E : Env} {callF call : CallT} {ops : Array Oper} {fe : EA} {e : Tr Value} {h : Heap} {nx : Nat}
def KnOk (kn : Kn) (K : St → Ans) : Prop := ∀ fe e h nx, EnvR fe e → Le (kn fe h nx) (K ⟨e, h, nx⟩)
theorem setE_ok (he : EnvR fe e) (dst : Option Nat) (v : Value) (h : Heap) (nx : Nat) (k : EA → Ans) : (∃ w, setE dst fe v k = .no w) ∨ ∃ fe' e', setE dst fe v k = k fe' ∧ St.set e dst v h nx = ⟨e', h, nx⟩ ∧ EnvR fe' e' := by
 cases dst with
 | none => exact .inr ⟨fe, e, rfl, rfl, he⟩
 | some d =>
  rcases he.set d v with h1 | ⟨fe', h1, h2⟩
  ·exact .inl (h1 k)
  ·exact .inr ⟨fe', _, h1 k, rfl, h2⟩
theorem setE_le (he : EnvR fe e) (dst : Option Nat) (v : Value) (h : Heap) (nx : Nat) {k : EA → Ans} {K : St → Ans} (hk : ∀ fe' e', EnvR fe' e' → Le (k fe') (K ⟨e', h, nx⟩)) : Le (setE dst fe v k) (K (St.set e dst v h nx)) := by
 rcases setE_ok he dst v h nx k with ⟨w, h1⟩ | ⟨fe', e', h1, h2, h3⟩
 ·rw [h1]; exact Le.no
 ·rw [h1, h2]; exact hk fe' e' h3
theorem gateF_ok (he : EnvR fe e) (o : Oper) (no skip go : Ans) : gateF ops o fe no skip go = no ∨ (wantsZ ops o e = some false ∧ gateF ops o fe no skip go = skip) ∨ (wantsZ ops o e = some true ∧ gateF ops o fe no skip go = go) := by
 obtain ⟨dst, op, type, pos, after, guard⟩ := o
 cases guard with
 | none => exact .inr (.inr ⟨rfl, rfl⟩)
 | some p =>
  obtain ⟨j, want⟩ := p
  have e2 : wantsZ ops ⟨dst, op, type, pos, after, some (j, want)⟩ e = (match dstOf ops j with
    | some d => (match e.get d with
     | some (.bool b) => (match b, want with
      | true, true => some true
      | false, false => some true
      | _, _ => some false)
     | some (.tuple _) => some false
     | _ => none)
    | none => none) := rfl
  generalize hF : (fun v => vBool v (vTup v no fun _ => skip) fun b => @Bool.rec (fun _ => Ans) (@Bool.rec (fun _ => Ans) go skip want) (@Bool.rec (fun _ => Ans) skip go want) b) = F
  have e1 : gateF ops ⟨dst, op, type, pos, after, some (j, want)⟩ fe no skip go = oN (dstOf ops j) no fun d => getE d fe no F := by rw [← hF]; rfl
  rw [e1, e2]
  cases dstOf ops j with
  | none => exact .inl rfl
  | some d =>
   have e3 : oN (some d) no (fun d => getE d fe no F) = getE d fe no F := rfl
   rw [e3]
   rcases getE_ok he d no F with h1 | ⟨v, hv, h1⟩
   ·exact .inl h1
   ·rw [h1, ← hF]
    simp only [hv]
    cases v with
    | bool b => cases b <;> cases want <;> first | exact .inr (.inr ⟨rfl, rfl⟩) | exact .inr (.inl ⟨rfl, rfl⟩)
    | tuple a => exact .inr (.inl ⟨rfl, rfl⟩)
    | _ => exact .inl rfl
theorem zops_true {o : Oper} {rest : List Oper} {st : St} (hw : wantsZ ops o st.env = some true) : Le (bindR (stepO E call o st) fun x => zops E call ops rest (St.set st.env o.dst x.1 x.2.1 x.2.2)) (zops E call ops (o :: rest) st) := by
 have e1 : zops E call ops (o :: rest) st = (match stepO E call o st with
   | .ok [(v, h, nx)] => zops E call ops rest (St.set st.env o.dst v h nx)
   | .ok l => bindL l (fun x => zops E call ops rest (St.set st.env o.dst x.1 x.2.1 x.2.2))
   | .no w => .no (o.pos :: w)) := by
  conv => lhs; unfold zops
  rw [hw]
  simp only [setK_eq]
  cases stepO E call o st with
  | no w => rfl
  | ok l =>
   match l with
   | [] => rfl
   | [(v, h, nx)] => rfl
   | x :: y :: m => rfl
 rw [e1]
 cases stepO E call o st with
 | no w => exact Le.no
 | ok l =>
  match l with
  | [] => exact Le.rfl'
  | [(v, h, nx)] => exact Le.rfl'
  | x :: y :: m => exact Le.rfl'
theorem zops_false {o : Oper} {rest : List Oper} {st : St} (hw : wantsZ ops o st.env = some false) : zops E call ops (o :: rest) st = zops E call ops rest (St.set st.env o.dst undef st.heap st.nx) := by
 conv => lhs; unfold zops
 rw [hw]
 simp only [setK_eq]
theorem stepO_le {o : Oper} {K : Out → Ans} : Le (match argsOf (evalZ e) (opnds o.op) with | some args => bindR (step E call o.op o.type args h nx) K | none => .no []) (bindR (stepO E call o ⟨e, h, nx⟩) K) := by
 unfold stepO
 simp only [stepF_eq]
 cases argsOf (evalZ e) (opnds o.op) with
 | none => exact Le.no
 | some a => exact Le.rfl'
theorem zopsF_le (hc : ∀ f args h nx, Le (callF f args h nx) (call f args h nx)) : ∀ (l : List Oper) {fe : EA} {e : Tr Value} {h : Heap} {nx : Nat} {kn : Kn} {K : St → Ans}, EnvR fe e → KnOk kn K → Le (zopsF E callF ops l fe h nx kn) (bindR (zops E call ops l ⟨e, h, nx⟩) K)
 | [], fe, e, h, nx, kn, K, he, hk => hk fe e h nx he
 | o :: rest, fe, e, h, nx, kn, K, he, hk => by
  show Le (zstepF E callF ops o (zopsF E callF ops rest) fe h nx kn) _
  unfold zstepF
  rcases gateF_ok (ops := ops) he o (.no [o.pos, "guard"]) (setE o.dst fe undef fun env => zopsF E callF ops rest env h nx kn) (opX o.op E callF bkAll o.type fe h nx (.no [o.pos]) (fun v => setE o.dst fe v fun env => zopsF E callF ops rest env h nx kn) (fun v h nx => setE o.dst fe v fun env => zopsF E callF ops rest env h nx kn)) with h1 | ⟨hw, h1⟩ | ⟨hw, h1⟩
  ·rw [h1]; exact Le.no
  ·rw [h1, zops_false hw]
   exact setE_le he o.dst undef h nx (K := fun st => bindR (zops E call ops rest st) K) fun fe' e' he' => zopsF_le hc rest he' hk
  ·rw [h1]
   have ih : ∀ v h' nx', Le (setE o.dst fe v fun env => zopsF E callF ops rest env h' nx' kn) (bindR (zops E call ops rest (St.set e o.dst v h' nx')) K) := fun v h' nx' =>
    setE_le he o.dst v h' nx' (K := fun st => bindR (zops E call ops rest st) K) fun fe' e' he' => zopsF_le hc rest he' hk
   refine (opX_le (call := call) (K := fun x => bindR (zops E call ops rest (St.set e o.dst x.1 x.2.1 x.2.2)) K) hc bkAll_ok he o.op o.type h nx (fun v => ih v h nx) ih).trans ?_
   refine stepO_le.trans ?_
   exact bindR_assoc.trans (bindR_mono (zops_true hw) fun _ => Le.rfl')
theorem wmL_bit (i : Nat) : ∀ (l : List Edge), (wmL l).testBit i = l.any fun e => bindsB e && (e.on == i)
 | [] => by simp [wmL]
 | e :: l => by
  unfold wmL
  cases hb : bindsB e with
  | true =>
   simp only
   show ((2 ^ e.on ||| wmL l).testBit i) = _
   rw [Nat.testBit_or, wmL_bit i l, Nat.testBit_two_pow]
   simp [hb]
   rfl
  | false =>
   simp only
   rw [wmL_bit i l]
   simp [hb]
theorem readyB_iff (done : Nat) : ∀ (l : List Edge), readyB done l = true ↔ ∀ e ∈ l, bindsB e = true → done.testBit e.on = true
 | [] => by simp [readyB]
 | e :: l => by
  unfold readyB
  rw [Bool.and_eq_true, readyB_iff done l]
  cases hb : bindsB e <;> simp [hb]
theorem readyF_eq (done : Nat) (o : Oper) : readyF done o = readyB done o.after.toList := by
 rw [Bool.eq_iff_iff, readyB_iff]
 unfold readyF wm
 rw [Nat.beq_eq]
 show (wmL o.after.toList &&& done = wmL o.after.toList) ↔ _
 constructor
 ·intro h x hx hb
  have h1 : (wmL o.after.toList &&& done).testBit x.on = (wmL o.after.toList).testBit x.on := by rw [h]
  rw [Nat.testBit_and, wmL_bit] at h1
  have h2 : (o.after.toList.any fun e => bindsB e && (e.on == x.on)) = true := List.any_eq_true.2 ⟨x, hx, by simp [hb]⟩
  rw [h2] at h1
  simpa using h1
 ·intro h
  apply Nat.eq_of_testBit_eq
  intro i
  rw [Nat.testBit_and]
  cases hw : (wmL o.after.toList).testBit i with
  | false => rfl
  | true =>
   rw [wmL_bit] at hw
   obtain ⟨x, hx, hb⟩ := List.any_eq_true.1 hw
   simp only [Bool.and_eq_true, beq_iff_eq] at hb
   rw [← hb.2, h x hx hb.1]
   rfl
theorem is2_eq (P : Program) (op : Op) : (match cls P op with | 2 => none | _ => some true : Option Bool) = (match is2 P op with | true => none | false => some true) := by
 unfold is2
 generalize cls P op = c
 match c with
 | 0 => rfl
 | 1 => rfl
 | 2 => rfl
 | n + 3 => rfl
def testQ (P : Program) (ops : Array Oper) (done : Nat) (env : Tr Value) (o : Oper) : Option Bool := match readyB done o.after.toList with
 | true => (match wantsZ ops o env with
  | some false => some false
  | some true => (match cls P o.op with | 2 => none | _ => some true)
  | none => none)
 | false => none
theorem pickQ_cons (P : Program) (ops : Array Oper) (done : Nat) (env : Tr Value) (i : Nat) (o : Oper) (l : Todo) : pickQ P ops done env ((i, o) :: l) = (match testQ P ops done env o with
 | some b => some ((i, o, b), l)
 | none => (match pickQ P ops done env l with | some (x, r) => some (x, (i, o) :: r) | none => none)) := rfl
theorem pickQF_ok (he : EnvR fe e) (done : Nat) : ∀ (l : Todo) (nn : Ans) (sm : Nat → Oper → Bool → Todo → Ans), (∃ w, pickQF E.P ops done fe l nn sm = .no w) ∨ (∃ i o b r, pickQ E.P ops done e l = .some ((i, o, b), r) ∧ pickQF E.P ops done fe l nn sm = sm i o b r) ∨ (pickQ E.P ops done e l = .none ∧ pickQF E.P ops done fe l nn sm = nn)
 | [], nn, sm => .inr (.inr ⟨rfl, rfl⟩)
 | (i, o) :: l, nn, sm => by
  have ih := pickQF_ok he done l nn fun j p b r => sm j p b ((i, o) :: r)
  have e1 : pickQF E.P ops done fe ((i, o) :: l) nn sm = bA (readyF done o) (pickQF E.P ops done fe l nn fun j p b r => sm j p b ((i, o) :: r))
   (gateF ops o fe (.no [o.pos, "guard"]) (sm i o false l) (bA (is2 E.P o.op) (sm i o true l) (pickQF E.P ops done fe l nn fun j p b r => sm j p b ((i, o) :: r)))) := rfl
  have pass : testQ E.P ops done e o = .none → (∃ w, pickQF E.P ops done fe l nn (fun j p b r => sm j p b ((i, o) :: r)) = .no w) ∨ (∃ i' o' b r, pickQ E.P ops done e ((i, o) :: l) = .some ((i', o', b), r) ∧ pickQF E.P ops done fe l nn (fun j p b r => sm j p b ((i, o) :: r)) = sm i' o' b r) ∨ (pickQ E.P ops done e ((i, o) :: l) = .none ∧ pickQF E.P ops done fe l nn (fun j p b r => sm j p b ((i, o) :: r)) = nn) := fun hp => by
   rcases ih with h1 | ⟨i', o', b, r, h1, h2⟩ | ⟨h1, h2⟩
   ·exact .inl h1
   ·refine .inr (.inl ⟨i', o', b, (i, o) :: r, ?_, h2⟩)
    rw [pickQ_cons, hp, h1]
   ·refine .inr (.inr ⟨?_, h2⟩)
    rw [pickQ_cons, hp, h1]
  have take : ∀ b, testQ E.P ops done e o = .some b → pickQ E.P ops done e ((i, o) :: l) = .some ((i, o, b), l) := fun b hp => by
   rw [pickQ_cons, hp]
  rw [e1, readyF_eq]
  cases hr : readyB done o.after.toList with
  | false => exact pass (by unfold testQ; rw [hr])
  | true =>
   show (∃ w, gateF ops o fe _ _ _ = _) ∨ (∃ i' o' b r, _ ∧ gateF ops o fe _ _ _ = _) ∨ (_ ∧ gateF ops o fe _ _ _ = _)
   rcases gateF_ok (ops := ops) he o (.no [o.pos, "guard"]) (sm i o false l) (bA (is2 E.P o.op) (sm i o true l) (pickQF E.P ops done fe l nn fun j p b r => sm j p b ((i, o) :: r))) with h1 | ⟨hw, h1⟩ | ⟨hw, h1⟩
   ·exact .inl ⟨_, h1⟩
   ·rw [h1]
    exact .inr (.inl ⟨i, o, false, l, take false (by unfold testQ; rw [hr, hw]), rfl⟩)
   ·rw [h1]
    cases h2 : is2 E.P o.op with
    | false => exact .inr (.inl ⟨i, o, true, l, take true (by unfold testQ; rw [hr, hw]; simp only; rw [is2_eq, h2]), rfl⟩)
    | true => exact pass (by unfold testQ; rw [hr, hw]; simp only; rw [is2_eq, h2])
theorem pickLF_ok (done : Nat) : ∀ (l : Todo) (nn : Ans) (sm : Nat → Oper → Todo → Ans), (∃ i o r, pickL done l = .some ((i, o), r) ∧ pickLF done l nn sm = sm i o r) ∨ (pickL done l = .none ∧ pickLF done l nn sm = nn)
 | [], nn, sm => .inr ⟨rfl, rfl⟩
 | (i, o) :: l, nn, sm => by
  have ih := pickLF_ok done l nn fun j p r => sm j p ((i, o) :: r)
  have e1 : pickLF done ((i, o) :: l) nn sm = bA (readyF done o) (pickLF done l nn fun j p r => sm j p ((i, o) :: r)) (sm i o l) := rfl
  rw [e1, readyF_eq]
  unfold pickL
  cases hr : readyB done o.after.toList with
  | true => exact .inl ⟨i, o, l, rfl, rfl⟩
  | false =>
   rcases ih with ⟨i', o', r, h1, h2⟩ | ⟨h1, h2⟩
   ·simp only [h1]
    exact .inl ⟨i', o', (i, o) :: r, rfl, h2⟩
   ·simp only [h1]
    exact .inr ⟨trivial, h2⟩
theorem noneRF_eq (done : Nat) : ∀ (l : Todo), noneRF done l = noneReady done l
 | [] => rfl
 | (i, o) :: l => by
  have e1 : noneRF done ((i, o) :: l) = @Bool.rec (fun _ => Bool) (noneRF done l) false (readyF done o) := rfl
  rw [e1, readyF_eq, noneRF_eq done l]
  show _ = (!readyB done o.after.toList && noneReady done l)
  cases readyB done o.after.toList <;> rfl
theorem allHF_ok (P : Program) (h : Heap) {w : List String} : ∀ (l : List Watch) (yes : Ans), allHF P h l (.no w) yes = .no w ∨ (allHold P h l = true ∧ allHF P h l (.no w) yes = yes)
 | [], yes => .inr ⟨rfl, rfl⟩
 | x :: l, yes => by
  have e1 : allHF P h (x :: l) (.no w) yes = holdsF P h x (.no w) (allHF P h l (.no w) yes) := rfl
  rw [e1]
  have hold : holdsF P h x (.no w) (allHF P h l (.no w) yes) = .no w ∨ (x.holds P h = true ∧ holdsF P h x (.no w) (allHF P h l (.no w) yes) = allHF P h l (.no w) yes) := by
   obtain ⟨i, op, ty, args, val, obj⟩ := x
   cases obj with
   | none =>
    rcases quietA_ok (P := P) (h := h) (ty := ty) op args (.no w) (fun v => bA (eqV v val) (.no w) (allHF P h l (.no w) yes)) with h1 | ⟨v, hv, h1⟩
    ·exact .inl h1
    ·have h2 : holdsF P h ⟨i, op, ty, args, val, none⟩ (.no w) (allHF P h l (.no w) yes) = bA (eqV v val) (.no w) (allHF P h l (.no w) yes) := h1
     rw [h2]
     cases he : eqV v val with
     | false => exact .inl rfl
     | true =>
      refine .inr ⟨?_, rfl⟩
      unfold Watch.holds
      simp only [hv, he]
   | some p =>
    obtain ⟨n, o⟩ := p
    have h2 : holdsF P h ⟨i, op, ty, args, val, some (n, o)⟩ (.no w) (allHF P h l (.no w) yes) = oH (Tr.get h n) (.no w) fun o' => bA (eqO o' o) (.no w) (allHF P h l (.no w) yes) := rfl
    rw [h2]
    unfold Watch.holds
    simp only
    cases hg : Tr.get h n with
    | none => exact .inl rfl
    | some o' =>
     show bA (eqO o' o) _ _ = _ ∨ (_ ∧ bA (eqO o' o) _ _ = _)
     cases he : eqO o' o with
     | false => exact .inl rfl
     | true => exact .inr ⟨by simp only [he], rfl⟩
  rcases hold with h1 | ⟨h1, h2⟩
  ·exact .inl h1
  ·rw [h2]
   rcases allHF_ok P h l yes with h3 | ⟨h3, h4⟩
   ·exact .inl h3
   ·refine .inr ⟨?_, h4⟩
    unfold allHold
    simp only [h1, h3]
theorem dropF_eq (ms : List Nat) (i : Nat) : ∀ (l : List Watch) (k : List Watch → Ans), dropF ms i l k = k (dropW ms i l)
 | [], k => rfl
 | x :: l, k => by
  have e1 : dropF ms i (x :: l) k = @Bool.rec (fun _ => Ans) (dropF ms i l fun r => k (x :: r)) (dropF ms i l k) (trW ms i x.i) := rfl
  rw [e1]
  unfold dropW
  cases trW ms i x.i with
  | true => exact dropF_eq ms i l k
  | false => exact dropF_eq ms i l _
def bindS (r : R St) (K : St → Ans) : Ans := match r with
 | .ok st => K st
 | .no w => .no w
theorem dloopF_le (hc : ∀ f args h nx, Le (callF f args h nx) (call f args h nx)) (ms : List Nat) : ∀ (f : Nat) {todo : Todo} {done : Nat} {ws : List Watch} {fe : EA} {e : Tr Value} {h : Heap} {nx : Nat} {kn : Kn} {K : St → Ans}, EnvR fe e → KnOk kn K →
  Le (dloopF E callF ops ms f todo done ws fe h nx kn) (bindS (dloop E call ops ms f todo done ws ⟨e, h, nx⟩) K)
 | 0, todo, done, ws, fe, e, h, nx, kn, K, he, hk => Le.no
 | f + 1, todo, done, ws, fe, e, h, nx, kn, K, he, hk => by
  show Le (dstepF E callF ops ms (dloopF E callF ops ms f) todo done ws fe h nx kn) _
  unfold dstepF
  cases todo with
  | nil =>
   show Le (allHF E.P h ws (.no ["late"]) (kn fe h nx)) _
   rcases allHF_ok E.P h (w := ["late"]) ws (kn fe h nx) with h1 | ⟨h1, h2⟩
   ·rw [h1]; exact Le.no
   ·rw [h2]
    have e1 : dloop E call ops ms (f + 1) [] done ws ⟨e, h, nx⟩ = .ok ⟨e, h, nx⟩ := by
     unfold dloop
     simp only [h1]
    rw [e1]
    exact hk fe e h nx he
  | cons p todo =>
   rw [show ∀ f t : Ans, bA (isNilT (p :: todo)) f t = f from fun _ _ => rfl]
   generalize hno : (pickLF done (p :: todo) (.no ["none ready"]) fun i o rest => allHF E.P h ws (.no [o.pos, "late"]) (bA (noneRF done rest) (.no [o.pos, "drawn"]) (gateF ops o fe (.no [o.pos, "guard"]) (.no [o.pos, "drawn"]) (bA (is2 E.P o.op) (.no [o.pos, "drawn"])
    (argsK (opnds o.op) fe (.no [o.pos, "operand"]) fun args => stepA E callF bkOne o.op o.type args h nx (.no [o.pos]) (fun _ => .no [o.pos, "quiet"]) fun v h nx => setE o.dst fe v fun env => fN (Nat.lor done (Nat.pow 2 i)) fun done => dropF ms i ws fun ws => dloopF E callF ops ms f rest done ws env h nx kn))))) = xno
   rcases pickQF_ok (E := E) (ops := ops) he done (p :: todo) xno (fun i o b rest => fN (Nat.lor done (Nat.pow 2 i)) fun done => bA b (setE o.dst fe undef fun env => dloopF E callF ops ms f rest done ws env h nx kn)
    (argsK (opnds o.op) fe (.no [o.pos, "operand"]) fun args => @Nat.rec (fun _ => Ans)
     (quietA o.op E.P h o.type args (.no [o.pos]) fun v => setE o.dst fe v fun env => dloopF E callF ops ms f rest done (@Bool.rec (fun _ => List Watch) ws (⟨i, o.op, o.type, args, v, none⟩ :: ws) (reads o.op)) env h nx kn)
     (fun c _ => @Nat.rec (fun _ => Ans) (laysO o.op E.P args nx (.no [o.pos]) fun v ob => Tr.insF 40 h nx (some ob) fun h => setE o.dst fe v fun env => fN (Nat.succ nx) fun nx' => dloopF E callF ops ms f rest done (⟨i, o.op, o.type, args, v, some (nx, ob)⟩ :: ws) env h nx' kn) (fun _ _ => .no [o.pos]) c) (cls E.P o.op))) with ⟨w, h1⟩ | ⟨i, o, b, r, hp, h1⟩ | ⟨hp, h1⟩
   ·rw [h1]; exact Le.no
   ·rw [h1, fN_eq]
    have hdone : Nat.lor done (Nat.pow 2 i) = done ||| 2 ^ i := rfl
    rw [hdone]
    cases b with
    | false =>
     show Le (setE o.dst fe undef fun env => dloopF E callF ops ms f r (done ||| 2 ^ i) ws env h nx kn) _
     have e1 : dloop E call ops ms (f + 1) (p :: todo) done ws ⟨e, h, nx⟩ = dloop E call ops ms f r (done ||| 2 ^ i) ws (St.set e o.dst undef h nx) := by
      conv => lhs; unfold dloop
      simp only [hp, setK_eq]
     rw [e1]
     exact setE_le he o.dst undef h nx (K := fun st => bindS (dloop E call ops ms f r (done ||| 2 ^ i) ws st) K) fun fe' e' he' => dloopF_le hc ms f he' hk
    | true =>
     show Le (argsK (opnds o.op) fe (.no [o.pos, "operand"]) _) _
     generalize hF : (fun args => @Nat.rec (fun _ => Ans)
      (quietA o.op E.P h o.type args (.no [o.pos]) fun v => setE o.dst fe v fun env => dloopF E callF ops ms f r (done ||| 2 ^ i) (@Bool.rec (fun _ => List Watch) ws (⟨i, o.op, o.type, args, v, none⟩ :: ws) (reads o.op)) env h nx kn)
      (fun c _ => @Nat.rec (fun _ => Ans) (laysO o.op E.P args nx (.no [o.pos]) fun v ob => Tr.insF 40 h nx (some ob) fun h => setE o.dst fe v fun env => fN (Nat.succ nx) fun nx' => dloopF E callF ops ms f r (done ||| 2 ^ i) (⟨i, o.op, o.type, args, v, some (nx, ob)⟩ :: ws) env h nx' kn) (fun _ _ => .no [o.pos]) c) (cls E.P o.op)) = F
     rcases argsK_ok he (opnds o.op) (.no [o.pos, "operand"]) F with h2 | ⟨args, ha, h2⟩
     ·rw [h2]; exact Le.no
     ·rw [h2, ← hF]
      have e1 : dloop E call ops ms (f + 1) (p :: todo) done ws ⟨e, h, nx⟩ = (match cls E.P o.op with
        | 0 => (match quiet E.P h o.op o.type args with
         | some v => dloop E call ops ms f r (done ||| 2 ^ i) (match reads o.op with | true => ⟨i, o.op, o.type, args, v, none⟩ :: ws | false => ws) (St.set e o.dst v h nx)
         | none => .no [o.pos])
        | 1 => (match lays E.P o.op args nx with
         | some (v, ob) => dloop E call ops ms f r (done ||| 2 ^ i) (⟨i, o.op, o.type, args, v, some (nx, ob)⟩ :: ws) (St.set e o.dst v (h.ins nx (some ob)) (nx + 1))
         | none => .no [o.pos])
        | _ => .no [o.pos]) := by
       conv => lhs; unfold dloop
       simp only [hp, ha, setK_eq]
       rfl
      rw [e1]
      generalize cls E.P o.op = c
      match c with
      | 0 =>
       simp only
       rcases quietA_ok (P := E.P) (h := h) (ty := o.type) o.op args (.no [o.pos]) (fun v => setE o.dst fe v fun env => dloopF E callF ops ms f r (done ||| 2 ^ i) (@Bool.rec (fun _ => List Watch) ws (⟨i, o.op, o.type, args, v, none⟩ :: ws) (reads o.op)) env h nx kn) with h3 | ⟨v, hv, h3⟩
       ·exact Le.of_eq h3 Le.no
       ·refine Le.of_eq h3 ?_
        simp only [hv]
        have hws : (@Bool.rec (fun _ => List Watch) ws (⟨i, o.op, o.type, args, v, none⟩ :: ws) (reads o.op)) = (match reads o.op with | true => ⟨i, o.op, o.type, args, v, none⟩ :: ws | false => ws) := by cases reads o.op <;> rfl
        rw [hws]
        exact setE_le he o.dst v h nx (K := fun st => bindS (dloop E call ops ms f r (done ||| 2 ^ i) _ st) K) fun fe' e' he' => dloopF_le hc ms f he' hk
      | 1 =>
       simp only
       rcases laysO_ok E.P o.op args nx (.no [o.pos]) (fun v ob => Tr.insF 40 h nx (some ob) fun h => setE o.dst fe v fun env => fN (Nat.succ nx) fun nx' => dloopF E callF ops ms f r (done ||| 2 ^ i) (⟨i, o.op, o.type, args, v, some (nx, ob)⟩ :: ws) env h nx' kn) with h3 | ⟨v, ob, hv, h3⟩
       ·exact Le.of_eq h3 Le.no
       ·refine Le.of_eq h3 ?_
        simp only [hv]
        refine Le.of_eq (Tr.insK_eq 40 h nx (some ob) _) ?_
        refine setE_le he o.dst v (h.ins nx (some ob)) (nx + 1) (K := fun st => bindS (dloop E call ops ms f r (done ||| 2 ^ i) _ st) K) fun fe' e' he' => ?_
        rw [fN_eq]
        exact dloopF_le hc ms f he' hk
      | n + 2 => exact Le.no
   ·rw [h1, ← hno]
    generalize hF : (fun i (o : Oper) rest => allHF E.P h ws (.no [o.pos, "late"]) (bA (noneRF done rest) (.no [o.pos, "drawn"]) (gateF ops o fe (.no [o.pos, "guard"]) (.no [o.pos, "drawn"]) (bA (is2 E.P o.op) (.no [o.pos, "drawn"])
     (argsK (opnds o.op) fe (.no [o.pos, "operand"]) fun args => stepA E callF bkOne o.op o.type args h nx (.no [o.pos]) (fun _ => .no [o.pos, "quiet"]) fun v h nx => setE o.dst fe v fun env => fN (Nat.lor done (Nat.pow 2 i)) fun done => dropF ms i ws fun ws => dloopF E callF ops ms f rest done ws env h nx kn))))) = F
    rcases pickLF_ok done (p :: todo) (.no ["none ready"]) F with ⟨i, o, rest, hl, h2⟩ | ⟨hl, h2⟩
    ·rw [h2, ← hF]
     rcases allHF_ok E.P h (w := [o.pos, "late"]) ws (bA (noneRF done rest) (.no [o.pos, "drawn"]) (gateF ops o fe (.no [o.pos, "guard"]) (.no [o.pos, "drawn"]) (bA (is2 E.P o.op) (.no [o.pos, "drawn"])
      (argsK (opnds o.op) fe (.no [o.pos, "operand"]) fun args => stepA E callF bkOne o.op o.type args h nx (.no [o.pos]) (fun _ => .no [o.pos, "quiet"]) fun v h nx => setE o.dst fe v fun env => fN (Nat.lor done (Nat.pow 2 i)) fun done => dropF ms i ws fun ws => dloopF E callF ops ms f rest done ws env h nx kn)))) with h3 | ⟨hall, h3⟩
     ·exact Le.of_eq h3 Le.no
     ·refine Le.of_eq h3 ?_
      rw [noneRF_eq]
      cases hnr : noneReady done rest with
      | false => exact Le.no
      | true =>
       show Le (gateF ops o fe _ _ _) _
       rcases gateF_ok (ops := ops) he o (.no [o.pos, "guard"]) (.no [o.pos, "drawn"]) (bA (is2 E.P o.op) (.no [o.pos, "drawn"])
        (argsK (opnds o.op) fe (.no [o.pos, "operand"]) fun args => stepA E callF bkOne o.op o.type args h nx (.no [o.pos]) (fun _ => .no [o.pos, "quiet"]) fun v h nx => setE o.dst fe v fun env => fN (Nat.lor done (Nat.pow 2 i)) fun done => dropF ms i ws fun ws => dloopF E callF ops ms f rest done ws env h nx kn)) with h4 | ⟨hw, h4⟩ | ⟨hw, h4⟩
       ·rw [h4]; exact Le.no
       ·rw [h4]; exact Le.no
       ·rw [h4]
        cases h5 : is2 E.P o.op with
        | false => exact Le.no
        | true =>
         have hc2 : cls E.P o.op = 2 := Nat.eq_of_beq_eq_true h5
         have e1 : dloop E call ops ms (f + 1) (p :: todo) done ws ⟨e, h, nx⟩ = (match stepO E call o ⟨e, h, nx⟩ with
           | .ok [(v, h, nx)] => dloop E call ops ms f rest (done ||| 2 ^ i) (dropW ms i ws) (St.set e o.dst v h nx)
           | .ok _ => .no [o.pos, "ways"]
           | .no w => .no (o.pos :: w)) := by
          conv => lhs; unfold dloop
          simp only [hp, hall, hl, hnr, hw, hc2, setK_eq]
          rfl
         rw [e1]
         show Le (argsK (opnds o.op) fe (.no [o.pos, "operand"]) _) _
         generalize hG : (fun args => stepA E callF bkOne o.op o.type args h nx (.no [o.pos]) (fun _ => .no [o.pos, "quiet"]) fun v h nx => setE o.dst fe v fun env => fN (Nat.lor done (Nat.pow 2 i)) fun done => dropF ms i ws fun ws => dloopF E callF ops ms f rest done ws env h nx kn) = G
         rcases argsK_ok he (opnds o.op) (.no [o.pos, "operand"]) G with h6 | ⟨args, ha, h6⟩
         ·rw [h6]; exact Le.no
         ·rw [h6, ← hG]
          have hst : stepO E call o ⟨e, h, nx⟩ = step E call o.op o.type args h nx := by
           unfold stepO
           simp only [ha, stepF_eq]
          rw [hst]
          refine (stepA_le (E := E) (call := call) (K := fun x => bindS (dloop E call ops ms f rest (done ||| 2 ^ i) (dropW ms i ws) (St.set e o.dst x.1 x.2.1 x.2.2)) K) hc bkOne_ok o.op o.type args h nx (fun v => Le.no) fun v h' nx' => ?_).trans ?_
          ·refine setE_le he o.dst v h' nx' (K := fun st => bindS (dloop E call ops ms f rest (done ||| 2 ^ i) (dropW ms i ws) st) K) fun fe' e' he' => ?_
           rw [fN_eq, dropF_eq]
           exact dloopF_le hc ms f he' hk
          ·cases step E call o.op o.type args h nx with
           | no w => exact Le.no
           | ok l =>
            match l with
            | [] => exact Le.no
            | [(v, h', nx')] => exact Le.rfl'
            | x :: y :: m => exact Le.no
    ·rw [h2]; exact Le.no
end
end
noncomputable section
section
variable {E : Env} {callF call : CallT} {ops : Array Oper} {fe : EA} {e : Tr Value} {h : Heap} {nx : Nat}
theorem drawF_le (hc : ∀ f args h nx, Le (callF f args h nx) (call f args h nx)) (he : EnvR fe e) {kn : Kn} {K : St → Ans} (hk : KnOk kn K) : Le (drawF E callF ops fe h nx kn) (bindR (zdraw E call ops ⟨e, h, nx⟩) K) := by
 unfold drawF zdraw
 cases staticB ops with
 | false => exact Le.no
 | true =>
  refine (dloopF_le hc (masks ops.toList []) (ops.size + 1) he hk).trans ?_
  simp only
  cases dloop E call ops (masks ops.toList []) (ops.size + 1) (tagOps 0 ops.toList) 0 [] ⟨e, h, nx⟩ with
  | no w => exact Le.no
  | ok st => exact Le.rfl'
theorem fT_eq (h : Heap) (k : Heap → Ans) : fT h k = k h := by cases h <;> rfl
theorem oVH_ok (o : Option (Value × Heap)) (w : List String) (k : Value → Heap → Ans) : oVH o (.no w) k = .no w ∨ ∃ v h, o = some (v, h) ∧ oVH o (.no w) k = k v h := by
 cases o with
 | none => exact .inl rfl
 | some p =>
  refine .inr ⟨p.1, p.2, rfl, ?_⟩
  show fV p.1 (fun v => fT p.2 fun h => k v h) = _
  rw [fV_eq, fT_eq]
theorem selA_ok (he : EnvR fe e) (o : Oper) (w : List String) (k : Value → Heap → Ans) : selA E.P o fe h (.no w) k = .no w ∨ ∃ v h', selZ E.P o ⟨e, h, nx⟩ = some (v, h') ∧ selA E.P o fe h (.no w) k = k v h' := by
 obtain ⟨dst, op, type, pos, after, guard⟩ := o
 have none_of : selOf E.P ⟨dst, op, type, pos, after, guard⟩ = none → selA E.P ⟨dst, op, type, pos, after, guard⟩ fe h (.no w) k = .no w := fun hs => by
  unfold selA
  rw [hs]
 cases hs : selOf E.P ⟨dst, op, type, pos, after, guard⟩ with
 | none => exact .inl (none_of hs)
 | some q =>
  have hs' := hs
  unfold selOf at hs
  simp only at hs
  split at hs
  ·rename_i cs
   split at hs
   ·rename_i c hcs
    split at hs
    ·rename_i z hz
     cases hs
     have e1 : selA E.P ⟨dst, .select cs false, type, pos, after, none⟩ fe h (.no w) k = evF c.chan fe (.no w) fun cv => @Option.rec Operand (fun _ => Ans) (oVH (selRecv h cv z) (.no w) k) (fun s => evF s fe (.no w) fun x => oVH (selSend h cv x) (.no w) k) c.send := by
      unfold selA
      rw [hs']
     rw [e1]
     rcases evF_ok he c.chan (.no w) (fun cv => @Option.rec Operand (fun _ => Ans) (oVH (selRecv h cv z) (.no w) k) (fun s => evF s fe (.no w) fun x => oVH (selSend h cv x) (.no w) k) c.send) with h1 | ⟨cv, hcv, h1⟩
     ·exact .inl h1
     ·rw [h1]
      cases hsend : c.send with
      | none =>
       simp only
       rcases oVH_ok (selRecv h cv z) w k with h2 | ⟨v, h', hv, h2⟩
       ·exact .inl h2
       ·refine .inr ⟨v, h', ?_, h2⟩
        unfold selZ
        simp only [hcs, hcv, hz, hsend]
        unfold selRecv at hv
        split at hv
        ·rename_i n
         split at hv
         ·rename_i cap buf hg
          simp only [hg]
          exact hv
         ·cases hv
        ·cases hv
      | some s =>
       simp only
       rcases evF_ok he s (.no w) (fun x => oVH (selSend h cv x) (.no w) k) with h2 | ⟨x, hx, h2⟩
       ·exact .inl h2
       ·rw [h2]
        rcases oVH_ok (selSend h cv x) w k with h3 | ⟨v, h', hv, h3⟩
        ·exact .inl h3
        ·refine .inr ⟨v, h', ?_, h3⟩
         unfold selZ
         simp only [hcs, hcv, hz, hsend]
         unfold selSend at hv
         split at hv
         ·rename_i n
          split at hv
          ·rename_i cap buf hg
           simp only [hg, hx]
           exact hv
          ·cases hv
         ·cases hv
    ·cases hs
   ·cases hs
  ·cases hs
theorem plainF_le (hc : ∀ f args h nx, Le (callF f args h nx) (call f args h nx)) (he : EnvR fe e) {kn : Kn} {K : St → Ans} (hk : KnOk kn K) : Le (plainF E callF ops fe h nx kn) (bindR (zregion E call ops ⟨e, h, nx⟩) K) := by
 unfold plainF zregion
 cases ops.toList with
 | nil => exact hk fe e h nx he
 | cons o rest =>
  show Le (bA (isSelect o.op) (zopsF E callF ops (o :: rest) fe h nx kn) (selKF E callF ops o rest fe h nx kn)) _
  simp only
  cases isSelect o.op with
  | false => exact zopsF_le hc (o :: rest) he hk
  | true =>
   show Le (selKF E callF ops o rest fe h nx kn) _
   unfold selKF
   rcases selA_ok (E := E) (h := h) (nx := nx) he o [o.pos, "select"] (fun v h => setE o.dst fe v fun env => zopsF E callF ops rest env h nx kn) with h1 | ⟨v, h', hs, h1⟩
   ·rw [h1]; exact Le.no
   ·rw [h1]
    simp only [hs, setK_eq]
    exact setE_le he o.dst v h' nx (K := fun st => bindR (zops E call ops rest st) K) fun fe' e' he' => zopsF_le hc rest he' hk
def mapR {α β : Type} (f : α → β) (r : R (List α)) : R (List β) := match r with
 | .ok l => .ok (l.map f)
 | .no w => .no w
theorem bindR_map {α β γ : Type} {r : R (List α)} {f : α → β} {k : β → R (List γ)} : bindR (mapR f r) k = bindR r fun x => k (f x) := by
 cases r with
 | ok l => exact bindL_map
 | no w => rfl
theorem zcodeF_le (hc : ∀ f args h nx, Le (callF f args h nx) (call f args h nx)) : ∀ (c : Code) {fe : EA} {e : Tr Value} {h : Heap} {nx : Nat} {kn kr : Kn} {ke : Ke} {K : Ex × St → Ans}, EnvR fe e → KnOk kn (fun st => K (.normal, st)) → KnOk kr (fun st => K (.ret, st)) → (∀ i, KnOk (ke i) (fun st => K (.exit i, st))) →
  Le (zcodeF E callF c fe h nx kn kr ke) (bindR (zcode E (zdraw E call) call c ⟨e, h, nx⟩) K)
 | .skip, fe, e, h, nx, kn, kr, ke, K, he, h1, h2, h3 => h1 fe e h nx he
 | .region id ops d, fe, e, h, nx, kn, kr, ke, K, he, h1, h2, h3 => by
  have e1 : zcode E (zdraw E call) call (.region id ops d) ⟨e, h, nx⟩ = mapR (fun st => (.normal, st)) (match d with | false => zregion E call ops ⟨e, h, nx⟩ | true => zdraw E call ops ⟨e, h, nx⟩) := by
   conv => lhs; unfold zcode
   cases d with
   | false => cases zregion E call ops ⟨e, h, nx⟩ <;> rfl
   | true => cases zdraw E call ops ⟨e, h, nx⟩ <;> rfl
  rw [e1, bindR_map]
  cases d with
  | false => exact plainF_le hc he h1
  | true => exact drawF_le hc he h1
 | .seq a b, fe, e, h, nx, kn, kr, ke, K, he, h1, h2, h3 => by
  let G : Ex × St → R (List (Ex × St)) := fun x => match x with
   | (.normal, st) => zcode E (zdraw E call) call b st
   | (y, st) => .ok [(y, st)]
  have e1 : zcode E (zdraw E call) call (.seq a b) ⟨e, h, nx⟩ = bindR (zcode E (zdraw E call) call a ⟨e, h, nx⟩) G := by
   conv => lhs; unfold zcode
   cases zcode E (zdraw E call) call a ⟨e, h, nx⟩ <;> rfl
  rw [e1]
  refine Le.trans (b := bindR (zcode E (zdraw E call) call a ⟨e, h, nx⟩) fun x => bindR (G x) K) ?_ bindR_assoc
  exact zcodeF_le hc a he (fun fe e h nx he => zcodeF_le hc b he h1 h2 h3) h2 h3
 | .cond c a b, fe, e, h, nx, kn, kr, ke, K, he, h1, h2, h3 => by
  show Le (evF c fe (.no ["cond"]) fun v => vBool v (.no ["cond"]) fun t => bA t (zcodeF E callF b fe h nx kn kr ke) (zcodeF E callF a fe h nx kn kr ke)) _
  rcases evF_ok he c (.no ["cond"]) (fun v => vBool v (.no ["cond"]) fun t => bA t (zcodeF E callF b fe h nx kn kr ke) (zcodeF E callF a fe h nx kn kr ke)) with h4 | ⟨v, hv, h4⟩
  ·rw [h4]; exact Le.no
  ·rw [h4]
   unfold zcode
   simp only [hv]
   cases v with
   | bool t =>
    cases t with
    | false => exact zcodeF_le hc b he h1 h2 h3
    | true => exact zcodeF_le hc a he h1 h2 h3
   | _ => exact Le.no
 | .block id a, fe, e, h, nx, kn, kr, ke, K, he, h1, h2, h3 => by
  let G : Ex × St → Ex × St := fun x => match x with
   | (.exit i, st) => (match Nat.beq i id with | true => (.normal, st) | false => (.exit i, st))
   | y => y
  have e1 : zcode E (zdraw E call) call (.block id a) ⟨e, h, nx⟩ = mapR G (zcode E (zdraw E call) call a ⟨e, h, nx⟩) := by
   conv => lhs; unfold zcode
   cases zcode E (zdraw E call) call a ⟨e, h, nx⟩ <;> rfl
  rw [e1, bindR_map]
  refine zcodeF_le hc a he h1 h2 fun i fe e h nx he => ?_
  show Le (bA (Nat.beq i id) (ke i fe h nx) (kn fe h nx)) (K (match Nat.beq i id with | true => (.normal, ⟨e, h, nx⟩) | false => (.exit i, ⟨e, h, nx⟩)))
  cases Nat.beq i id with
  | true => exact h1 fe e h nx he
  | false => exact h3 i fe e h nx he
 | .loop a, fe, e, h, nx, kn, kr, ke, K, he, h1, h2, h3 => by
  have key : ∀ (n : Nat) {fe : EA} {e : Tr Value} {h : Heap} {nx : Nat}, EnvR fe e → Le (loopF (zcodeF E callF a) n fe h nx kn kr ke) (bindR (zloop (zcode E (zdraw E call) call a) n ⟨e, h, nx⟩) K) := by
   intro n
   induction n with
   | zero => intro fe e h nx he; exact Le.no
   | succ n ih =>
    intro fe e h nx he
    let G : Ex × St → R (List (Ex × St)) := fun x => match x with
     | (.normal, st) => zloop (zcode E (zdraw E call) call a) n st
     | (y, st) => .ok [(y, st)]
    have e1 : zloop (zcode E (zdraw E call) call a) (n + 1) ⟨e, h, nx⟩ = bindR (zcode E (zdraw E call) call a ⟨e, h, nx⟩) G := by
     conv => lhs; unfold zloop
     cases zcode E (zdraw E call) call a ⟨e, h, nx⟩ <;> rfl
    rw [e1]
    refine Le.trans (b := bindR (zcode E (zdraw E call) call a ⟨e, h, nx⟩) fun x => bindR (G x) K) ?_ bindR_assoc
    exact zcodeF_le hc a he (fun fe e h nx he => ih he) h2 h3
  show Le (loopF (zcodeF E callF a) 1000000 fe h nx kn kr ke) _
  have e1 : zcode E (zdraw E call) call (.loop a) ⟨e, h, nx⟩ = zloop (zcode E (zdraw E call) call a) 1000000 ⟨e, h, nx⟩ := rfl
  rw [e1]
  exact key 1000000 he
 | .exit id, fe, e, h, nx, kn, kr, ke, K, he, h1, h2, h3 => h3 id fe e h nx he
 | .ret, fe, e, h, nx, kn, kr, ke, K, he, h1, h2, h3 => h2 fe e h nx he
 | .rangeFunc .., fe, e, h, nx, kn, kr, ke, K, he, h1, h2, h3 => Le.no
 | .scope _, fe, e, h, nx, kn, kr, ke, K, he, h1, h2, h3 => Le.no
 | .label _, fe, e, h, nx, kn, kr, ke, K, he, h1, h2, h3 => Le.no
 | .goto _, fe, e, h, nx, kn, kr, ke, K, he, h1, h2, h3 => Le.no
 | .refuse _, fe, e, h, nx, kn, kr, ke, K, he, h1, h2, h3 => Le.no
theorem initF_ok : ∀ (l : List Value) (n : Nat) {fe : EA} {e : Tr Value} (k : EA → Ans), EnvR fe e → (∃ w, initF l n fe k = .no w) ∨ ∃ fe', initF l n fe k = k fe' ∧ EnvR fe' (initZ l n e)
 | [], n, fe, e, k, he => .inr ⟨fe, rfl, he⟩
 | v :: l, n, fe, e, k, he => by
  have e1 : initF (v :: l) n fe k = EA.set n fe v fun env => fN (Nat.succ n) fun n => initF l n env k := rfl
  have e2 : initZ (v :: l) n e = initZ l (n + 1) (e.ins n (some v)) := by
   show (forceV v fun v => Tr.insF 40 e n (some v) fun t => initZ l (n + 1) t) = _
   rw [forceV_eq]
   exact Tr.insK_eq 40 e n (some v) _
  rw [e1, e2]
  rcases he.set n v with h1 | ⟨fe', h1, h2⟩
  ·exact .inl (h1 _)
  ·rw [h1, fN_eq]
   exact initF_ok l (n + 1) k h2
theorem resF_ok (he : EnvR fe e) (r : ResultVar) (w : List String) (k : Value → Ans) : resF E.P r fe h (.no w) k = .no w ∨ ∃ v, resZ E.P ⟨e, h, nx⟩ r = some v ∧ resF E.P r fe h (.no w) k = k v := by
 cases r with
 | tmp t => exact getE_ok he t (.no w) k
 | cell a t =>
  have e1 : resF E.P (.cell a t) fe h (.no w) k = getE a fe (.no w) fun v => vPtr v (.no w) fun n off => loadA E.P h t n off (.no w) k := rfl
  rw [e1]
  rcases getE_ok he a (.no w) (fun v => vPtr v (.no w) fun n off => loadA E.P h t n off (.no w) k) with h1 | ⟨v, hv, h1⟩
  ·exact .inl h1
  ·rw [h1]
   unfold resZ
   simp only [hv]
   cases v with
   | pointer a =>
    cases a with
    | none => exact .inl rfl
    | some a =>
     obtain ⟨n, off, s⟩ := a
     cases s with
     | none => exact loadA_ok t n off (.no w) k
     | some s => exact .inl rfl
   | _ => exact .inl rfl
theorem resK_ok (he : EnvR fe e) : ∀ (l : List ResultVar) (w : List String) (k : List Value → Ans), resK E.P l fe h (.no w) k = .no w ∨ ∃ vs, resAll E.P ⟨e, h, nx⟩ l = some vs ∧ resK E.P l fe h (.no w) k = k vs
 | [], w, k => .inr ⟨[], rfl, rfl⟩
 | r :: l, w, k => by
  have e1 : resK E.P (r :: l) fe h (.no w) k = resF E.P r fe h (.no w) fun v => resK E.P l fe h (.no w) fun vs => k (v :: vs) := rfl
  rw [e1]
  rcases resF_ok (E := E) (h := h) (nx := nx) he r w (fun v => resK E.P l fe h (.no w) fun vs => k (v :: vs)) with h1 | ⟨v, hv, h1⟩
  ·exact .inl h1
  ·rw [h1]
   rcases resK_ok he l w (fun vs => k (v :: vs)) with h2 | ⟨vs, hvs, h2⟩
   ·exact .inl h2
   ·refine .inr ⟨v :: vs, ?_, h2⟩
    unfold resAll
    simp only [hv, hvs]
theorem packK_eq (l : List Value) (k : Value → Ans) : packK l k = k (pack l) := by
 match l with
 | [] => rfl
 | [v] => rfl
 | x :: y :: m => rfl
theorem fnF_le (hc : ∀ f args h nx, Le (callF f args h nx) (call f args h nx)) (fn : Func) (args : List Value) (h : Heap) (nx : Nat) : Le (fnF E callF fn args h nx) (match fn.body, Nat.ble args.length fn.ntmps with
  | some c, true => (match codeOkZ fn.ntmps c && Nat.ble fn.ntmps 1000000 with
   | true => (match zcode E (zdraw E call) call c ⟨initZ args 0 .nil, h, nx⟩ with
    | .ok l => bindL l (zret E.P fn)
    | .no w => .no (fn.name :: w))
   | false => .no [fn.name, "dst"])
  | _, _ => .no [fn.name, "body"]) := by
 unfold fnF
 cases fn.body with
 | none => exact Le.no
 | some c =>
  show Le (bA (Nat.ble args.length fn.ntmps) _ (bA (codeB fn c) _ (bodyF E callF fn c args h nx))) _
  cases Nat.ble args.length fn.ntmps with
  | false => exact Le.no
  | true =>
   show Le (bA (codeB fn c) _ (bodyF E callF fn c args h nx)) _
   unfold codeB
   simp only
   cases codeOkZ fn.ntmps c && Nat.ble fn.ntmps 1000000 with
   | false => exact Le.no
   | true =>
    show Le (bodyF E callF fn c args h nx) _
    unfold bodyF
    rcases initF_ok args 0 (fun env => why fn.name (zcodeF E callF c env h nx (retF E.P fn) (retF E.P fn) fun _ _ _ _ => .no ["exit"])) EnvR.nil with ⟨w, h1⟩ | ⟨fe', h1, h2⟩
    ·rw [h1]; exact Le.no
    ·rw [h1]
     have hret : ∀ (x : Ex), (∀ i, x ≠ .exit i) → KnOk (retF E.P fn) fun st => zret E.P fn (x, st) := fun x hx fe e h nx he => by
      unfold retF
      rcases resK_ok (E := E) (h := h) (nx := nx) he fn.results.toList ["results"] (fun vs => packK vs fun v => .ok [(v, h, nx)]) with h3 | ⟨vs, hvs, h3⟩
      ·rw [h3]; exact Le.no
      ·rw [h3, packK_eq]
       have : zret E.P fn (x, ⟨e, h, nx⟩) = .ok [(pack vs, h, nx)] := by
        unfold zret
        cases x with
        | exit i => exact absurd rfl (hx i)
        | normal => simp only [hvs]
        | ret => simp only [hvs]
       show Le _ (zret E.P fn (x, ⟨e, h, nx⟩))
       rw [this]
       exact Le.rfl'
     have := zcodeF_le (E := E) (callF := callF) (call := call) hc c (h := h) (nx := nx) (kn := retF E.P fn) (kr := retF E.P fn) (ke := fun _ _ _ _ => .no ["exit"]) (K := zret E.P fn) h2 (hret .normal fun _ e => by cases e) (hret .ret fun _ e => by cases e) fun i fe e h nx he => Le.no
     intro r hr
     have hr' : zcodeF E callF c fe' h nx (retF E.P fn) (retF E.P fn) (fun _ _ _ _ => .no ["exit"]) = .ok r := by
      revert hr
      cases zcodeF E callF c fe' h nx (retF E.P fn) (retF E.P fn) (fun _ _ _ _ => .no ["exit"]) with
      | ok l => exact id
      | no w => intro hr; cases hr
     have h3 := this r hr'
     revert h3
     cases zcode E (zdraw E call) call c ⟨initZ args 0 .nil, h, nx⟩ with
     | no w => intro h3; cases h3
     | ok l => exact id
end
end
end Go.Z
end
