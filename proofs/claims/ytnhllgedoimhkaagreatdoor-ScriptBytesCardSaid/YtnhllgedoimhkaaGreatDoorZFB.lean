/- One part of a proof: an evaluator of the model, shown right, and contracts that it yields. No condition beyond those that each theorem names. -/
import Derived.Test.YtnhllgedoimhkaaGreatDoorZFA
set_option linter.unusedSimpArgs false
set_option linter.unusedVariables false
set_option linter.unusedSectionVars false
set_option linter.deprecated false
section
namespace Go.Z
open Go.X
noncomputable section
section
end
def oL (o : Option (List Value)) (no : Ans) (k : List Value → Ans) : Ans := @Option.rec (List Value) (fun _ => Ans → (List Value → Ans) → Ans) (fun no _ => no) (fun v _ k => k v) o no k
def zCells (P : Program) (t : TypeId) : Option (List Value) := match zeroZ P t with | some z => some z.cells.toList | none => none
def vCells (v : Value) (k : List Value → Ans) : Ans := vAgg v (k [v]) k
def fL (l : List Value) (k : List Value → Ans) : Ans := @List.rec Value (fun _ => (List Value → Ans) → Ans) (fun k => k []) (fun x _ ih k => ih fun r => k (x :: r)) l k
def fO (o : HO) (k : HO → Ans) : Ans := @HO.rec (fun _ => (HO → Ans) → Ans) (fun t l k => fL l fun l => k (.cells t l)) (fun t z l k => fL l fun l => k (.grown t z l)) (fun l k => k (.ro l)) (fun l k => fL l fun l => k (.str l)) (fun es k => k (.map es)) (fun c b k => k (.chan c b)) (fun k => k .dead) (fun t l k => fL l fun l => k (.perm t l)) (fun es it k => k (.mapI es it)) (fun m v k => k (.iter m v)) (fun k => k .iter0) (fun es k => k (.mapS es)) (fun q g k => k (.lab q g)) o k
def oVO (o : Option (Value × HO)) (no : Ans) (k : Value → HO → Ans) : Ans := @Option.rec (Value × HO) (fun _ => Ans → (Value → HO → Ans) → Ans) (fun no _ => no) (fun p _ k => @Prod.rec Value HO (fun _ => (Value → HO → Ans) → Ans) (fun v o k => k v o) p k) o no k
abbrev Lt := Program → List Value → Nat → Ans → (Value → HO → Ans) → Ans
def lSlow (op : Op) : Lt := fun P args n no k => oVO (lays P op args n) no fun v o => fV v fun v => fO o fun o => k v o
def l_alloc (t : TypeId) : Lt := fun P args n no k => @List.rec Value (fun _ => Ans → Ans) (fun s => s) (fun _ _ _ _ => no) args (oL (zCells P t) no fun z => k (.pointer (some ⟨n, 0, none⟩)) (.cells t z))
def l_box (t : TypeId) (x : Operand) : Lt := fun _ args n no k => l1 args no fun v => vCells v fun c => k (.pointer (some ⟨n, 0, none⟩)) (.cells t c)
def isAlloc : Op → Option TypeId
 | .alloc t => some t
 | _ => none
def isBox : Op → Option (TypeId × Operand)
 | .box t x => some (t, x)
 | _ => none
def laysO (op : Op) : Lt := @Option.rec TypeId (fun _ => Lt) (@Option.rec (TypeId × Operand) (fun _ => Lt) (lSlow op) (fun p => l_box p.1 p.2) (isBox op)) (fun t => l_alloc t) (isAlloc op)
def Ok2 (o : Option (Value × HO)) (f : Ans → (Value → HO → Ans) → Ans) : Prop := ∀ no k, f no k = no ∨ ∃ v ob, o = some (v, ob) ∧ f no k = k v ob
theorem fL_eq : ∀ (l : List Value) (k : List Value → Ans), fL l k = k l
 | [], _ => rfl
 | x :: l, k => fL_eq l _
theorem fO_eq (o : HO) (k : HO → Ans) : fO o k = k o := by
 cases o with
 | cells t l => exact fL_eq l _
 | grown t z l => exact fL_eq l _
 | str l => exact fL_eq l _
 | perm t l => exact fL_eq l _
 | _ => rfl
theorem laysO_ok (P : Program) (op : Op) (args : List Value) (n : Nat) : Ok2 (lays P op args n) (laysO op P args n) := fun no k => by
 have slow : lSlow op P args n no k = no ∨ ∃ v ob, lays P op args n = some (v, ob) ∧ lSlow op P args n no k = k v ob := by
  unfold lSlow
  cases h : lays P op args n with
  | none => exact .inl rfl
  | some p =>
   obtain ⟨v, ob⟩ := p
   refine .inr ⟨v, ob, rfl, ?_⟩
   show (fV v fun v => fO ob fun o => k v o) = _
   rw [fV_eq, fO_eq]
 cases op with
 | alloc t =>
  show l_alloc t P args n no k = no ∨ _
  unfold l_alloc
  cases args with
  | cons x r => exact .inl rfl
  | nil =>
   have e : lays P (.alloc t) [] n = (match zeroZ P t with | some z => some (.pointer (some ⟨n, 0, none⟩), .cells t z.cells.toList) | none => none) := rfl
   have e2 : laysO (.alloc t) P [] n no k = oL (match zeroZ P t with | some z => some z.cells.toList | none => none) no fun z => k (.pointer (some ⟨n, 0, none⟩)) (.cells t z) := rfl
   show oL (match zeroZ P t with | some z => some z.cells.toList | none => none) no _ = no ∨ _
   rw [e, e2]
   cases zeroZ P t with
   | none => exact .inl rfl
   | some z => exact .inr ⟨_, _, rfl, rfl⟩
 | box t x =>
  show l_box t x P args n no k = no ∨ _
  rcases args with _ | ⟨a, _ | ⟨b, r⟩⟩
  ·exact .inl rfl
  ·refine .inr ⟨.pointer (some ⟨n, 0, none⟩), .cells t a.cells.toList, rfl, ?_⟩
   cases a <;> rfl
  ·exact .inl rfl
 | _ => exact slow
def oneF (v : Value) : Bool := @Value.rec (fun _ => Bool) (fun _ => PUnit) (fun _ => PUnit) (fun _ => true) (fun _ _ => true) (fun _ _ => true) (fun _ _ _ => true) (fun _ => true) (fun _ => true) (fun _ _ _ => true) (fun _ => true) (fun _ => true) (fun _ _ _ _ _ => true) true (fun _ _ _ => true) true (fun _ _ => false) (fun _ _ => false) (fun _ _ => ⟨⟩) ⟨⟩ (fun _ _ _ _ => ⟨⟩) v
def allOneF (l : List Value) : Bool := @List.rec Value (fun _ => Bool) true (fun x _ ih => @Bool.rec (fun _ => Bool) false ih (oneF x)) l
def lenIs (l : List Value) (n : Nat) : Bool := @List.rec Value (fun _ => Nat → Bool) (fun n => Nat.beq n 0) (fun _ _ ih n => @Nat.rec (fun _ => (Nat → Bool) → Bool) (fun _ => false) (fun m _ ih => ih m) n ih) l n
theorem oneF_eq (v : Value) : oneF v = v.oneCell' := by cases v <;> rfl
theorem allOneF_eq : ∀ l, allOneF l = allOne l
 | [] => rfl
 | x :: l => by
  show @Bool.rec (fun _ => Bool) false (allOneF l) (oneF x) = _
  rw [oneF_eq, allOneF_eq l]
  show _ = (match x.oneCell' with | true => allOne l | false => false)
  cases x.oneCell' <;> rfl
theorem lenIs_eq : ∀ (l : List Value) (n : Nat), lenIs l n = Nat.beq l.length n
 | [], 0 => rfl
 | [], n + 1 => rfl
 | x :: l, 0 => rfl
 | x :: l, n + 1 => by
  show lenIs l n = _
  rw [lenIs_eq l n]; rfl
def wr (h : Heap) (n off : Nat) (new : List Value) (no : Ans) (k : Heap → Ans) : Ans :=
 oH (Tr.get h n) no fun o => @HO.rec (fun _ => Ans) (fun t l => lset off new l no fun l => Tr.insF 40 h n (some (.cells t l)) k) (fun t z l => lset off new l no fun l => Tr.insF 40 h n (some (.grown t z l)) k) (fun _ => no) (fun _ => no) (fun _ => no) (fun _ _ => no) no (fun _ _ => no) (fun _ _ => no) (fun _ _ => no) no (fun _ => no) (fun _ _ => no) o
theorem wr_eq (h : Heap) (n off : Nat) (new : List Value) (hne : new ≠ []) (h1 : allOne new = true) (no : Ans) (k : Heap → Ans) : wr h n off new no k = (match writeCells h n off new with | some h' => k h' | none => no) := by
 unfold wr writeCells
 rw [h1]
 cases hg : Tr.get h n with
 | none => rfl
 | some o =>
  show @HO.rec (fun _ => Ans) _ _ _ _ _ _ _ _ _ _ _ _ _ o = _
  cases o with
  | cells t l =>
   dsimp only
   rw [lset_eq no new off l _ hne]
   cases Nat.ble (off + new.length) l.length with
   | false => rfl
   | true => exact Tr.insK_eq 40 h n _ k
  | grown t z l =>
   dsimp only
   rw [lset_eq no new off l _ hne]
   cases Nat.ble (off + new.length) l.length with
   | false => rfl
   | true => exact Tr.insK_eq 40 h n _ k
  | _ => rfl
def lapp (l m : List Value) (k : List Value → Ans) : Ans := @List.rec Value (fun _ => List Value → (List Value → Ans) → Ans) (fun m k => k m) (fun x _ ih m k => ih m fun r => k (x :: r)) l m k
theorem lapp_eq : ∀ (l m : List Value) (k : List Value → Ans), lapp l m k = k (l ++ m)
 | [], _, _ => rfl
 | x :: l, m, k => lapp_eq l m _
abbrev CallT := FuncId → List Value → Heap → Nat → Ans
abbrev Kl := Value → Heap → Nat → Ans
abbrev Bk := Ans → Kl → Ans
def out1 (x : Out) (k : Kl) : Ans := @Prod.rec Value (Heap × Nat) (fun _ => Kl → Ans) (fun v p k => @Prod.rec Heap Nat (fun _ => Value → Kl → Ans) (fun h nx v k => k v h nx) p v k) x k
def bindR {α β : Type} (r : R (List α)) (k : α → R (List β)) : R (List β) := match r with
 | .ok l => bindL l k
 | .no w => .no w
def bkOne : Bk := fun r k => @R.rec (List Out) (fun _ => Kl → Ans) (fun l k => @List.rec Out (fun _ => Kl → Ans) (fun _ => .no []) (fun x r _ k => @List.rec Out (fun _ => Out → Kl → Ans) (fun x k => out1 x k) (fun _ _ _ _ _ => .no ["ways"]) r x k) l k) (fun w _ => .no w) r k
def bkAll : Bk := fun r k => @R.rec (List Out) (fun _ => Kl → Ans) (fun l k => @List.rec Out (fun _ => Kl → Ans) (fun _ => .ok []) (fun x r _ k => @List.rec Out (fun _ => Out → Kl → Ans) (fun x k => out1 x k) (fun y m _ x k => bindL (x :: y :: m) fun x => out1 x k) r x k) l k) (fun w _ => .no w) r k
def fT (h : Heap) (k : Heap → Ans) : Ans := @Tr.rec HO (fun _ => (Heap → Ans) → Ans) (fun k => k .nil) (fun v a0 a1 a2 a3 a4 a5 a6 a7 _ _ _ _ _ _ _ _ k => k (.node v a0 a1 a2 a3 a4 a5 a6 a7)) h k
def fK (k : Kl) : Kl := fun v h nx => fV v fun v => fT h fun h => fN nx fun nx => k v h nx
def lapN (l : List Value) (n : Nat) (m : List Value) (no : Ans) (k : List Value → Ans) : Ans :=
 @List.rec Value (fun _ => Nat → List Value → Ans → (List Value → Ans) → Ans) (fun n m no k => @Nat.rec (fun _ => List Value → Ans → (List Value → Ans) → Ans) (fun m _ k => k m) (fun _ _ _ no _ => no) n m no k)
  (fun x _ ih n m no k => @Nat.rec (fun _ => Value → (Nat → List Value → Ans → (List Value → Ans) → Ans) → List Value → Ans → (List Value → Ans) → Ans) (fun _ _ _ no _ => no) (fun n _ x ih m no k => ih n m no fun r => k (x :: r)) n x ih m no k) l n m no k
theorem lapN_eq (m : List Value) (no : Ans) : ∀ (l : List Value) (n : Nat) (k : List Value → Ans), lapN l n m no k = (match Nat.beq l.length n with | true => k (l ++ m) | false => no)
 | [], 0, k => rfl
 | [], n + 1, k => rfl
 | x :: l, 0, k => rfl
 | x :: l, n + 1, k => by
  show lapN l n m no (fun r => k (x :: r)) = _
  rw [lapN_eq m no l n]
  rfl
def appSt (P : Program) (t t' : TypeId) : Option (TypeId × Nat) := match P.underlying t with
 | some (.slice e) => (match P.info? e with
  | some i => (match zeroZ P e, P.underlying t' with
   | some zv, some (.slice _) => (match Nat.beq zv.cells.size i.size && Nat.blt 0 i.size && Nat.ble i.bytes 100000 with
    | true => some (e, i.size)
    | false => none)
   | _, _ => none)
  | none => none)
 | _ => none
def oTN (o : Option (TypeId × Nat)) (no : Ans) (k : TypeId → Nat → Ans) : Ans := @Option.rec (TypeId × Nat) (fun _ => Ans → (TypeId → Nat → Ans) → Ans) (fun no _ => no) (fun p _ k => @Prod.rec TypeId Nat (fun _ => (TypeId → Nat → Ans) → Ans) (fun a b k => k a b) p k) o no k
def hGrown (o : HO) (no : Ans) (k : TypeId → Nat → List Value → Ans) : Ans := @HO.rec (fun _ => Ans → (TypeId → Nat → List Value → Ans) → Ans) (fun _ _ no _ => no) (fun t z l _ k => k t z l) (fun _ no _ => no) (fun _ no _ => no) (fun _ no _ => no) (fun _ _ no _ => no) (fun no _ => no) (fun _ _ no _ => no) (fun _ _ no _ => no) (fun _ _ no _ => no) (fun no _ => no) (fun _ no _ => no) (fun _ _ no _ => no) o no k
def isZ0 (s : Option Nat) : Bool := @Option.rec Nat (fun _ => Bool) false (fun k => Nat.beq k 0) s
def app2 (h : Heap) (nx e z : Nat) (m len : Nat) (news : List Value) (n off : Nat) (sp : Option Nat) (no : Ans) (k : Kl) : Ans :=
 bA (isZ0 sp) no (bA (Nat.beq off 0) no (oH (Tr.get h n) no fun o => hGrown o no fun t z' l => bA (Nat.beq t e) no (bA (Nat.beq z' z) no (lapN l (Nat.mul len z) news no fun r =>
  Tr.insF 40 h n (some .dead) fun h => Tr.insF 40 h nx (some (.grown e z r)) fun h => fN (Nat.add len m) fun q => fN (Nat.succ nx) fun nx' => k (.slice (some ⟨nx, 0, some 0⟩) q 0) h nx'))))
def app1 (h : Heap) (nx e z : Nat) (m : Nat) (news : List Value) (b : Option Addr) (len cap : Nat) (no : Ans) (k : Kl) : Ans :=
 @Option.rec Addr (fun _ => Ans) (bA (Nat.beq len 0) no (bA (Nat.beq cap 0) no (Tr.insF 40 h nx (some (.grown e z news)) fun h => fN (Nat.succ nx) fun nx' => k (.slice (some ⟨nx, 0, some 0⟩) m 0) h nx')))
  (fun a => @Addr.rec (fun _ => Ans) (fun n off sp => app2 h nx e z m len news n off sp no k) a) b
def appA (P : Program) (t t' : TypeId) (s x : Value) (h : Heap) (nx : Nat) (no : Ans) (k : Kl) : Ans :=
 vSl x no fun a m _ => vSl s no fun b len cap => oTN (appSt P t t') no fun e z => bA (Nat.blt 0 m) no (bA (Nat.ble (Nat.add len m) 100000) no
  (oA a no fun n off _ => oH (Tr.get h n) no fun o => hCells o no fun l => ldr off l fun l => ltk (Nat.mul m z) l no fun news => bA (allOneF news) no (app1 h nx e z m news b len cap no k)))
theorem hCells_eq (o : HO) (no : Ans) (k : List Value → Ans) : hCells o no k = (match cellsOf o with | some l => k l | none => no) := by cases o <;> rfl
theorem app1_ok {h : Heap} {nx e z m : Nat} (hz : 0 < z) (hm : 0 < m) (news : List Value) (b : Option Addr) (len cap : Nat) (no : Ans) (k : Kl) :
  app1 h nx e z m news b len cap no k = no ∨ ∃ o : Out, fits h z (.slice b len cap) = true ∧ appendTo h nx e z m (.slice b len cap) news = some o ∧ app1 h nx e z m news b len cap no k = k o.1 o.2.1 o.2.2 := by
 cases b with
 | none =>
  show bA (Nat.beq len 0) no (bA (Nat.beq cap 0) no _) = no ∨ ∃ o : Out, _ ∧ _ ∧ bA (Nat.beq len 0) no (bA (Nat.beq cap 0) no _) = _
  cases h1 : Nat.beq len 0 with
  | false => exact .inl rfl
  | true =>
   cases h2 : Nat.beq cap 0 with
   | false => exact .inl rfl
   | true =>
    have e1 := Nat.eq_of_beq_eq_true h1
    have e2 := Nat.eq_of_beq_eq_true h2
    subst e1; subst e2
    refine .inr ⟨(.slice (some ⟨nx, 0, some 0⟩) m 0, h.ins nx (some (.grown e z news)), nx + 1), rfl, rfl, ?_⟩
    show Tr.insF 40 h nx (some (.grown e z news)) (fun h => fN (Nat.succ nx) fun nx' => k (.slice (some ⟨nx, 0, some 0⟩) m 0) h nx') = _
    refine (Tr.insK_eq 40 h nx _ _).trans ?_
    rw [fN_eq]
    rfl
 | some a =>
  obtain ⟨n, off, sp⟩ := a
  show app2 h nx e z m len news n off sp no k = no ∨ ∃ o : Out, _ ∧ _ ∧ app2 h nx e z m len news n off sp no k = _
  unfold app2
  cases hs : isZ0 sp with
  | false => exact .inl rfl
  | true =>
   obtain rfl : sp = some 0 := by
    cases sp with
    | none => cases hs
    | some q => rw [Nat.eq_of_beq_eq_true hs]
   cases ho : Nat.beq off 0 with
   | false => exact .inl rfl
   | true =>
    have e1 := Nat.eq_of_beq_eq_true ho
    subst e1
    show oH (Tr.get h n) no _ = no ∨ ∃ o : Out, _ ∧ _ ∧ oH (Tr.get h n) no _ = _
    cases hg : Tr.get h n with
    | none => exact .inl rfl
    | some ob =>
     show hGrown ob no _ = no ∨ ∃ o : Out, _ ∧ _ ∧ hGrown ob no _ = _
     cases ob with
     | grown t z' l =>
      show bA (Nat.beq t e) no (bA (Nat.beq z' z) no (lapN l (Nat.mul len z) news no _)) = no ∨ ∃ o : Out, _ ∧ _ ∧ bA (Nat.beq t e) no (bA (Nat.beq z' z) no (lapN l (Nat.mul len z) news no _)) = _
      cases ht : Nat.beq t e with
      | false => exact .inl rfl
      | true =>
       cases hz' : Nat.beq z' z with
       | false => exact .inl rfl
       | true =>
        show lapN l (Nat.mul len z) news no _ = no ∨ ∃ o : Out, _ ∧ _ ∧ lapN l (Nat.mul len z) news no _ = _
        rw [lapN_eq]
        cases hl : Nat.beq l.length (Nat.mul len z) with
        | false => exact .inl rfl
        | true =>
         have e2 : l.length = len * z := Nat.eq_of_beq_eq_true hl
         have hk : knownE h n z = len := by
          unfold knownE
          simp only [hg, hz', e2]
          exact Nat.mul_div_cancel len hz
         have htk : l.take (len * z) = l := by rw [← e2]; exact List.take_length
         refine .inr ⟨(.slice (some ⟨nx, 0, some 0⟩) (len + m) 0, (h.ins n (some .dead)).ins nx (some (.grown e z (l ++ news))), nx + 1), ?_, ?_, ?_⟩
         ·show Nat.ble (0 + len) (knownE h n z) = true
          rw [hk, Nat.zero_add]
          simp
         ·unfold appendTo
          have b1 : Nat.beq 0 (0 * z) = true := by rw [Nat.zero_mul]; rfl
          have b2 : Nat.ble (0 + len + m) (knownE h n z) = false := by
           rw [hk]
           cases hq : Nat.ble (0 + len + m) len with
           | false => rfl
           | true => have := Nat.le_of_ble_eq_true hq; omega
          have b3 : Nat.beq l.length (len * z) = true := by rw [e2]; simp
          simp only [b1, b2, hg, ht, hz', htk, b3]
         ·show (Tr.insF 40 h n (some .dead) fun h => Tr.insF 40 h nx (some (.grown e z (l ++ news))) fun h => fN (Nat.add len m) fun q => fN (Nat.succ nx) fun nx' => k (.slice (some ⟨nx, 0, some 0⟩) q 0) h nx') = _
          refine (Tr.insK_eq 40 h n _ _).trans ?_
          refine (Tr.insK_eq 40 _ nx _ _).trans ?_
          rw [fN_eq, fN_eq]
          rfl
     | _ => exact .inl rfl
theorem appA_ok (P : Program) (t t' : TypeId) (s x : Value) (h : Heap) (nx : Nat) (no : Ans) (k : Kl) :
  appA P t t' s x h nx no k = no ∨ ∃ o : Out, appendZ P h nx t t' s x = some o ∧ appA P t t' s x h nx no k = k o.1 o.2.1 o.2.2 := by
 cases x with
 | slice a m c =>
  cases s with
  | slice b len cap =>
   show oTN (appSt P t t') no (fun e z => _) = no ∨ ∃ o : Out, _ ∧ oTN (appSt P t t') no (fun e z => _) = _
   cases hst : appSt P t t' with
   | none => exact .inl rfl
   | some p =>
    obtain ⟨e, z⟩ := p
    show bA (Nat.blt 0 m) no (bA (Nat.ble (Nat.add len m) 100000) no _) = no ∨ ∃ o : Out, _ ∧ bA (Nat.blt 0 m) no (bA (Nat.ble (Nat.add len m) 100000) no _) = _
    cases hm : Nat.blt 0 m with
    | false => exact .inl rfl
    | true =>
     cases hb : Nat.ble (Nat.add len m) 100000 with
     | false => exact .inl rfl
     | true =>
      show oA a no _ = no ∨ ∃ o : Out, _ ∧ oA a no _ = _
      cases a with
      | none => exact .inl rfl
      | some a =>
       obtain ⟨n, off, sp⟩ := a
       show oH (Tr.get h n) no _ = no ∨ ∃ o : Out, _ ∧ oH (Tr.get h n) no _ = _
       cases ho : Tr.get h n with
       | none => exact .inl rfl
       | some ob =>
        show hCells ob no _ = no ∨ ∃ o : Out, _ ∧ hCells ob no _ = _
        rw [hCells_eq]
        cases hc : cellsOf ob with
        | none => exact .inl rfl
        | some l =>
         simp only
         rw [ldr_eq, ltk_eq]
         have hm' : 0 < m := Nat.le_of_ble_eq_true hm
         cases hlen : Nat.beq ((l.drop off).take (Nat.mul m z)).length (Nat.mul m z) with
         | false => exact .inl rfl
         | true =>
          simp only
          cases h1 : allOneF ((l.drop off).take (Nat.mul m z)) with
          | false => exact .inl rfl
          | true =>
           show app1 h nx e z m _ b len cap no k = no ∨ ∃ o : Out, _ ∧ app1 h nx e z m _ b len cap no k = _
           unfold appSt at hst
           split at hst
           case h_2 => cases hst
           rename_i e' hu
           split at hst
           case h_2 => cases hst
           rename_i i hi
           split at hst
           case h_2 => cases hst
           rename_i zv d hzv hu'
           split at hst
           case h_2 => cases hst
           rename_i hq
           cases hst
           simp only [Bool.and_eq_true] at hq
           obtain ⟨⟨q1, q2⟩, q3⟩ := hq
           rcases app1_ok (h := h) (nx := nx) (e := e) (Nat.le_of_ble_eq_true q2) hm' ((l.drop off).take (Nat.mul m i.size)) b len cap no k with h2 | ⟨o, hf, ha, h2⟩
           ·exact .inl h2
           ·refine .inr ⟨o, ?_, h2⟩
            have hrow : rowCells h i.size m (.slice (some ⟨n, off, sp⟩) m c) = some ((l.drop off).take (m * i.size)) := by
             cases m with
             | zero => exact absurd hm' (Nat.lt_irrefl _)
             | succ m' =>
              unfold rowCells
              have hlen' : Nat.beq ((l.drop off).take ((m' + 1) * i.size)).length ((m' + 1) * i.size) = true := hlen
              simp only [ho, hc, hlen']
            have hone : allOne ((l.drop off).take (m * i.size)) = true := by rw [← allOneF_eq]; exact h1
            have hlen' : Nat.beq ((l.drop off).take (m * i.size)).length (m * i.size) = true := hlen
            have hb' : Nat.ble (lenS (.slice b len cap) + m) 100000 = true := hb
            unfold appendZ
            cases m with
            | zero => exact absurd hm' (Nat.lt_irrefl _)
            | succ m' =>
             simp only [hu, hi, hzv, hu', q1, q2, q3, lenZ, appKind, hf, hrow, hone, hlen', hb']
             exact ha
  | _ => exact .inl rfl
 | _ => exact .inl rfl
def isApp : Op → Option (TypeId × TypeId)
 | .call { callee := .builtin .append, args := _, argTypes := ts } => (match ts.toList with | [t, t'] => some (t, t') | _ => none)
 | _ => none
def storeA (P : Program) (t : TypeId) (h : Heap) (n off : Nat) (v : Value) (no : Ans) (k : Heap → Ans) : Ans :=
 vCells v fun c => oN (sizeB P t) no fun z => bA (lenIs c z) no (bA (allOneF c) no (@List.rec Value (fun _ => Ans → Ans) (fun _ => no) (fun _ _ _ s => s) c (wr h n off c no k)))
abbrev Ldt := Env → CallT → Bk → TypeId → List Value → Heap → Nat → Ans → Kl → Ans
def oE (o : Option (Heap → List Value → Option Value)) (a : Ans) (b : (Heap → List Value → Option Value) → Ans) : Ans := @Option.rec (Heap → List Value → Option Value) (fun _ => Ans → ((Heap → List Value → Option Value) → Ans) → Ans) (fun a _ => a) (fun f _ b => b f) o a b
def callA (E : Env) (call : CallT) (bk : Bk) (g : FuncId) (args : List Value) (h : Heap) (nx : Nat) (no : Ans) (k : Kl) : Ans :=
 oE (E.ext g) (bA (callOk E.P g) no (bk (call g args h nx) k)) fun f => oV (f h args) no fun v => fV v fun v => k v h nx
def d_call : Ldt := fun E call bk ty args h nx no k => @List.rec Value (fun _ => Ans) no (fun f l _ => vFn f no fun g first captured => lapp (Array.toList first) l fun a => lapp a (Array.toList captured) fun args => callA E call bk g args h nx no k) args
def d_store (t : TypeId) : Ldt := fun E _ _ ty args h nx no k => l2 args no fun p v => vPtr p no fun n off => storeA E.P t h n off v no fun h => k undef h nx
def dSlow (op : Op) : Ldt := fun E call bk ty args h nx no k => bk (loud E call op args h nx) (fK k)
def isStore : Op → Option TypeId
 | .store t _ _ => some t
 | _ => none
def isCall : Op → Bool
 | .call { callee := .value _, .. } => true
 | _ => false
def d_app (op : Op) (t t' : TypeId) : Ldt := fun E call bk ty args h nx no k => l2 args no fun s x => appA E.P t t' s x h nx (dSlow op E call bk ty args h nx no k) k
def loudA (op : Op) : Ldt := @Option.rec TypeId (fun _ => Ldt) (@Bool.rec (fun _ => Ldt) (@Option.rec (TypeId × TypeId) (fun _ => Ldt) (dSlow op) (fun p => d_app op p.1 p.2) (isApp op)) d_call (isCall op)) (fun t => d_store t) (isStore op)
def stepA (E : Env) (call : CallT) (bk : Bk) (op : Op) (ty : TypeId) (args : List Value) (h : Heap) (nx : Nat) (no : Ans) (kq : Value → Ans) (kl : Kl) : Ans :=
 @Nat.rec (fun _ => Ans) (quietA op E.P h ty args no kq) (fun c _ => @Nat.rec (fun _ => Ans) (laysO op E.P args nx no fun v o => Tr.insF 40 h nx (some o) fun h => fN (Nat.succ nx) fun nx => kl v h nx) (fun _ _ => loudA op E call bk ty args h nx no kl) c) (cls E.P op)
def gateF (ops : Array Oper) (o : Oper) (env : EA) (no skip go : Ans) : Ans :=
 @Option.rec (Nat × Bool) (fun _ => Ans) go (fun p => oN (dstOf ops p.1) no fun d => getE d env no fun v => vBool v (vTup v no fun _ => skip) fun b => @Bool.rec (fun _ => Ans) (@Bool.rec (fun _ => Ans) go skip p.2) (@Bool.rec (fun _ => Ans) skip go p.2) b) o.guard
def setE (dst : Option Nat) (env : EA) (v : Value) (k : EA → Ans) : Ans := @Option.rec Nat (fun _ => EA → Value → (EA → Ans) → Ans) (fun env _ k => k env) EA.set dst env v k
abbrev Xt := Env → CallT → Bk → TypeId → EA → Heap → Nat → Ans → (Value → Ans) → Kl → Ans
def xSlow (op : Op) : Xt := fun E call bk ty env h nx no kq kl => argsK (opnds op) env no fun args => stepA E call bk op ty args h nx no kq kl
def x_move (x : Operand) : Xt := fun _ _ _ _ env _ _ no kq _ => evF x env no kq
def x_load (t : TypeId) (x : Operand) : Xt := fun E _ _ ty env h _ no kq _ => evF x env no fun v => vPtr v (qSlow (.load t x) E.P h ty [v] no kq) fun n off => loadA E.P h t n off no kq
def x_store (t : TypeId) (p v : Operand) : Xt := fun E _ _ _ env h nx no _ kl => evF p env no fun p => evF v env no fun v => vPtr p no fun n off => storeA E.P t h n off v no fun h => kl undef h nx
def x_binOp (op : BinOp) (t : TypeId) (x y : Operand) (_ : TypeId) : Xt := fun E _ _ _ env h _ no kq _ => evF x env no fun a => evF y env no fun b => qBinA op t E.P h a b no kq
def x_fieldAddr (s : TypeId) (x : Operand) (f : Nat) : Xt := fun E _ _ _ env _ _ no kq _ => evF x env no fun v => vPtr v no fun n off => oN (fieldOff E.P s f) no fun q => fN (Nat.add off q) fun m => kq (.pointer (some ⟨n, m, none⟩))
def x_extract (x : Operand) (i : Nat) : Xt := fun _ _ _ _ env _ _ no kq _ => evF x env no fun v => vTup v no fun l => lnth i l no kq
def opX (op : Op) : Xt := @Op.rec (fun _ => Xt) x_move x_move (fun (x0 : Operand) (x1 : Operand) (x2 : Operand) => xSlow (.pick x0 x1 x2)) (fun (x0 : TypeId) => xSlow (.alloc x0)) (fun (x0 : TypeId) (x1 : Operand) => xSlow (.box x0 x1)) (fun (x0 : TypeId) (x1 : Array (Nat × Operand)) => xSlow (.build x0 x1)) (fun (x0 : TypeId) (x1 : Nat) (x2 : Array (Nat × Operand)) => xSlow (.buildSlice x0 x1 x2)) (fun (x0 : TypeId) (x1 : Operand) (x2 : Operand) (x3 : Operand) => xSlow (.insert x0 x1 x2 x3)) x_load x_store (fun (x0 : Nat) => xSlow (.ready x0)) (fun (x0 : Nat) => xSlow (.waits x0)) (fun (x0 : Operand) => xSlow (.nilCheck x0)) x_binOp (fun (x0 : UnOp) (x1 : TypeId) (x2 : Operand) => xSlow (.unOp x0 x1 x2)) (fun (x0 : TypeId) (x1 : TypeId) (x2 : Operand) => xSlow (.convert x0 x1 x2)) (fun (x0 : TypeId) (x1 : Operand) => xSlow (.sliceToArrayPointer x0 x1)) (fun (x0 : TypeId) (x1 : Operand) => xSlow (.makeInterface x0 x1)) (fun (x0 : Fn) (x1 : Array Operand) (x2 : Array Operand) => xSlow (.makeFunc x0 x1 x2)) (fun (x0 : TypeId) (x1 : Option Operand) => xSlow (.makeMap x0 x1)) (fun (x0 : TypeId) (x1 : Operand) => xSlow (.makeChan x0 x1)) (fun (x0 : TypeId) (x1 : Operand) (x2 : Operand) => xSlow (.makeSlice x0 x1 x2)) (fun (x0 : TypeId) (x1 : Operand) (x2 : Option Operand) (x3 : Option Operand) (x4 : Option Operand) => xSlow (.slice x0 x1 x2 x3 x4)) x_fieldAddr (fun (x0 : TypeId) (x1 : Operand) (x2 : Nat) => xSlow (.field x0 x1 x2)) (fun (x0 : TypeId) (x1 : Operand) (x2 : Operand) => xSlow (.indexAddr x0 x1 x2)) (fun (x0 : TypeId) (x1 : Operand) (x2 : Operand) => xSlow (.index x0 x1 x2)) (fun (x0 : TypeId) (x1 : Operand) (x2 : Operand) (x3 : Bool) => xSlow (.lookup x0 x1 x2 x3)) (fun (x0 : TypeId) (x1 : Operand) (x2 : Operand) (x3 : Operand) => xSlow (.mapUpdate x0 x1 x2 x3)) (fun (x0 : TypeId) (x1 : Operand) (x2 : Operand) => xSlow (.mapEntry x0 x1 x2)) (fun (x0 : TypeId) (x1 : Operand) (x2 : Operand) (x3 : Operand) => xSlow (.entryStore x0 x1 x2 x3)) (fun (x0 : TypeId) (x1 : Operand) => xSlow (.range x0 x1)) (fun (x0 : Operand) (x1 : Bool) => xSlow (.next x0 x1)) (fun (x0 : Operand) => xSlow (.entry x0)) (fun (x0 : Operand) (x1 : TypeId) (x2 : TypeId) (x3 : Bool) => xSlow (.typeAssert x0 x1 x2 x3)) x_extract (fun (x0 : Call) => xSlow (.call x0)) (fun (x0 : Call) => xSlow (.go x0)) (fun (x0 : Call) => xSlow (.defer x0)) (fun (x0 : Operand) => xSlow (.panic x0)) (fun (x0 : Operand) (x1 : Operand) => xSlow (.send x0 x1)) (fun (x0 : TypeId) (x1 : Operand) (x2 : Bool) => xSlow (.recv x0 x1 x2)) (fun (x0 : Array SelectCase) (x1 : Bool) => xSlow (.select x0 x1)) op
abbrev Kn := EA → Heap → Nat → Ans
def zstepF (E : Env) (call : CallT) (ops : Array Oper) (o : Oper) (ih : EA → Heap → Nat → Kn → Ans) (env : EA) (h : Heap) (nx : Nat) (kn : Kn) : Ans :=
 gateF ops o env (.no [o.pos, "guard"]) (setE o.dst env undef fun env => ih env h nx kn)
  (opX o.op E call bkAll o.type env h nx (.no [o.pos]) (fun v => setE o.dst env v fun env => ih env h nx kn) (fun v h nx => setE o.dst env v fun env => ih env h nx kn))
def zopsF (E : Env) (call : CallT) (ops : Array Oper) (l : List Oper) : EA → Heap → Nat → Kn → Ans :=
 @List.rec Oper (fun _ => EA → Heap → Nat → Kn → Ans) (fun env h nx kn => kn env h nx) (fun o _ ih => zstepF E call ops o ih) l
end
noncomputable section
def and2 (a b : Bool) : Bool := @Bool.rec (fun _ => Bool) false b a
def wmL (l : List Edge) : Nat := match l with
 | [] => 0
 | e :: l => match bindsB e with | true => Nat.lor (Nat.pow 2 e.on) (wmL l) | false => wmL l
def wm (o : Oper) : Nat := wmL o.after.toList
def readyF (done : Nat) (o : Oper) : Bool := Nat.beq (Nat.land (wm o) done) (wm o)
abbrev Todo := List (Nat × Oper)
def is2 (P : Program) (op : Op) : Bool := Nat.beq (cls P op) 2
def pickQF (P : Program) (ops : Array Oper) (done : Nat) (env : EA) (l : Todo) (none : Ans) (some : Nat → Oper → Bool → Todo → Ans) : Ans :=
 @List.rec (Nat × Oper) (fun _ => Ans → (Nat → Oper → Bool → Todo → Ans) → Ans) (fun none _ => none)
  (fun x r ih none some => bA (readyF done x.2) (ih none fun i o b r => some i o b (x :: r))
   (gateF ops x.2 env (.no [x.2.pos, "guard"]) (some x.1 x.2 false r) (bA (is2 P x.2.op) (some x.1 x.2 true r) (ih none fun i o b r => some i o b (x :: r))))) l none some
def pickLF (done : Nat) (l : Todo) (none : Ans) (some : Nat → Oper → Todo → Ans) : Ans :=
 @List.rec (Nat × Oper) (fun _ => Ans → (Nat → Oper → Todo → Ans) → Ans) (fun none _ => none)
  (fun x r ih none some => bA (readyF done x.2) (ih none fun i o r => some i o (x :: r)) (some x.1 x.2 r)) l none some
def noneRF (done : Nat) (l : Todo) : Bool := @List.rec (Nat × Oper) (fun _ => Bool) true (fun x _ ih => @Bool.rec (fun _ => Bool) ih false (readyF done x.2)) l
def holdsF (P : Program) (h : Heap) (x : Watch) (no yes : Ans) : Ans :=
 @Option.rec (Nat × HO) (fun _ => Ans) (quietA x.op P h x.ty x.args no fun v => bA (eqV v x.val) no yes) (fun p => oH (Tr.get h p.1) no fun o => bA (eqO o p.2) no yes) x.obj
def allHF (P : Program) (h : Heap) (l : List Watch) (no yes : Ans) : Ans := @List.rec Watch (fun _ => Ans) yes (fun x _ ih => holdsF P h x no ih) l
def dropF (ms : List Nat) (i : Nat) (l : List Watch) (k : List Watch → Ans) : Ans := @List.rec Watch (fun _ => (List Watch → Ans) → Ans) (fun k => k []) (fun x _ ih k => @Bool.rec (fun _ => Ans) (ih fun r => k (x :: r)) (ih k) (trW ms i x.i)) l k
def isNilT (l : Todo) : Bool := @List.rec (Nat × Oper) (fun _ => Bool) true (fun _ _ _ => false) l
abbrev Dl := Todo → Nat → List Watch → EA → Heap → Nat → Kn → Ans
def dstepF (E : Env) (call : CallT) (ops : Array Oper) (ms : List Nat) (ih : Dl) (todo : Todo) (done : Nat) (ws : List Watch) (env : EA) (h : Heap) (nx : Nat) (kn : Kn) : Ans :=
 bA (isNilT todo)
  (pickQF E.P ops done env todo
   (pickLF done todo (.no ["none ready"]) fun i o rest => allHF E.P h ws (.no [o.pos, "late"]) (bA (noneRF done rest) (.no [o.pos, "drawn"]) (gateF ops o env (.no [o.pos, "guard"]) (.no [o.pos, "drawn"]) (bA (is2 E.P o.op) (.no [o.pos, "drawn"])
    (argsK (opnds o.op) env (.no [o.pos, "operand"]) fun args => stepA E call bkOne o.op o.type args h nx (.no [o.pos]) (fun _ => .no [o.pos, "quiet"]) fun v h nx => setE o.dst env v fun env => fN (Nat.lor done (Nat.pow 2 i)) fun done => dropF ms i ws fun ws => ih rest done ws env h nx kn)))))
   fun i o b rest => fN (Nat.lor done (Nat.pow 2 i)) fun done => bA b (setE o.dst env undef fun env => ih rest done ws env h nx kn)
    (argsK (opnds o.op) env (.no [o.pos, "operand"]) fun args => @Nat.rec (fun _ => Ans)
     (quietA o.op E.P h o.type args (.no [o.pos]) fun v => setE o.dst env v fun env => ih rest done (@Bool.rec (fun _ => List Watch) ws (⟨i, o.op, o.type, args, v, none⟩ :: ws) (reads o.op)) env h nx kn)
     (fun c _ => @Nat.rec (fun _ => Ans) (laysO o.op E.P args nx (.no [o.pos]) fun v ob => Tr.insF 40 h nx (some ob) fun h => setE o.dst env v fun env => fN (Nat.succ nx) fun nx' => ih rest done (⟨i, o.op, o.type, args, v, some (nx, ob)⟩ :: ws) env h nx' kn) (fun _ _ => .no [o.pos]) c) (cls E.P o.op)))
  (allHF E.P h ws (.no ["late"]) (kn env h nx))
def dloopF (E : Env) (call : CallT) (ops : Array Oper) (ms : List Nat) (f : Nat) : Dl := @Nat.rec (fun _ => Dl) (fun _ _ _ _ _ _ _ => .no ["drawn"]) (fun _ ih => dstepF E call ops ms ih) f
def drawF (E : Env) (call : CallT) (ops : Array Oper) (env : EA) (h : Heap) (nx : Nat) (kn : Kn) : Ans :=
 bA (staticB ops) (.no ["static"]) (dloopF E call ops (masks ops.toList []) (ops.size + 1) (tagOps 0 ops.toList) 0 [] env h nx kn)
def selOf (P : Program) (o : Oper) : Option (Operand × Option Operand × Value) := match o.guard, o.op with
 | none, .select cs false => (match cs.toList with
  | [c] => (match zeroZ P c.elem with | some z => some (c.chan, c.send, z) | none => none)
  | _ => none)
 | _, _ => none
def selRecv (h : Heap) (c z : Value) : Option (Value × Heap) := match c with
 | .chan (some n) => (match h.get n with
  | some (.chan cap buf) => (match buf with
   | [] => some (.tuple #[goInt (-1), .bool false, z], h)
   | x :: r => some (.tuple #[goInt 0, .bool true, x], h.ins n (some (.chan cap r))))
  | _ => none)
 | _ => none
def selSend (h : Heap) (c x : Value) : Option (Value × Heap) := match c with
 | .chan (some n) => (match h.get n with
  | some (.chan cap buf) => (match Nat.blt buf.length cap with
   | true => some (.tuple #[goInt 0, .bool false], h.ins n (some (.chan cap (buf ++ [x]))))
   | false => some (.tuple #[goInt (-1), .bool false], h))
  | _ => none)
 | _ => none
def oVH (o : Option (Value × Heap)) (no : Ans) (k : Value → Heap → Ans) : Ans := @Option.rec (Value × Heap) (fun _ => Ans → (Value → Heap → Ans) → Ans) (fun no _ => no) (fun p _ k => fV p.1 fun v => fT p.2 fun h => k v h) o no k
def selA (P : Program) (o : Oper) (env : EA) (h : Heap) (no : Ans) (k : Value → Heap → Ans) : Ans :=
 @Option.rec (Operand × Option Operand × Value) (fun _ => Ans) no (fun q => evF q.1 env no fun c => @Option.rec Operand (fun _ => Ans) (oVH (selRecv h c q.2.2) no k) (fun s => evF s env no fun x => oVH (selSend h c x) no k) q.2.1) (selOf P o)
def selKF (E : Env) (call : CallT) (ops : Array Oper) (o : Oper) (rest : List Oper) (env : EA) (h : Heap) (nx : Nat) (kn : Kn) : Ans :=
 selA E.P o env h (.no [o.pos, "select"]) fun v h => setE o.dst env v fun env => zopsF E call ops rest env h nx kn
def plainF (E : Env) (call : CallT) (ops : Array Oper) (env : EA) (h : Heap) (nx : Nat) (kn : Kn) : Ans :=
 @List.rec Oper (fun _ => Ans) (kn env h nx) (fun o rest _ => bA (isSelect o.op) (zopsF E call ops (o :: rest) env h nx kn) (selKF E call ops o rest env h nx kn)) ops.toList
abbrev Ke := Nat → Kn
abbrev Ck := EA → Heap → Nat → Kn → Kn → Ke → Ans
def c_skip : Ck := fun env h nx kn _ _ => kn env h nx
def c_region (E : Env) (call : CallT) (ops : Array Oper) (d : Bool) : Ck := fun env h nx kn _ _ => bA d (plainF E call ops env h nx kn) (drawF E call ops env h nx kn)
def c_seq (a b : Ck) : Ck := fun env h nx kn kr ke => a env h nx (fun env h nx => b env h nx kn kr ke) kr ke
def c_cond (c : Operand) (a b : Ck) : Ck := fun env h nx kn kr ke => evF c env (.no ["cond"]) fun v => vBool v (.no ["cond"]) fun t => bA t (b env h nx kn kr ke) (a env h nx kn kr ke)
def c_block (id : Nat) (a : Ck) : Ck := fun env h nx kn kr ke => a env h nx kn kr fun i env h nx => bA (Nat.beq i id) (ke i env h nx) (kn env h nx)
def loopF (a : Ck) (n : Nat) : Ck := @Nat.rec (fun _ => Ck) (fun _ _ _ _ _ _ => .no ["rounds"]) (fun _ ih env h nx kn kr ke => a env h nx (fun env h nx => ih env h nx kn kr ke) kr ke) n
def c_exit (id : Nat) : Ck := fun env h nx _ _ ke => ke id env h nx
def c_ret : Ck := fun env h nx _ kr _ => kr env h nx
def c_no : Ck := fun _ _ _ _ _ _ => .no ["code"]
def zcodeF (E : Env) (call : CallT) (c : Code) : Ck :=
 @Code.rec (fun _ => Ck) c_skip (fun _ ops d => c_region E call ops d) (fun _ _ a b => c_seq a b) (fun c _ _ a b => c_cond c a b) (fun id _ a => c_block id a) (fun _ a => loopF a 1000000) (fun _ _ _ _ _ _ => c_no) c_exit (fun _ _ => c_no) (fun _ => c_no) (fun _ => c_no) c_ret (fun _ => c_no) c
def initF (l : List Value) (n : Nat) (env : EA) (k : EA → Ans) : Ans := @List.rec Value (fun _ => Nat → EA → (EA → Ans) → Ans) (fun _ env k => k env) (fun v _ ih n env k => EA.set n env v fun env => fN (Nat.succ n) fun n => ih n env k) l n env k
def resF (P : Program) (r : ResultVar) (env : EA) (h : Heap) (no : Ans) (k : Value → Ans) : Ans :=
 @ResultVar.rec (fun _ => Ans) (fun t => getE t env no k) (fun a t => getE a env no fun v => vPtr v no fun n off => loadA P h t n off no k) r
def resK (P : Program) (l : List ResultVar) (env : EA) (h : Heap) (no : Ans) (k : List Value → Ans) : Ans :=
 @List.rec ResultVar (fun _ => (List Value → Ans) → Ans) (fun k => k []) (fun r _ ih k => resF P r env h no fun v => ih fun vs => k (v :: vs)) l k
def packK (l : List Value) (k : Value → Ans) : Ans := @List.rec Value (fun _ => Ans) (k (.tuple (Array.mk []))) (fun v r _ => @List.rec Value (fun _ => Ans) (k v) (fun _ _ _ => k (.tuple (Array.mk l))) r) l
def retF (P : Program) (fn : Func) (env : EA) (h : Heap) (nx : Nat) : Ans := resK P fn.results.toList env h (.no ["results"]) fun vs => packK vs fun v => .ok [(v, h, nx)]
def why (s : String) (r : Ans) : Ans := @R.rec (List Out) (fun _ => Ans) (fun l => .ok l) (fun w => .no (s :: w)) r
def bodyF (E : Env) (call : CallT) (fn : Func) (c : Code) (args : List Value) (h : Heap) (nx : Nat) : Ans :=
 initF args 0 EA.nil fun env => why fn.name (zcodeF E call c env h nx (retF E.P fn) (retF E.P fn) fun _ _ _ _ => .no ["exit"])
def codeB (fn : Func) (c : Code) : Bool := codeOkZ fn.ntmps c && Nat.ble fn.ntmps 1000000
def fnF (E : Env) (call : CallT) (fn : Func) (args : List Value) (h : Heap) (nx : Nat) : Ans :=
 @Option.rec Code (fun _ => Ans) (.no [fn.name, "body"]) (fun c => bA (Nat.ble args.length fn.ntmps) (.no [fn.name, "args"]) (bA (codeB fn c) (.no [fn.name, "dst"]) (bodyF E call fn c args h nx))) fn.body
def primL (l : List Out) : Ans := @List.rec Out (fun _ => Ans) (.ok []) (fun x r _ => @List.rec Out (fun _ => Ans) (out1 x (fK fun v h nx => .ok [(v, h, nx)])) (fun _ _ _ => .ok l) r) l
def primF (p : Heap → Nat → List Value → Option (List Out)) (args : List Value) (h : Heap) (nx : Nat) : Ans := @Option.rec (List Out) (fun _ => Ans) (.no ["prim"]) primL (p h nx args)
end
end Go.Z
end
