/- One part of a proof: an evaluator of the model, shown right, and contracts that it yields. No condition beyond those that each theorem names. -/
import Derived.Test.YtnhllgedoimhkaaGreatDoorZP
import Derived.Test.YtnhllgedoimhkaaGreatDoorLA
set_option linter.unusedSimpArgs false
set_option linter.unusedVariables false
set_option linter.unusedSectionVars false
set_option linter.deprecated false
section
namespace Go.Z
open Go.X Go.RowKit Go.Proofs Go.Proofs.LB
noncomputable section
def viewOf (w : World) : View := fun b o => w.cell? ⟨b, o, none⟩
theorem calls_of_pspec {f : FuncId} {args : List Value} {w : World} {R : Value → View → Prop} (h : LB.PSpec f args (viewOf w) R) : Calls Tryz.prog f args.toArray w fun e w' => ∃ v, e = .returned v ∧ (∃ V', R v V') ∧ Below w.heap.size w w' := by
 refine (h w ⟨fun _ _ _ hv => hv, fun i r hr => by simp at hr, fun i j r r' b _ hr => by simp at hr⟩).mono ?_
 rintro e w' ⟨v, V', bs, he, hR, _, hk, _, _⟩
 exact ⟨v, he, ⟨V', hR⟩, ⟨hk.os, hk.tape, hk.output, hk.size, fun k hk' => hk.block k hk' (fun ⟨r, hr, _⟩ => by cases hr)⟩⟩
inductive RepT (σ : Nat → Nat → Value) : Value → Int → Prop
 | lit {n : Nat} : n < 65536 → RepT σ (.int .u16 (.ofNat n)) n
 | sym {i : Nat} {t : Int} : σ i 0 = .int .u16 t → 0 ≤ t ∧ t < 65536 → RepT σ (.complex .f64 i 0) t
theorem RepT.num {σ : Nat → Nat → Value} {x : Value} {t : Int} (h : RepT σ x t) : 0 ≤ t ∧ t < 65536 := by
 cases h with
 | lit h => omega
 | sym _ h => exact h
inductive RepTs (σ : Nat → Nat → Value) : List Value → List Int → Prop
 | nil : RepTs σ [] []
 | cons {x : Value} {t : Int} {l : List Value} {m : List Int} : RepT σ x t → RepTs σ l m → RepTs σ (x :: l) (t :: m)
def tagB : Value → Bool
 | .int .u16 (.ofNat n) => Nat.blt n 65536
 | .complex .f64 _ 0 => true
 | _ => false
def tagsB : List Value → Bool
 | [] => true
 | x :: l => match tagB x with | true => tagsB l | false => false
theorem RepTs.num {σ : Nat → Nat → Value} : ∀ {l : List Value} {ts : List Int}, RepTs σ l ts → ∀ t ∈ ts, 0 ≤ t ∧ t < 65536
 | _, _, .nil, t, ht => by cases ht
 | _, _, .cons a r, t, ht => by
  rcases List.mem_cons.1 ht with rfl | ht
  ·exact a.num
  ·exact r.num t ht
theorem RepTs.length {σ : Nat → Nat → Value} : ∀ {l : List Value} {ts : List Int}, RepTs σ l ts → l.length = ts.length
 | _, _, .nil => rfl
 | _, _, .cons _ r => by simp [r.length]
def labCells (h : Heap) (v : Value) : Option (List Value) := match v with
 | .complex .f32 n len => (match h.get (n + 1) with
  | some (.ro l) => (match Nat.beq (l.take len).length len with | true => some (l.take len) | false => none)
  | _ => none)
 | .slice _ 0 _ => some []
 | .slice (some ⟨n, off, _⟩) len _ => (match h.get n with
  | some o => (match cellsOf o with
   | some l => (match Nat.beq ((l.drop off).take len).length len with | true => some ((l.drop off).take len) | false => none)
   | none => none)
  | none => none)
 | _ => none
def labZ (h : Heap) (v : Value) : Option (List Value) := match labCells h v with
 | some l => (match tagsB l, Nat.ble l.length 1000 with | true, true => some l | _, _ => none)
 | none => none
section
variable {σ : Nat → Nat → Value} [SigOk σ] {w0 : World} {h : Heap} {ρ : Ren} {w : World}
theorem tags_of : ∀ {l l' : List Value}, tagsB l = true → RepL σ ρ l l' → ∃ ts : List Int, l' = ts.map (Value.int .u16) ∧ RepTs σ l ts
 | [], _, _, .nil => ⟨[], rfl, .nil⟩
 | x :: l, _, hb, .cons (y := y) (m := m) a r => by
  unfold tagsB at hb
  split at hb
  ·rename_i hx
   obtain ⟨ts, e, hts⟩ := tags_of hb r
   unfold tagB at hx
   split at hx
   ·rename_i n
    have := a.of_plain rfl
    subst this
    exact ⟨n :: ts, by rw [e]; rfl, .cons (.lit (Nat.le_of_ble_eq_true hx)) hts⟩
   ·rename_i i
    obtain ⟨T, K, hT, hK, hs, _⟩ := SigOk.ex (σ := σ)
    have e1 : σ i 0 = .int .u16 (T i : Nat) := hs i 0
    have := a.sy_inv
    rw [this, e1]
    exact ⟨(T i : Nat) :: ts, by rw [e]; rfl, .cons (.sym e1 (by have := hT i; omega)) hts⟩
   ·cases hx
  ·cases hb
theorem lab_cells (k : WI σ w0 h ρ w) {x y : Value} {l : List Value} (hr : Rep σ ρ x y) (hl : labCells h x = some l) :
  ∃ (base : Option Addr) (cap : Nat) (l' : List Value), y = .slice base l'.length cap ∧ RepL σ ρ l l' ∧ (l' ≠ [] → ∃ p off, base = some ⟨p, off, none⟩ ∧ (viewOf w).has p off l') := by
 unfold labCells at hl
 split at hl
 ·rename_i n len
  obtain ⟨b, c, off, hn, hn1, rfl⟩ := hr.fs_inv
  split at hl
  ·rename_i cs ho
   split at hl
   ·rename_i hlen
    cases hl
    have hlen := Nat.eq_of_beq_eq_true hlen
    obtain ⟨l', cs', tt, fr, hx, hr', hc⟩ := k.rel _ b off _ hn1 ho
    have hrr := hr'.take len
    refine ⟨some ⟨b, off, none⟩, c, l'.take len, by rw [← hrr.length, hlen], hrr, fun _ => ⟨b, off, rfl, fun i v hv => ?_⟩⟩
    rw [List.getElem?_take] at hv
    split at hv
    ·have := hc i v hv
     simp [viewOf, World.cell?, hx, this]
    ·cases hv
   ·cases hl
  ·cases hl
 ·rename_i a cap
  cases hl
  obtain ⟨a', cap', rfl, _, _⟩ := rep_slice hr
  exact ⟨a', cap', [], rfl, .nil, fun h => absurd rfl h⟩
 ·rename_i n off s len cap hne
  split at hl
  ·rename_i o ho
   split at hl
   ·rename_i cs hcs
    split at hl
    ·rename_i hlen
     cases hl
     have hlen := Nat.eq_of_beq_eq_true hlen
     have hx : ∃ b c cap', ρ n = some (b, c) ∧ y = .slice (some ⟨b, off, none⟩) len cap' := by
      cases s with
      | none => obtain ⟨b, c, hn, rfl⟩ := hr.sl_inv; exact ⟨b, c, _, hn, rfl⟩
      | some g =>
       obtain ⟨b, c, off', hn, hoo, rfl⟩ := hr.gr_inv
       rcases hoo with rfl | ⟨_, h0⟩
       ·exact ⟨b, c, _, hn, rfl⟩
       ·exact absurd h0 hne
     obtain ⟨b, c, cap', hn, rfl⟩ := hx
     obtain ⟨l', hr', hc⟩ := k.cellsAt hn ho hcs
     have hrr := (hr'.drop off).take len
     refine ⟨_, cap', _, by rw [← hrr.length, hlen], hrr, fun _ => ⟨b, off, rfl, fun i v hv => hc _ _ (drop_take_get hv)⟩⟩
    ·cases hl
   ·cases hl
  ·cases hl
 ·cases hl
theorem lab_of (k : WI σ w0 h ρ w) {x y : Value} {l : List Value} (hr : Rep σ ρ x y) (hl : labZ h x = some l) : ∃ a : Lab, y = a.slice ∧ RepTs σ l a.l ∧ a.at (viewOf w) ∧ a.l.length ≤ 1000 := by
 unfold labZ at hl
 split at hl
 ·rename_i m hm
  split at hl
  ·rename_i hb hlen
   cases hl
   obtain ⟨base, cap, l', rfl, hrl, hh⟩ := lab_cells k hr hm
   obtain ⟨ts, rfl, hts⟩ := tags_of hb hrl
   refine ⟨⟨base, cap, ts⟩, by simp [Lab.slice], hts, ⟨fun hne => ?_, hts.num⟩, by rw [← hts.length]; exact Nat.le_of_ble_eq_true hlen⟩
   exact hh (by intro e; exact hne (List.map_eq_nil_iff.1 e))
  ·cases hl
 ·cases hl
def ltT : Value → Value → Option Bool
 | .int .u16 (.ofNat n), .int .u16 (.ofNat m) => some (Nat.blt n m)
 | .complex .f64 i 0, .complex .f64 k 0 => (match Nat.beq (i / 16) (k / 16), Nat.blt (i % 16) (i / 16 % 16), Nat.blt (k % 16) (i / 16 % 16) with
  | true, true, true => some (Nat.blt (i % 16) (k % 16))
  | _, _, _ => none)
 | _, _ => none
theorem ltT_ok {x y : Value} {a b : Int} {r : Bool} (hx : RepT σ x a) (hy : RepT σ y b) (hr : ltT x y = some r) : r = true ↔ a < b := by
 obtain ⟨T, K, hT, hK, hs, ho, _⟩ := SigOk.ex (σ := σ)
 have hs0 : ∀ i, σ i 0 = .int .u16 (T i : Nat) := fun i => hs i 0
 cases hx with
 | lit hn =>
  cases hy with
  | lit hm => simp only [ltT, Option.some.injEq] at hr; subst hr; rw [Nat.blt_eq]; omega
  | sym _ _ => simp [ltT] at hr
 | sym e1 _ =>
  cases hy with
  | lit hm => simp [ltT] at hr
  | sym e2 _ =>
   rename_i i _ k _
   rw [hs0] at e1 e2
   cases e1; cases e2
   simp only [ltT] at hr
   split at hr
   ·rename_i h1 h2 h3
    have h1 := Nat.eq_of_beq_eq_true h1
    rw [Nat.blt_eq] at h2 h3
    cases hr
    rw [Nat.blt_eq]
    constructor
    ·intro h4
     have := (ho i k h1 h4 h3).1
     omega
    ·intro h4
     rcases Nat.lt_trichotomy (i % 16) (k % 16) with h5 | h5 | h5
     ·exact h5
     ·have : i = k := by omega
      subst this; omega
     ·have := (ho k i h1.symm h5 (by rw [← h1]; exact h2)).1
      omega
   ·cases hr
def eqT (x y : Value) : Option Bool := match ltT x y, ltT y x with
 | some a, some b => some (not (a || b))
 | _, _ => none
theorem eqT_ok {x y : Value} {a b : Int} {r : Bool} (hx : RepT σ x a) (hy : RepT σ y b) (hr : eqT x y = some r) : r = true ↔ a = b := by
 unfold eqT at hr
 split at hr
 ·rename_i p q h1 h2
  have e1 := ltT_ok hx hy h1
  have e2 := ltT_ok hy hx h2
  cases hr
  cases p <;> cases q <;> simp at e1 e2 ⊢ <;> omega
 ·cases hr
def memT (x : Value) : List Value → Option Bool
 | [] => some false
 | y :: l => match eqT x y with
  | some true => some true
  | some false => memT x l
  | none => none
theorem memT_ok {x : Value} {a : Int} (hx : RepT σ x a) : ∀ {l : List Value} {b : List Int} {r : Bool}, RepTs σ l b → memT x l = some r → (r = true ↔ a ∈ b)
 | _, _, _, .nil, h => by cases h; simp
 | _, _, _, .cons hy hl, h => by
  unfold memT at h
  split at h
  ·rename_i he
   cases h
   have := (eqT_ok hx hy he).1 rfl
   simp [this]
  ·rename_i he
   have e1 := eqT_ok hx hy he
   rw [memT_ok hx hl h, List.mem_cons]
   simp at e1
   constructor
   ·exact .inr
   ·rintro (h | h)
    ·exact absurd h e1
    ·exact h
  ·cases h
def subT : List Value → List Value → Option Bool
 | [], _ => some true
 | x :: l, m => match memT x m with
  | some true => subT l m
  | some false => some false
  | none => none
theorem subT_ok : ∀ {l m : List Value} {a b : List Int} {r : Bool}, RepTs σ l a → RepTs σ m b → subT l m = some r → (r = true ↔ ∀ t ∈ a, t ∈ b)
 | _, _, _, _, _, .nil, _, h => by cases h; simp
 | _, _, _, _, _, .cons hx hl, hm, h => by
  unfold subT at h
  split at h
  ·rename_i he
   have e1 := (memT_ok hx hm he).1 rfl
   rw [subT_ok hl hm h]
   simp [e1]
  ·rename_i he
   cases h
   have e1 := memT_ok hx hm he
   simp at e1
   simp [e1]
  ·cases h
def riseT : List Value → Option Bool
 | x :: y :: l => (match ltT x y with
  | some true => riseT (y :: l)
  | some false => some false
  | none => none)
 | _ => some true
theorem riseT_ok : ∀ (l : List Value) {a : List Int} {r : Bool}, RepTs σ l a → riseT l = some r → (r = true ↔ Rising a)
 | [], _, _, ha, h => by cases ha; cases h; simp [Rising]
 | [x], _, _, ha, h => by
  cases ha with
  | cons hx ha => cases ha; cases h; simp [Rising]
 | x :: y :: l, _, _, ha, h => by
  cases ha with
  | @cons _ t _ _ hx ha =>
  cases ha with
  | @cons _ u _ m hy hl =>
  unfold riseT at h
  split at h
  ·rename_i he
   have e1 := (ltT_ok hx hy he).1 rfl
   rw [riseT_ok (y :: l) (.cons hy hl) h]
   constructor
   ·intro hr i x y h1 h2
    cases i with
    | zero => simp at h1 h2; omega
    | succ i => exact hr i x y (by simpa using h1) (by simpa using h2)
   ·intro hr i x y h1 h2
    exact hr (i + 1) x y (by simpa using h1) (by simpa using h2)
  ·rename_i he
   cases h
   have e1 := ltT_ok hx hy he
   simp at e1
   simp only [Bool.false_eq_true, false_iff]
   intro hr
   have := hr 0 t u (by simp) (by simp)
   omega
  ·cases h
def lexT : List Value → List Value → Option Int
 | [], [] => some 0
 | [], _ :: _ => some (-1)
 | _ :: _, [] => some 1
 | x :: l, y :: m => (match ltT x y with
  | some true => some (-1)
  | some false => (match ltT y x with
   | some true => some 1
   | some false => lexT l m
   | none => none)
  | none => none)
theorem lexT_ok : ∀ {l m : List Value} {a b : List Int} {r : Int}, RepTs σ l a → RepTs σ m b → lexT l m = some r → r = lexS a b
 | _, _, _, _, _, .nil, .nil, h => by cases h; rfl
 | _, _, _, _, _, .nil, .cons _ _, h => by cases h; rfl
 | _, _, _, _, _, .cons _ _, .nil, h => by cases h; rfl
 | _, _, _, _, _, .cons hx hl, .cons hy hm, h => by
  unfold lexT at h
  split at h
  ·rename_i he
   cases h
   have e1 := (ltT_ok hx hy he).1 rfl
   rw [lexS, if_pos e1]
  ·rename_i he
   have e1 := ltT_ok hx hy he
   simp at e1
   split at h
   ·rename_i he2
    cases h
    have e2 := (ltT_ok hy hx he2).1 rfl
    rw [lexS, if_neg (by omega), if_pos e2]
   ·rename_i he2
    have e2 := ltT_ok hy hx he2
    simp at e2
    rw [lexS, if_neg (by omega), if_neg (by omega)]
    exact lexT_ok hl hm h
   ·cases h
  ·cases h
def cmpT (l m : List Value) : Option Int := match Nat.blt l.length m.length, Nat.blt m.length l.length with
 | true, _ => some (-1)
 | false, true => some 1
 | false, false => lexT l m
theorem cmpT_ok {l m : List Value} {a b : List Int} {r : Int} (hl : RepTs σ l a) (hm : RepTs σ m b) (h : cmpT l m = some r) : r = cmpA a b := by
 unfold cmpT at h
 unfold cmpA
 rw [← hl.length, ← hm.length]
 split at h
 ·rename_i h1
  rw [Nat.blt_eq] at h1
  cases h
  rw [if_pos h1]
 ·rename_i h1 h2
  rw [Nat.blt_eq] at h2
  cases h
  rw [if_neg (by omega), if_pos h2]
 ·rename_i h1 h2
  have h1 : ¬ l.length < m.length := fun h => by rw [(Nat.blt_eq ▸ h : Nat.blt _ _ = true)] at h1; cases h1
  have h2 : ¬ m.length < l.length := fun h => by rw [(Nat.blt_eq ▸ h : Nat.blt _ _ = true)] at h2; cases h2
  rw [if_neg h1, if_neg h2]
  exact lexT_ok hl hm h
abbrev Tab := List Value → List Value → Option (Bool × Int)
structure TabOk (σ : Nat → Nat → Value) (tab : Tab) : Prop where
 ok : ∀ x y r, tab x y = some r → ∀ a b, RepTs σ x a → RepTs σ y b → (r.1 = true ↔ ∀ t ∈ a, t ∈ b) ∧ r.2 = cmpA a b
def flowsV (tab : Tab) (x y : List Value) : Option Bool := match subT x y with
 | some b => some b
 | none => (match tab x y with | some r => some r.1 | none => none)
def cmpV (tab : Tab) (x y : List Value) : Option Int := match cmpT x y with
 | some b => some b
 | none => (match tab x y with | some r => some r.2 | none => none)
def mayV (x : List Value) : Option Bool := match riseT x with
 | some b => some (b && Nat.ble x.length 8)
 | none => none
theorem flowsV_ok {tab : Tab} (ht : TabOk σ tab) {l m : List Value} {a b : List Int} {r : Bool} (hl : RepTs σ l a) (hm : RepTs σ m b) (h : flowsV tab l m = some r) : r = true ↔ ∀ t ∈ a, t ∈ b := by
 unfold flowsV at h
 split at h
 ·rename_i he; cases h; exact subT_ok hl hm he
 ·split at h
  ·rename_i he; cases h; exact (ht.ok _ _ _ he _ _ hl hm).1
  ·cases h
theorem cmpV_ok {tab : Tab} (ht : TabOk σ tab) {l m : List Value} {a b : List Int} {r : Int} (hl : RepTs σ l a) (hm : RepTs σ m b) (h : cmpV tab l m = some r) : r = cmpA a b := by
 unfold cmpV at h
 split at h
 ·rename_i he; cases h; exact cmpT_ok hl hm he
 ·split at h
  ·rename_i he; cases h; exact (ht.ok _ _ _ he _ _ hl hm).2
  ·cases h
end
end
noncomputable section
def lab1 (f : List Value → Option Value) (h : Heap) (nx : Nat) (args : List Value) : Option (List Out) := match args with
 | [x] => (match labZ h x with
  | some l => (match f l with | some v => some [(v, h, nx)] | none => none)
  | none => none)
 | _ => none
def lab2 (f : List Value → List Value → Option Value) (h : Heap) (nx : Nat) (args : List Value) : Option (List Out) := match args with
 | [x, y] => (match labZ h x, labZ h y with
  | some l, some m => (match f l m with | some v => some [(v, h, nx)] | none => none)
  | _, _ => none)
 | _ => none
section
variable {σ : Nat → Nat → Value} [SigOk σ]
theorem lab1_ok {fid : FuncId} {f : List Value → Option Value} {R : List Int → Value → Prop} (spec : ∀ (a : Lab) (V : View), a.at V → a.l.length ≤ 1000 → LB.PSpec fid [a.slice] V (fun v _ => R a.l v))
  (hf : ∀ l ts v u, RepTs σ l ts → f l = some v → R ts u → u = v ∧ plain v = true) : CallOk Tryz.prog σ (fun g' args h nx => if g' = fid then (match lab1 f h nx args with | some l => .ok l | none => .no []) else .no []) := by
 intro w0 g args h nx outs ho ρ vs w hfr ha hw
 dsimp only at ho
 split at ho
 case isFalse => cases ho
 rename_i hg
 subst hg
 split at ho
 case h_2 => cases ho
 rename_i l hl
 cases ho
 unfold lab1 at hl
 split at hl
 case h_2 => cases hl
 rename_i x
 split at hl
 case h_2 => cases hl
 rename_i l1 hl1
 split at hl
 case h_2 => cases hl
 rename_i v hv
 cases hl
 cases ha with
 | cons a1 ha =>
 cases ha
 obtain ⟨a, rfl, hts, hat, hlen⟩ := lab_of hw a1 hl1
 refine (calls_of_pspec (spec a (viewOf w) hat hlen)).mono ?_
 rintro e W ⟨u, rfl, ⟨_, hR⟩, hB⟩
 obtain ⟨rfl, hp⟩ := hf _ _ _ _ hts hv hR
 exact ⟨(u, h, nx), List.mem_singleton.2 rfl, u, ρ, rfl, Ren.le_refl _, New.refl _ _, Nat.le_refl _, hfr, .plain hp, hw.below hB⟩
theorem lab2_ok {fid : FuncId} {f : List Value → List Value → Option Value} {R : List Int → List Int → Value → Prop} (spec : ∀ (a c : Lab) (V : View), a.at V → c.at V → a.l.length ≤ 1000 → c.l.length ≤ 1000 → LB.PSpec fid [a.slice, c.slice] V (fun v _ => R a.l c.l v))
  (hf : ∀ l m ts us v u, RepTs σ l ts → RepTs σ m us → f l m = some v → R ts us u → u = v ∧ plain v = true) : CallOk Tryz.prog σ (fun g' args h nx => if g' = fid then (match lab2 f h nx args with | some l => .ok l | none => .no []) else .no []) := by
 intro w0 g args h nx outs ho ρ vs w hfr ha hw
 dsimp only at ho
 split at ho
 case isFalse => cases ho
 rename_i hg
 subst hg
 split at ho
 case h_2 => cases ho
 rename_i l hl
 cases ho
 unfold lab2 at hl
 split at hl
 case h_2 => cases hl
 rename_i x y
 split at hl
 case h_2 => cases hl
 rename_i l1 l2 hl1 hl2
 split at hl
 case h_2 => cases hl
 rename_i v hv
 cases hl
 cases ha with
 | cons a1 ha =>
 cases ha with
 | cons a2 ha =>
 cases ha
 obtain ⟨a, rfl, hts, hat, hlen⟩ := lab_of hw a1 hl1
 obtain ⟨c, rfl, hts2, hat2, hlen2⟩ := lab_of hw a2 hl2
 refine (calls_of_pspec (spec a c (viewOf w) hat hat2 hlen hlen2)).mono ?_
 rintro e W ⟨u, rfl, ⟨_, hR⟩, hB⟩
 obtain ⟨rfl, hp⟩ := hf _ _ _ _ _ _ hts hts2 hv hR
 exact ⟨(u, h, nx), List.mem_singleton.2 rfl, u, ρ, rfl, Ren.le_refl _, New.refl _ _, Nat.le_refl _, hfr, .plain hp, hw.below hB⟩
theorem bool_eq {b c : Bool} {p : Prop} (h1 : b = true ↔ p) (h2 : c = true ↔ p) : b = c := by
 cases b <;> cases c <;> simp at h1 h2 <;> first | rfl | exact absurd h2 h1 | exact absurd h1 h2
def fMay (l : List Value) : Option Value := match mayV l with | some b => some (.bool b) | none => none
def fFlows (tab : Tab) (l m : List Value) : Option Value := match flowsV tab l m with | some b => some (.bool b) | none => none
def fCmp (tab : Tab) (l m : List Value) : Option Value := match cmpV tab l m with | some c => some (.int .i64 c) | none => none
theorem may_ok : CallOk Tryz.prog σ (fun g' args h nx => if g' = 7 then (match lab1 fMay h nx args with | some l => .ok l | none => .no []) else .no []) :=
 lab1_ok (R := fun ts v => ∃ b, v = .bool b ∧ (b = true ↔ Rising ts ∧ ts.length ≤ 8)) (fun a V h _ => may_spec a V h) fun l ts v u hts hv ⟨b, hu, hb⟩ => by
  unfold fMay mayV at hv
  split at hv
  ·rename_i c hc
   cases hv
   split at hc
   ·rename_i r hr
    cases hc
    have e1 := riseT_ok l hts hr
    refine ⟨?_, rfl⟩
    rw [hu, bool_eq hb (c := r && Nat.ble l.length 8) ?_]
    rw [Bool.and_eq_true, e1, hts.length, Nat.ble_eq]
   ·cases hc
  ·cases hv
theorem lflows_ok {tab : Tab} (ht : TabOk σ tab) : CallOk Tryz.prog σ (fun g' args h nx => if g' = 24 then (match lab2 (fFlows tab) h nx args with | some l => .ok l | none => .no []) else .no []) :=
 lab2_ok (R := fun ts us v => ∃ b, v = .bool b ∧ (b = true ↔ ∀ x ∈ ts, x ∈ us)) (fun a c V h1 h2 h3 h4 => lflows_spec a c V h1 h2 h3 h4) fun l m ts us v u hts hus hv ⟨b, hu, hb⟩ => by
  unfold fFlows at hv
  split at hv
  ·rename_i c hc
   cases hv
   exact ⟨by rw [hu, bool_eq hb (flowsV_ok ht hts hus hc)], rfl⟩
  ·cases hv
theorem lcmp_ok {tab : Tab} (ht : TabOk σ tab) : CallOk Tryz.prog σ (fun g' args h nx => if g' = 132 then (match lab2 (fCmp tab) h nx args with | some l => .ok l | none => .no []) else .no []) :=
 lab2_ok (R := fun ts us v => v = .int .i64 (cmpA ts us)) (fun a c V h1 h2 h3 _ => lcompare_spec a c V h1 h2 h3) fun l m ts us v u hts hus hv hu => by
  unfold fCmp at hv
  split at hv
  ·rename_i c hc
   cases hv
   rw [cmpV_ok ht hts hus hc]
   exact ⟨hu, rfl⟩
  ·cases hv
end
end
end Go.Z
end
