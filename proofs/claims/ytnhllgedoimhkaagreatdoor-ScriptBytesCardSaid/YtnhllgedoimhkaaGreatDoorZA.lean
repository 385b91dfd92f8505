/- One part of a proof: an evaluator of the model, shown right, and contracts that it yields. No condition beyond those that each theorem names. -/
import Derived.Test.YtnhllgedoimhkaaGreatDoorXA
import Derived.Test.YtnhllgedoimhkaaGreatDoorXC
set_option linter.unusedSimpArgs false
set_option linter.unusedVariables false
set_option linter.unusedSectionVars false
set_option linter.deprecated false
section
namespace Go.Z
open Go.X
noncomputable section
inductive D8 where
 | d0 | d1 | d2 | d3 | d4 | d5 | d6 | d7
inductive Tr (α : Type) where
 | nil
 | node (v : Option α) (a0 a1 a2 a3 a4 a5 a6 a7 : Tr α)
def D8.of (m : Nat) : D8 := (@Nat.rec (fun _ => D8) .d0 (fun m _ => (@Nat.rec (fun _ => D8) .d1 (fun m _ => (@Nat.rec (fun _ => D8) .d2 (fun m _ => (@Nat.rec (fun _ => D8) .d3 (fun m _ => (@Nat.rec (fun _ => D8) .d4 (fun m _ => (@Nat.rec (fun _ => D8) .d5 (fun m _ => (@Nat.rec (fun _ => D8) .d6 (fun m _ => .d7) m)) m)) m)) m)) m)) m)) m)
def digsS (ih : Nat → List D8) (n : Nat) : List D8 := @Nat.rec (fun _ => List D8) [] (fun m _ => D8.of (Nat.mod m 8) :: ih (Nat.div m 8)) n
def digsF (f : Nat) : Nat → List D8 := @Nat.rec (fun _ => Nat → List D8) (fun _ => []) (fun _ ih n => digsS ih n) f
def digs (n : Nat) : List D8 := digsF (Nat.succ n) n
def Tr.child {α : Type} (d : D8) (t : Tr α) : Tr α := @Tr.rec α (fun _ => Tr α) .nil (fun _ a0 a1 a2 a3 a4 a5 a6 a7 _ _ _ _ _ _ _ _ => @D8.rec (fun _ => Tr α) a0 a1 a2 a3 a4 a5 a6 a7 d) t
def Tr.root {α : Type} (t : Tr α) : Option α := @Tr.rec α (fun _ => Option α) none (fun v _ _ _ _ _ _ _ _ _ _ _ _ _ _ _ _ => v) t
def Tr.s0 {α β : Type} (t x : Tr α) (k : Tr α → β) : β := @Tr.rec α (fun _ => β) (k (.node none x .nil .nil .nil .nil .nil .nil .nil)) (fun v _ a1 a2 a3 a4 a5 a6 a7 _ _ _ _ _ _ _ _ => k (.node v x a1 a2 a3 a4 a5 a6 a7)) t
def Tr.s1 {α β : Type} (t x : Tr α) (k : Tr α → β) : β := @Tr.rec α (fun _ => β) (k (.node none .nil x .nil .nil .nil .nil .nil .nil)) (fun v a0 _ a2 a3 a4 a5 a6 a7 _ _ _ _ _ _ _ _ => k (.node v a0 x a2 a3 a4 a5 a6 a7)) t
def Tr.s2 {α β : Type} (t x : Tr α) (k : Tr α → β) : β := @Tr.rec α (fun _ => β) (k (.node none .nil .nil x .nil .nil .nil .nil .nil)) (fun v a0 a1 _ a3 a4 a5 a6 a7 _ _ _ _ _ _ _ _ => k (.node v a0 a1 x a3 a4 a5 a6 a7)) t
def Tr.s3 {α β : Type} (t x : Tr α) (k : Tr α → β) : β := @Tr.rec α (fun _ => β) (k (.node none .nil .nil .nil x .nil .nil .nil .nil)) (fun v a0 a1 a2 _ a4 a5 a6 a7 _ _ _ _ _ _ _ _ => k (.node v a0 a1 a2 x a4 a5 a6 a7)) t
def Tr.s4 {α β : Type} (t x : Tr α) (k : Tr α → β) : β := @Tr.rec α (fun _ => β) (k (.node none .nil .nil .nil .nil x .nil .nil .nil)) (fun v a0 a1 a2 a3 _ a5 a6 a7 _ _ _ _ _ _ _ _ => k (.node v a0 a1 a2 a3 x a5 a6 a7)) t
def Tr.s5 {α β : Type} (t x : Tr α) (k : Tr α → β) : β := @Tr.rec α (fun _ => β) (k (.node none .nil .nil .nil .nil .nil x .nil .nil)) (fun v a0 a1 a2 a3 a4 _ a6 a7 _ _ _ _ _ _ _ _ => k (.node v a0 a1 a2 a3 a4 x a6 a7)) t
def Tr.s6 {α β : Type} (t x : Tr α) (k : Tr α → β) : β := @Tr.rec α (fun _ => β) (k (.node none .nil .nil .nil .nil .nil .nil x .nil)) (fun v a0 a1 a2 a3 a4 a5 _ a7 _ _ _ _ _ _ _ _ => k (.node v a0 a1 a2 a3 a4 a5 x a7)) t
def Tr.s7 {α β : Type} (t x : Tr α) (k : Tr α → β) : β := @Tr.rec α (fun _ => β) (k (.node none .nil .nil .nil .nil .nil .nil .nil x)) (fun v a0 a1 a2 a3 a4 a5 a6 _ _ _ _ _ _ _ _ _ => k (.node v a0 a1 a2 a3 a4 a5 a6 x)) t
def Tr.setc {α β : Type} (d : D8) (t x : Tr α) (k : Tr α → β) : β := @D8.rec (fun _ => Tr α → Tr α → (Tr α → β) → β) Tr.s0 Tr.s1 Tr.s2 Tr.s3 Tr.s4 Tr.s5 Tr.s6 Tr.s7 d t x k
def Tr.putr {α β : Type} (t : Tr α) (v : Option α) (k : Tr α → β) : β := @Tr.rec α (fun _ => β) (k (.node v .nil .nil .nil .nil .nil .nil .nil .nil)) (fun _ a0 a1 a2 a3 a4 a5 a6 a7 _ _ _ _ _ _ _ _ => k (.node v a0 a1 a2 a3 a4 a5 a6 a7)) t
def Tr.getP {α : Type} (p : List D8) : Tr α → Option α := @List.rec D8 (fun _ => Tr α → Option α) Tr.root (fun d _ ih t => ih (Tr.child d t)) p
def Tr.insP {α β : Type} (p : List D8) : Tr α → Option α → (Tr α → β) → β := @List.rec D8 (fun _ => Tr α → Option α → (Tr α → β) → β) Tr.putr (fun d _ ih t v k => ih (Tr.child d t) v (fun x => Tr.setc d t x k)) p
def Tr.get {α : Type} (t : Tr α) (n : Nat) : Option α := Tr.getP (digs n) t
def Tr.insF {α β : Type} (_f : Nat) (t : Tr α) (n : Nat) (v : Option α) (k : Tr α → β) : β := Tr.insP (digs n) t v k
def Tr.insK {α β : Type} (f : Nat) (t : Tr α) (n : Nat) (v : Option α) (k : Tr α → β) : β := Tr.insF f t n v k
def Tr.ins {α : Type} (t : Tr α) (n : Nat) (v : Option α) : Tr α := Tr.insF 40 t n v (fun t => t)
theorem D8.of_inj : ∀ {a b : Nat}, a < 8 → b < 8 → D8.of a = D8.of b → a = b := by
 have : ∀ a : Fin 8, ∀ b : Fin 8, D8.of a.val = D8.of b.val → a = b := by
  intro a b h
  match a, b with
  | 0, 0 => rfl
  | 0, 1 => cases h
  | 0, 2 => cases h
  | 0, 3 => cases h
  | 0, 4 => cases h
  | 0, 5 => cases h
  | 0, 6 => cases h
  | 0, 7 => cases h
  | 1, 0 => cases h
  | 1, 1 => rfl
  | 1, 2 => cases h
  | 1, 3 => cases h
  | 1, 4 => cases h
  | 1, 5 => cases h
  | 1, 6 => cases h
  | 1, 7 => cases h
  | 2, 0 => cases h
  | 2, 1 => cases h
  | 2, 2 => rfl
  | 2, 3 => cases h
  | 2, 4 => cases h
  | 2, 5 => cases h
  | 2, 6 => cases h
  | 2, 7 => cases h
  | 3, 0 => cases h
  | 3, 1 => cases h
  | 3, 2 => cases h
  | 3, 3 => rfl
  | 3, 4 => cases h
  | 3, 5 => cases h
  | 3, 6 => cases h
  | 3, 7 => cases h
  | 4, 0 => cases h
  | 4, 1 => cases h
  | 4, 2 => cases h
  | 4, 3 => cases h
  | 4, 4 => rfl
  | 4, 5 => cases h
  | 4, 6 => cases h
  | 4, 7 => cases h
  | 5, 0 => cases h
  | 5, 1 => cases h
  | 5, 2 => cases h
  | 5, 3 => cases h
  | 5, 4 => cases h
  | 5, 5 => rfl
  | 5, 6 => cases h
  | 5, 7 => cases h
  | 6, 0 => cases h
  | 6, 1 => cases h
  | 6, 2 => cases h
  | 6, 3 => cases h
  | 6, 4 => cases h
  | 6, 5 => cases h
  | 6, 6 => rfl
  | 6, 7 => cases h
  | 7, 0 => cases h
  | 7, 1 => cases h
  | 7, 2 => cases h
  | 7, 3 => cases h
  | 7, 4 => cases h
  | 7, 5 => cases h
  | 7, 6 => cases h
  | 7, 7 => rfl
 intro a b ha hb h
 exact Fin.val_eq_of_eq (this ⟨a, ha⟩ ⟨b, hb⟩ h)
theorem digsF_zero (f : Nat) : digsF (f + 1) 0 = [] := rfl
theorem digsF_succ (f n : Nat) : digsF (f + 1) (n + 1) = D8.of (n % 8) :: digsF f (n / 8) := rfl
theorem digsF_inj : ∀ (f g a b : Nat), a < f → b < g → digsF f a = digsF g b → a = b
 | 0, _, _, _, h, _, _ => absurd h (Nat.not_lt_zero _)
 | _ + 1, 0, _, _, _, h, _ => absurd h (Nat.not_lt_zero _)
 | f + 1, g + 1, 0, 0, _, _, _ => rfl
 | f + 1, g + 1, 0, b + 1, _, _, h => by rw [digsF_zero, digsF_succ] at h; cases h
 | f + 1, g + 1, a + 1, 0, _, _, h => by rw [digsF_zero, digsF_succ] at h; cases h
 | f + 1, g + 1, a + 1, b + 1, h1, h2, h => by
  rw [digsF_succ, digsF_succ] at h
  injection h with h3 h4
  have h5 := D8.of_inj (Nat.mod_lt _ (by decide)) (Nat.mod_lt _ (by decide)) h3
  have h6 := digsF_inj f g (a / 8) (b / 8) (by omega) (by omega) h4
  omega
theorem digs_inj {a b : Nat} (h : digs a = digs b) : a = b := digsF_inj _ _ a b (Nat.lt_succ_self a) (Nat.lt_succ_self b) h
section
variable {α β : Type}
theorem Tr.setc_eq (d : D8) (t x : Tr α) (k : Tr α → β) : Tr.setc d t x k = k (Tr.setc d t x (fun t => t)) := by cases d <;> cases t <;> rfl
theorem Tr.putr_eq (t : Tr α) (v : Option α) (k : Tr α → β) : Tr.putr t v k = k (Tr.putr t v (fun t => t)) := by cases t <;> rfl
theorem Tr.insP_eq {α : Type} : ∀ {β : Type} (p : List D8) (t : Tr α) (v : Option α) (k : Tr α → β), Tr.insP p t v k = k (Tr.insP p t v (fun t => t))
 | _, [], t, v, k => Tr.putr_eq t v k
 | _, d :: p, t, v, k => by
  show Tr.insP p (Tr.child d t) v (fun x => Tr.setc d t x k) = k (Tr.insP p (Tr.child d t) v (fun x => Tr.setc d t x (fun t => t)))
  rw [Tr.insP_eq p _ v (fun x => Tr.setc d t x k), Tr.insP_eq p _ v (fun x => Tr.setc d t x (fun t => t)), Tr.setc_eq]
theorem Tr.child_setc_same (d : D8) (t x : Tr α) : Tr.child d (Tr.setc d t x (fun t => t)) = x := by cases d <;> cases t <;> rfl
theorem Tr.child_setc_ne {d e : D8} (h : d ≠ e) (t x : Tr α) : Tr.child d (Tr.setc e t x (fun t => t)) = Tr.child d t := by cases d <;> cases e <;> first | exact absurd rfl h | (cases t <;> rfl)
theorem Tr.root_setc (d : D8) (t x : Tr α) : Tr.root (Tr.setc d t x (fun t => t)) = Tr.root t := by cases d <;> cases t <;> rfl
theorem Tr.root_putr (t : Tr α) (v : Option α) : Tr.root (Tr.putr t v (fun t => t)) = v := by cases t <;> rfl
theorem Tr.child_putr (d : D8) (t : Tr α) (v : Option α) : Tr.child d (Tr.putr t v (fun t => t)) = Tr.child d t := by cases d <;> cases t <;> rfl
theorem Tr.getP_nil : ∀ (p : List D8), Tr.getP p (.nil : Tr α) = none
 | [] => rfl
 | d :: p => by show Tr.getP p (Tr.child d .nil) = none; cases d <;> exact Tr.getP_nil p
open Classical in
theorem Tr.getP_insP : ∀ (p q : List D8) (t : Tr α) (v : Option α), Tr.getP q (Tr.insP p t v (fun t => t)) = if q = p then v else Tr.getP q t
 | [], [], t, v => by rw [if_pos rfl]; exact Tr.root_putr t v
 | [], d :: q, t, v => by
  rw [if_neg (by simp)]
  show Tr.getP q (Tr.child d (Tr.putr t v fun t => t)) = Tr.getP q (Tr.child d t)
  rw [Tr.child_putr]
 | d :: p, [], t, v => by
  rw [if_neg (by simp)]
  show Tr.root (Tr.insP p (Tr.child d t) v (fun x => Tr.setc d t x (fun t => t))) = Tr.root t
  rw [Tr.insP_eq, Tr.root_setc]
 | d :: p, e :: q, t, v => by
  show Tr.getP q (Tr.child e (Tr.insP p (Tr.child d t) v (fun x => Tr.setc d t x (fun t => t)))) = if e :: q = d :: p then v else Tr.getP q (Tr.child e t)
  rw [Tr.insP_eq]
  by_cases h : e = d
  ·subst h
   rw [Tr.child_setc_same, Tr.getP_insP p q]
   by_cases hq : q = p
   ·subst hq; rw [if_pos rfl, if_pos rfl]
   ·rw [if_neg hq, if_neg (fun e => hq (List.cons.inj e).2)]
  ·rw [Tr.child_setc_ne h, if_neg (fun e => h (List.cons.inj e).1)]
theorem Tr.get_nil (n : Nat) : Tr.get (.nil : Tr α) n = none := Tr.getP_nil _
theorem Tr.insK_eq (f : Nat) (t : Tr α) (n : Nat) (v : Option α) (k : Tr α → β) : Tr.insK f t n v k = k (Tr.insK f t n v id) := Tr.insP_eq _ _ _ _
theorem Tr.insF_eq (f : Nat) (t : Tr α) (n : Nat) (v : Option α) (k : Tr α → β) : Tr.insF f t n v k = Tr.insK f t n v k := rfl
theorem Tr.get_ins_all (t : Tr α) (n : Nat) (v : Option α) (m : Nat) : Tr.get (t.ins n v) m = if m = n then v else Tr.get t m := by
 show Tr.getP (digs m) (Tr.insP (digs n) t v fun t => t) = _
 rw [Tr.getP_insP]
 by_cases h : m = n
 ·subst h; rw [if_pos rfl, if_pos rfl]
 ·rw [if_neg h, if_neg (fun e => h (digs_inj e))]; rfl
theorem Tr.get_ins_eq {t : Tr α} {n : Nat} {v : Option α} (m : Nat) (_h : n ≤ 1000000) : Tr.get (t.ins n v) m = if m = n then v else Tr.get t m := Tr.get_ins_all t n v m
theorem Tr.get_ins {t : Tr α} {n : Nat} {v : Option α} {m : Nat} {y : α} (h : Tr.get (t.ins n v) m = some y) : (m = n ∧ v = some y) ∨ (m ≠ n ∧ Tr.get t m = some y) := by
 rw [Tr.get_ins_all] at h
 by_cases e : m = n
 ·rw [if_pos e] at h; exact .inl ⟨e, h⟩
 ·rw [if_neg e] at h; exact .inr ⟨e, h⟩
theorem Tr.get_insK (f : Nat) (t : Tr α) (n : Nat) (v : Option α) (m : Nat) (y : α) (h : Tr.get (Tr.insK f t n v id) m = some y) : (m = n ∧ v = some y) ∨ (m ≠ n ∧ Tr.get t m = some y) := Tr.get_ins (t := t) h
end
end
end Go.Z
end

section
namespace Go.Z
open Go.X
open Go.RowKit
abbrev Ren := Nat → Option (Nat × Nat)
def Ren.le (ρ ρ' : Ren) : Prop := ∀ n x, ρ n = some x → ρ' n = some x
theorem Ren.le_refl (ρ : Ren) : ρ.le ρ := fun _ _ h => h
theorem Ren.le_trans {a b c : Ren} (h : a.le b) (k : b.le c) : a.le c := fun n x hx => k n x (h n x hx)
def u64N (k : Int) : Nat := (k % 18446744073709551616).toNat
def xkN (k : Int) : Nat := u64N k ^^^ 9223372036854775808
def sval (t : Nat) (k : Int) (j : Nat) : Value := match j / 8, j % 8 with
 | 0, 0 => .int .u16 t
 | 0, 1 => .int .u16 (t / 256 : Nat)
 | 0, 2 => .int .u8 (t / 256 : Nat)
 | 0, 3 => .int .u8 (t % 256 : Nat)
 | 0, 4 => .int .i64 k
 | 0, 5 => .int .u64 (u64N k)
 | 1, s => .int .u64 (xkN k / 256 ^ s : Nat)
 | 2, s => .int .u8 (xkN k / 256 ^ s % 256 : Nat)
 | 3, s => .int .u64 (xkN k / 256 ^ s % 256 : Nat)
 | 4, s => .int .u64 (xkN k / 256 ^ s * 256 % 18446744073709551616 : Nat)
 | 5, s => .int .u8 (9 * (k.toNat % 29) + s : Nat)
 | 6, s => .int .u8 (9 * (k.toNat % 29) + (8 + s) : Nat)
 | _, _ => .int .u8 (j / 32 % 32 * (k.toNat % 86) + j % 32 : Nat)
def mate (i : Nat) : Nat := if i % 2 = 0 then i + 1 else i - 1
def xor1 (k : Int) : Int := if k % 2 = 0 then k + 1 else k - 1
def gbase (g : Nat) : Nat := 16384 * (g + 1)
class SigOk (σ : Nat → Nat → Value) : Prop where
 ex : ∃ (T : Nat → Nat) (K : Nat → Int), (∀ i, T i < 65536) ∧ (∀ i, -9223372036854775808 ≤ K i ∧ K i < 9223372036854775808) ∧ (∀ i j, σ i j = sval (T i) (K i) j) ∧
  (∀ i k, i / 16 = k / 16 → i % 16 < k % 16 → k % 16 < i / 16 % 16 → T i < T k ∧ K i < K k) ∧ (∀ i, i / 16 = 242 ∨ i / 16 = 226 → i % 16 < 2 → K (mate i) = xor1 (K i)) ∧ (∀ g, 0 ≤ K (gbase g) ∧ K (gbase g) ≤ 40)

def plain : Value → Bool
 | .bool _ | .int _ _ | .float _ _ | .string _ | .pointer none | .slice none _ _ | .map none | .chan none | .nilFunc | .nilIface => true
 | _ => false
def glen (σ : Nat → Nat → Value) (g : Nat) : Nat := match σ (gbase g) 4 with
 | .int _ k => k.toNat
 | _ => 0
def gtag (σ : Nat → Nat → Value) (i : Nat) : Int := match σ i 0 with
 | .int _ t => t
 | _ => 0
def gtags (σ : Nat → Nat → Value) (g : Nat) : List Int := (List.range (glen σ g)).map fun p => gtag σ (gbase g + 256 * (p + 1))
def GAt (σ : Nat → Nat → Value) (ρ : Ren) (n g : Nat) (base : Option Addr) (c : Nat) : Prop := glen σ g = 0 ∨ ∃ b off, base = some ⟨b, off, none⟩ ∧ ρ n = some (b, c) ∧ ρ (n + 1) = some (b, off)
theorem GAt.mono {σ : Nat → Nat → Value} {ρ ρ' : Ren} (h : ρ.le ρ') {n g : Nat} {base : Option Addr} {c : Nat} : GAt σ ρ n g base c → GAt σ ρ' n g base c
 | .inl h => .inl h
 | .inr ⟨b, off, e, h1, h2⟩ => .inr ⟨b, off, e, h _ _ h1, h _ _ h2⟩
mutual
inductive Rep (σ : Nat → Nat → Value) (ρ : Ren) : Value → Value → Prop
 | plain {x : Value} : plain x = true → Rep σ ρ x x
 | ptr {n b c off : Nat} : ρ n = some (b, c) → Rep σ ρ (.pointer (some ⟨n, off, none⟩)) (.pointer (some ⟨b, off, none⟩))
 | sl {n b c off len cap : Nat} : ρ n = some (b, c) → Rep σ ρ (.slice (some ⟨n, off, none⟩) len cap) (.slice (some ⟨b, off, none⟩) len cap)
 | gr {n b c off off' k len z : Nat} : ρ n = some (b, c) → (off' = off ∨ (c ≤ k ∧ len = 0)) → Rep σ ρ (.slice (some ⟨n, off, some k⟩) len z) (.slice (some ⟨b, off', none⟩) len (c - k))
 | map {n b c : Nat} : ρ n = some (b, c) → Rep σ ρ (.map (some n)) (.map (some b))
 | chan {n b c : Nat} : ρ n = some (b, c) → Rep σ ρ (.chan (some n)) (.chan (some b))
 | fn {f : FuncId} {a a' c c' : List Value} : RepL σ ρ a a' → RepL σ ρ c c' → Rep σ ρ (.func (.func f) a.toArray c.toArray) (.func (.func f) a'.toArray c'.toArray)
 | iface {t : TypeId} {v v' : Value} : Rep σ ρ v v' → Rep σ ρ (.iface t v) (.iface t v')
 | agg {c c' : List Value} : RepL σ ρ c c' → Rep σ ρ (.agg c.toArray) (.agg c'.toArray)
 | tup {c c' : List Value} : RepL σ ρ c c' → Rep σ ρ (.tuple c.toArray) (.tuple c'.toArray)
 | sym {i j : Nat} : plain (σ i j) = true → Rep σ ρ (.complex .f64 i j) (σ i j)
 /-- a slice that lies somewhere: its length is known; n: its capacity, n + 1: where it begins -/
 | fs {n b c off len : Nat} : ρ n = some (b, c) → ρ (n + 1) = some (b, off) → Rep σ ρ (.complex .f32 n len) (.slice (some ⟨b, off, none⟩) len c)
 | fp {n b off i : Nat} : ρ n = some (b, off) → Rep σ ρ (.pointer (some ⟨n, i, some 0⟩)) (.pointer (some ⟨b, off + i, none⟩))
 /-- a string of bytes of which some are symbols -/
 | str {c : List Value} {bs : List UInt8} : RepL σ ρ c (bs.map fun b => .int .u8 b.toNat) → Rep σ ρ (.func (.yield 0) ⟨c⟩ #[]) (.string ⟨⟨bs⟩⟩)
 /-- a label that is a ghost -/
 | gs {n g c : Nat} {base : Option Addr} : GAt σ ρ n g base c → Rep σ ρ (.func (.yield 1) ⟨[.int .i64 (.ofNat n), .int .i64 (.ofNat g)]⟩ #[]) (.slice base (glen σ g) c)
inductive RepL (σ : Nat → Nat → Value) (ρ : Ren) : List Value → List Value → Prop
 | nil : RepL σ ρ [] []
 | cons {x y : Value} {l m : List Value} : Rep σ ρ x y → RepL σ ρ l m → RepL σ ρ (x :: l) (y :: m)
end
section
variable {σ : Nat → Nat → Value} {ρ ρ' : Ren}
mutual
theorem Rep.mono (h : ρ.le ρ') : ∀ {x y : Value}, Rep σ ρ x y → Rep σ ρ' x y
 | _, _, .plain p => .plain p
 | _, _, .ptr e => .ptr (h _ _ e)
 | _, _, .sl e => .sl (h _ _ e)
 | _, _, .gr e o => .gr (h _ _ e) o
 | _, _, .map e => .map (h _ _ e)
 | _, _, .chan e => .chan (h _ _ e)
 | _, _, .fn a c => .fn (RepL.mono h a) (RepL.mono h c)
 | _, _, .iface v => .iface (Rep.mono h v)
 | _, _, .agg c => .agg (RepL.mono h c)
 | _, _, .tup c => .tup (RepL.mono h c)
 | _, _, .sym p => .sym p
 | _, _, .fs e g => .fs (h _ _ e) (h _ _ g)
 | _, _, .fp e => .fp (h _ _ e)
 | _, _, .str a => .str (RepL.mono h a)
 | _, _, .gs a => .gs (a.mono h)
theorem RepL.mono (h : ρ.le ρ') : ∀ {x y : List Value}, RepL σ ρ x y → RepL σ ρ' x y
 | _, _, .nil => .nil
 | _, _, .cons a b => .cons (Rep.mono h a) (RepL.mono h b)
end
theorem RepL.length : ∀ {l m : List Value}, RepL σ ρ l m → l.length = m.length
 | _, _, .nil => rfl
 | _, _, .cons _ t => by simp [RepL.length t]
theorem RepL.get : ∀ {l m : List Value}, RepL σ ρ l m → ∀ {i : Nat} {x : Value}, l[i]? = some x → ∃ y, m[i]? = some y ∧ Rep σ ρ x y
 | _, _, .nil, i, x, h => by simp at h
 | _, _, .cons a t, 0, x, h => by simp at h; subst h; exact ⟨_, rfl, a⟩
 | _, _, .cons a t, i + 1, x, h => by
  obtain ⟨y, hy, hr⟩ := RepL.get t (i := i) (x := x) (by simpa using h)
  exact ⟨y, by simpa using hy, hr⟩
theorem RepL.append : ∀ {l m l' m' : List Value}, RepL σ ρ l m → RepL σ ρ l' m' → RepL σ ρ (l ++ l') (m ++ m')
 | _, _, _, _, .nil, k => k
 | _, _, _, _, .cons a t, k => .cons a (RepL.append t k)
theorem RepL.take : ∀ {l m : List Value}, RepL σ ρ l m → ∀ n, RepL σ ρ (l.take n) (m.take n)
 | _, _, _, 0 => .nil
 | _, _, .nil, n + 1 => .nil
 | _, _, .cons a t, n + 1 => .cons a (RepL.take t n)
theorem RepL.drop : ∀ {l m : List Value}, RepL σ ρ l m → ∀ n, RepL σ ρ (l.drop n) (m.drop n)
 | _, _, h, 0 => h
 | _, _, .nil, n + 1 => .nil
 | _, _, .cons a t, n + 1 => RepL.drop t n
theorem RepL.setAt : ∀ {l m : List Value}, RepL σ ρ l m → ∀ (n : Nat) {x y : List Value}, RepL σ ρ x y → RepL σ ρ (setAt l n x) (setAt m n y)
 | _, _, .nil, n, _, _, .nil => by cases n <;> exact .nil
 | _, _, .cons a t, n, _, _, .nil => by cases n <;> exact .cons a t
 | _, _, .nil, n, _, _, .cons _ _ => by cases n <;> exact .nil
 | _, _, .cons a t, 0, _, _, .cons b u => .cons b (RepL.setAt t 0 u)
 | _, _, .cons a t, n + 1, _, _, .cons b u => .cons a (RepL.setAt t n (.cons b u))
theorem RepL.plain : ∀ {l : List Value}, (∀ x ∈ l, Z.plain x = true) → RepL σ ρ l l
 | [], _ => .nil
 | x :: l, h => .cons (.plain (h x (by simp))) (RepL.plain fun y hy => h y (by simp [hy]))
theorem Rep.of_plain {x y : Value} (h : Rep σ ρ x y) (hp : Z.plain x = true) : y = x := by
 cases h <;> first | rfl | cases hp
theorem RepL.of_plain : ∀ {l m : List Value}, RepL σ ρ l m → (∀ x ∈ l, Z.plain x = true) → m = l
 | _, _, .nil, _ => rfl
 | _, _, .cons a t, h => by rw [Rep.of_plain a (h _ (by simp)), RepL.of_plain t fun y hy => h y (by simp [hy])]
theorem Rep.bool {b : Bool} {y : Value} (h : Rep σ ρ (.bool b) y) : y = .bool b := h.of_plain rfl
theorem Rep.int {k : IntKind} {n : Int} {y : Value} (h : Rep σ ρ (.int k n) y) : y = .int k n := h.of_plain rfl
theorem Rep.string {s : ByteArray} {y : Value} (h : Rep σ ρ (.string s) y) : y = .string s := h.of_plain rfl
theorem Rep.ptr_inv {n off : Nat} {y : Value} (h : Rep σ ρ (.pointer (some ⟨n, off, none⟩)) y) : ∃ b c, ρ n = some (b, c) ∧ y = .pointer (some ⟨b, off, none⟩) := by
 cases h with
 | plain h => cases h
 | ptr h => exact ⟨_, _, h, rfl⟩
theorem Rep.sl_inv {n off len cap : Nat} {y : Value} (h : Rep σ ρ (.slice (some ⟨n, off, none⟩) len cap) y) : ∃ b c, ρ n = some (b, c) ∧ y = .slice (some ⟨b, off, none⟩) len cap := by
 cases h with
 | plain h => cases h
 | sl h => exact ⟨_, _, h, rfl⟩
theorem Rep.gr_inv {n off k len z : Nat} {y : Value} (h : Rep σ ρ (.slice (some ⟨n, off, some k⟩) len z) y) : ∃ b c off', ρ n = some (b, c) ∧ (off' = off ∨ (c ≤ k ∧ len = 0)) ∧ y = .slice (some ⟨b, off', none⟩) len (c - k) := by
 cases h with
 | plain h => cases h
 | gr h o => exact ⟨_, _, _, h, o, rfl⟩
theorem Rep.fs_inv {n len : Nat} {y : Value} (h : Rep σ ρ (.complex .f32 n len) y) : ∃ b c off, ρ n = some (b, c) ∧ ρ (n + 1) = some (b, off) ∧ y = .slice (some ⟨b, off, none⟩) len c := by
 generalize hx : (Value.complex .f32 n len) = x at h
 cases h with
 | plain h => subst hx; cases h
 | fs h g =>
  injection hx with h1 h2 h3
  subst h2; subst h3
  exact ⟨_, _, _, h, g, rfl⟩
 | _ => cases hx
theorem Rep.fp_inv {n i : Nat} {y : Value} (h : Rep σ ρ (.pointer (some ⟨n, i, some 0⟩)) y) : ∃ b off, ρ n = some (b, off) ∧ y = .pointer (some ⟨b, off + i, none⟩) := by
 cases h with
 | plain h => cases h
 | fp h => exact ⟨_, _, h, rfl⟩
theorem Rep.map_inv {n : Nat} {y : Value} (h : Rep σ ρ (.map (some n)) y) : ∃ b c, ρ n = some (b, c) ∧ y = .map (some b) := by
 cases h with
 | plain h => cases h
 | map h => exact ⟨_, _, h, rfl⟩
theorem Rep.chan_inv {n : Nat} {y : Value} (h : Rep σ ρ (.chan (some n)) y) : ∃ b c, ρ n = some (b, c) ∧ y = .chan (some b) := by
 cases h with
 | plain h => cases h
 | chan h => exact ⟨_, _, h, rfl⟩
theorem Rep.agg_inv {c : Array Value} {y : Value} (h : Rep σ ρ (.agg c) y) : ∃ c', y = .agg c' ∧ RepL σ ρ c.toList c'.toList := by
 cases h with
 | plain h => cases h
 | agg h => exact ⟨_, rfl, by simpa using h⟩
theorem Rep.tup_inv {c : Array Value} {y : Value} (h : Rep σ ρ (.tuple c) y) : ∃ c', y = .tuple c' ∧ RepL σ ρ c.toList c'.toList := by
 cases h with
 | plain h => cases h
 | tup h => exact ⟨_, rfl, by simpa using h⟩
theorem Rep.fn_inv {f : FuncId} {a c : Array Value} {y : Value} (h : Rep σ ρ (.func (.func f) a c) y) : ∃ a' c', y = .func (.func f) a' c' ∧ RepL σ ρ a.toList a'.toList ∧ RepL σ ρ c.toList c'.toList := by
 cases h with
 | plain h => cases h
 | fn h k => exact ⟨_, _, rfl, by simpa using h, by simpa using k⟩
theorem Rep.str_inv {c : List Value} {a : Array Value} {y : Value} (h : Rep σ ρ (.func (.yield 0) ⟨c⟩ a) y) : ∃ bs : List UInt8, y = .string ⟨⟨bs⟩⟩ ∧ RepL σ ρ c (bs.map fun b => .int .u8 b.toNat) := by
 cases h with
 | plain h => cases h
 | str h => exact ⟨_, rfl, h⟩
theorem Rep.gs_inv {n g : Nat} {a : Array Value} {y : Value} (h : Rep σ ρ (.func (.yield 1) ⟨[.int .i64 (.ofNat n), .int .i64 (.ofNat g)]⟩ a) y) : ∃ base c, y = .slice base (glen σ g) c ∧ GAt σ ρ n g base c := by
 cases h with
 | plain h => cases h
 | gs h => exact ⟨_, _, rfl, h⟩
theorem Rep.agg_mk {c c' : Array Value} (h : RepL σ ρ c.toList c'.toList) : Rep σ ρ (.agg c) (.agg c') := by
 have := Rep.agg (σ := σ) (ρ := ρ) h; simpa using this
theorem Rep.tup_mk {c c' : Array Value} (h : RepL σ ρ c.toList c'.toList) : Rep σ ρ (.tuple c) (.tuple c') := by
 have := Rep.tup (σ := σ) (ρ := ρ) h; simpa using this
theorem Rep.cells {x y : Value} (h : Rep σ ρ x y) : RepL σ ρ x.cells.toList y.cells.toList := by
 cases h with
 | agg h => simpa [Value.cells] using h
 | plain hp =>
  cases x <;> first | exact .cons (.plain hp) .nil | cases hp
 | ptr h => exact .cons (.ptr h) .nil
 | sl h => exact .cons (.sl h) .nil
 | gr h o => exact .cons (.gr h o) .nil
 | map h => exact .cons (.map h) .nil
 | chan h => exact .cons (.chan h) .nil
 | fn a c => exact .cons (.fn a c) .nil
 | iface v => exact .cons (.iface v) .nil
 | tup c => exact .cons (.tup c) .nil
 | fs e g => exact .cons (.fs e g) .nil
 | fp e => exact .cons (.fp e) .nil
 | str a => exact .cons (.str a) .nil
 | gs a => exact .cons (.gs a) .nil
 | @sym i j hp =>
  have : (σ i j).cells.toList = [σ i j] := by
   revert hp
   cases σ i j <;> first | (intro _; rfl) | (intro hp; cases hp)
  rw [this]
  exact .cons (.sym hp) .nil
end
inductive HO where
 | cells (t : TypeId) (l : List Value)
 /-- a row of which so many cells are known; z: cells of one element -/
 | grown (t : TypeId) (z : Nat) (l : List Value)
 /-- cells that are only read, from a place on -/
 | ro (l : List Value)
 /-- a row out of a string: only read; its first cells -/
 | str (l : List Value)
 | map (es : List (Value × Value))
 | chan (cap : Nat) (buf : List Value)
 | dead
 /-- a row whose first cells are these, in some order -/
 | perm (t : TypeId) (l : List Value)
 /-- a map over which one goes (it: the iterator's name) -/
 | mapI (es : List (Value × Value)) (it : Nat)
 /-- an iterator over a map: which entries have come -/
 | iter (m : Nat) (vis : List Nat)
 /-- one over no map -/
 | iter0
 /-- a map with structs as keys; the entries in the map's own order -/
 | mapS (es : List (Value × Value))
 /-- the cells of a ghost; old: out of an argument -/
 | lab (old : Bool) (g : Nat)
def HO.live : HO → Bool
 | .ro _ => false
 | .dead => false
 | .lab old _ => !old
 | _ => true
def HO.elder : HO → Bool
 | .ro _ => true
 | .lab old _ => old
 | _ => false
structure MapRel (σ : Nat → Nat → Value) (ρ : Ren) (es : List (Value × Value)) (ms : List MapEntry) : Prop where
 len : es.length = ms.length
 fwd : ∀ x ∈ es, ∃ e ∈ ms, e.key = x.1 ∧ Rep σ ρ x.2 e.val
 back : ∀ e ∈ ms, ∃ v, (e.key, v) ∈ es
 plainK : ∀ x ∈ es, plain x.1 = true
 nodup : (es.map (·.1)).Nodup
 nodupM : (ms.map (·.key)).Nodup
structure Born (ms : List MapEntry) (clock : Nat) : Prop where
 lt : ∀ e ∈ ms, e.born < clock
 nd : (ms.map (·.born)).Nodup
theorem Born.nil {c : Nat} : Born [] c := ⟨by simp, by simp⟩
theorem Born.push {ms : List MapEntry} {c : Nat} (h : Born ms c) (k v : Value) : Born (ms ++ [{ key := k, val := v, born := c }]) (c + 1) := by
 refine ⟨fun e he => ?_, ?_⟩
 ·rcases List.mem_append.1 he with he | he
  ·exact Nat.lt_succ_of_lt (h.lt e he)
  ·simp only [List.mem_singleton] at he; subst he; exact Nat.lt_succ_self _
 ·rw [List.map_append]
  refine List.nodup_append.2 ⟨h.nd, by simp, fun a ha b hb hab => ?_⟩
  simp only [List.map_cons, List.map_nil, List.mem_singleton] at hb
  obtain ⟨e, he, rfl⟩ := List.mem_map.1 ha
  have := h.lt e he
  rw [hab, hb] at this
  exact Nat.lt_irrefl _ this
theorem Born.sub {ms ms' : List MapEntry} {c : Nat} (h : Born ms c) (hs : ms'.Sublist ms) : Born ms' c := ⟨fun e he => h.lt e (hs.mem he), h.nd.sublist (hs.map _)⟩
theorem born_modify (k v : Value) : ∀ (ms : List MapEntry) (j : Nat), (ms.modify j fun e => { e with key := k, val := v }).map (·.born) = ms.map (·.born)
 | [], _ => by simp
 | _ :: _, 0 => rfl
 | e :: ms, j + 1 => by
  rw [List.modify_succ_cons, List.map_cons, List.map_cons, born_modify k v ms j]
theorem Born.modify {ms : List MapEntry} {c : Nat} (h : Born ms c) (j : Nat) (k v : Value) : Born (ms.modify j fun e => { e with key := k, val := v }) c := by
 refine ⟨fun e he => ?_, by rw [born_modify]; exact h.nd⟩
 have : e.born ∈ (ms.modify j fun e => { e with key := k, val := v }).map (·.born) := List.mem_map.2 ⟨e, he, rfl⟩
 rw [born_modify] at this
 obtain ⟨e', he', hb⟩ := List.mem_map.1 this
 rw [← hb]
 exact h.lt e' he'
def code : List Nat → Nat
 | [] => 0
 | a :: l => 2 ^ a * (2 * code l + 1)
theorem pow_odd : ∀ {a b x y : Nat}, 2 ^ a * (2 * x + 1) = 2 ^ b * (2 * y + 1) → a = b ∧ x = y
 | 0, 0, x, y, h => ⟨rfl, by simp at h; omega⟩
 | 0, b + 1, x, y, h => by
  rw [Nat.pow_succ, Nat.mul_comm (2 ^ b) 2, Nat.mul_assoc] at h
  simp only [Nat.pow_zero, Nat.one_mul] at h
  omega
 | a + 1, 0, x, y, h => by
  rw [Nat.pow_succ, Nat.mul_comm (2 ^ a) 2, Nat.mul_assoc] at h
  simp only [Nat.pow_zero, Nat.one_mul] at h
  omega
 | a + 1, b + 1, x, y, h => by
  rw [Nat.pow_succ, Nat.mul_comm (2 ^ a) 2, Nat.mul_assoc, Nat.pow_succ, Nat.mul_comm (2 ^ b) 2, Nat.mul_assoc] at h
  have := pow_odd (a := a) (b := b) (x := x) (y := y) (by omega)
  exact ⟨by omega, this.2⟩
theorem code_inj : ∀ {l m : List Nat}, code l = code m → l = m
 | [], [], _ => rfl
 | [], b :: m, h => by
  have : 0 < 2 ^ b * (2 * code m + 1) := Nat.mul_pos (Nat.pow_pos (by omega)) (by omega)
  simp only [code] at h
  omega
 | a :: l, [], h => by
  have : 0 < 2 ^ a * (2 * code l + 1) := Nat.mul_pos (Nat.pow_pos (by omega)) (by omega)
  simp only [code] at h
  omega
 | a :: l, b :: m, h => by
  obtain ⟨h1, h2⟩ := pow_odd (show 2 ^ a * (2 * code l + 1) = 2 ^ b * (2 * code m + 1) from h)
  rw [h1, code_inj h2]
structure Births (σ : Nat → Nat → Value) (ρ : Ren) (es : List (Value × Value)) (ms : List MapEntry) (bs : List Nat) : Prop where
 len : bs.length = es.length
 at' : ∀ (i : Nat) (x : Value × Value), es[i]? = some x → ∃ e ∈ ms, e.key = x.1 ∧ Rep σ ρ x.2 e.val ∧ bs[i]? = some e.born
inductive EntL (σ : Nat → Nat → Value) (ρ : Ren) : List (Value × Value) → List MapEntry → Prop
 | nil : EntL σ ρ [] []
 | cons {x : Value × Value} {e : MapEntry} {es : List (Value × Value)} {ms : List MapEntry} : Rep σ ρ x.1 e.key → Rep σ ρ x.2 e.val → EntL σ ρ es ms → EntL σ ρ (x :: es) (e :: ms)
theorem EntL.mono {σ : Nat → Nat → Value} {ρ ρ' : Ren} (h : ρ.le ρ') : ∀ {es : List (Value × Value)} {ms : List MapEntry}, EntL σ ρ es ms → EntL σ ρ' es ms
 | _, _, .nil => .nil
 | _, _, .cons a b r => .cons (a.mono h) (b.mono h) (EntL.mono h r)
def ObjRel (σ : Nat → Nat → Value) (ρ : Ren) (x : Option Obj) (c : Nat) : HO → Prop
 | .cells t l => ∃ l', x = some (.cells l'.toArray t (0, 0)) ∧ RepL σ ρ l l'
 | .grown t z l => ∃ l' rest : List Value, x = some (.cells (l' ++ rest).toArray t (0, 0)) ∧ RepL σ ρ l l' ∧ (l' ++ rest).length = c * z ∧ c ≤ maxLen ∧ 0 < z
 | .ro l => ∃ (l' : List Value) (cs : Array Value) (t : TypeId) (fr : Nat × Nat), x = some (.cells cs t fr) ∧ RepL σ ρ l l' ∧ ∀ (i : Nat) (v : Value), l'[i]? = some v → cs[c + i]? = some v
 | .str l => ∃ (l' rest : List Value) (t : TypeId) (fr : Nat × Nat), x = some (.cells (l' ++ rest).toArray t fr) ∧ RepL σ ρ l l'
 | .map es => ∃ (ms : Array MapEntry) (clock : Nat), x = some (.map ms clock) ∧ MapRel σ ρ es ms.toList ∧ Born ms.toList clock
 | .chan cap buf => ∃ (buf' : List Value) (s r : Nat), x = some (.chan cap buf'.toArray false s r false) ∧ RepL σ ρ buf buf'
 | .dead => True
 | .perm t l => ∃ (l' rest : List Value), x = some (.cells (l' ++ rest).toArray t (0, 0)) ∧ l'.Perm l ∧ (∀ v ∈ l, plain v = true) ∧ (l' ++ rest).length = c ∧ c ≤ maxLen
 | .mapI es it => ∃ (ms : Array MapEntry) (clock r : Nat) (bs : List Nat), x = some (.map ms clock) ∧ MapRel σ ρ es ms.toList ∧ Born ms.toList clock ∧ ρ it = some (r, code (clock :: bs)) ∧ Births σ ρ es ms.toList bs
 | .iter m vis => ∃ (bm cm clock : Nat) (bs : List Nat), c = code (clock :: bs) ∧ x = some (.mapIter (some bm) clock (vis.map fun i => bs.getD i 0).toArray clock) ∧ ρ m = some (bm, cm) ∧ vis.Nodup ∧ ∀ i ∈ vis, i < bs.length
 | .iter0 => x = some (.mapIter none 0 #[] 0)
 | .mapS es => ∃ (ms : Array MapEntry) (clock : Nat), x = some (.map ms clock) ∧ EntL σ ρ es ms.toList
 | .lab _ g => ∃ (cs : Array Value) (t : TypeId) (fr : Nat × Nat), x = some (.cells cs t fr) ∧ (∀ (i : Nat) (u : Int), (gtags σ g)[i]? = some u → cs[c + i]? = some (.int .u16 u)) ∧ ∀ u ∈ gtags σ g, 0 ≤ u ∧ u < 65536
theorem Births.mono {σ : Nat → Nat → Value} {ρ ρ' : Ren} (h : ρ.le ρ') {es : List (Value × Value)} {ms : List MapEntry} {bs : List Nat} (k : Births σ ρ es ms bs) : Births σ ρ' es ms bs :=
 ⟨k.len, fun i x hx => (let ⟨e, he, h1, h2, h3⟩ := k.at' i x hx; ⟨e, he, h1, h2.mono h, h3⟩)⟩
theorem MapRel.mono {σ : Nat → Nat → Value} {ρ ρ' : Ren} (h : ρ.le ρ') {es : List (Value × Value)} {ms : List MapEntry} (hm : MapRel σ ρ es ms) : MapRel σ ρ' es ms :=
 ⟨hm.len, fun x hx => (let ⟨e, he, hk, hv⟩ := hm.fwd x hx; ⟨e, he, hk, hv.mono h⟩), hm.back, hm.plainK, hm.nodup, hm.nodupM⟩
theorem ObjRel.mono {σ : Nat → Nat → Value} {ρ ρ' : Ren} (h : ρ.le ρ') {x : Option Obj} {c : Nat} : ∀ {o : HO}, ObjRel σ ρ x c o → ObjRel σ ρ' x c o
 | .cells _ _, ⟨l', hx, hl⟩ => ⟨l', hx, hl.mono h⟩
 | .grown _ _ _, ⟨l', r, hx, hl, k⟩ => ⟨l', r, hx, hl.mono h, k⟩
 | .ro _, ⟨l', cs, t, fr, hx, hl, k⟩ => ⟨l', cs, t, fr, hx, hl.mono h, k⟩
 | .str _, ⟨l', r, t, fr, hx, hl⟩ => ⟨l', r, t, fr, hx, hl.mono h⟩
 | .map _, ⟨ms, cl, hx, hm, k⟩ => ⟨ms, cl, hx, ⟨hm.len, fun x hx => (let ⟨e, he, hk, hv⟩ := hm.fwd x hx; ⟨e, he, hk, hv.mono h⟩), hm.back, hm.plainK, hm.nodup, hm.nodupM⟩, k⟩
 | .chan _ _, ⟨b, s, r, hx, hl⟩ => ⟨b, s, r, hx, hl.mono h⟩
 | .dead, _ => trivial
 | .perm _ _, h => h
 | .mapI _ _, ⟨ms, cl, r, bs, hx, hm, hb, hi, hB⟩ => ⟨ms, cl, r, bs, hx, hm.mono h, hb, h _ _ hi, hB.mono h⟩
 | .iter _ _, ⟨bm, cm, cl, bs, hc, hx, hr, k⟩ => ⟨bm, cm, cl, bs, hc, hx, h _ _ hr, k⟩
 | .iter0, h => h
 | .mapS _, ⟨ms, cl, hx, hm⟩ => ⟨ms, cl, hx, hm.mono h⟩
 | .lab _ _, h => h
abbrev Heap := Tr HO
def Live (h : Heap) (n : Nat) : Prop := ∃ o, h.get n = some o ∧ o.live = true
def put (w : World) (b : Nat) (o : Obj) : World := { w with heap := w.heap.setIfInBounds b o }
theorem setRow_put {w : World} {b : Nat} {old cs : Array Value} {t : TypeId} {fr : Nat × Nat} (h : w.heap[b]? = some (.cells old t fr)) : w.setRow b cs = put w b (.cells cs t fr) := by
 have hlt : b < w.heap.size := (Array.getElem?_eq_some_iff.1 h).1
 have hv : w.heap[b] = .cells old t fr := (Array.getElem?_eq_some_iff.1 h).2
 unfold World.setRow put
 congr 1
 apply Array.ext
 ·simp
 ·intro i h1 h2
  rw [Array.getElem_modify, Array.getElem_setIfInBounds (by simpa using h1)]
  by_cases e : b = i
  ·subst e
   rw [if_pos rfl, if_pos rfl, hv]
  ·rw [if_neg e, if_neg e]
theorem put_get {w : World} {b : Nat} {o : Obj} (h : b < w.heap.size) : (put w b o).heap[b]? = some o := by simp [put, h]
theorem put_ne {w : World} {b k : Nat} {o : Obj} (h : k ≠ b) : (put w b o).heap[k]? = w.heap[k]? := by
 simp [put, Array.getElem?_setIfInBounds_ne (Ne.symm h)]
theorem put_size {w : World} {b : Nat} {o : Obj} : (put w b o).heap.size = w.heap.size := by simp [put]
structure KeptZ (w w' : World) : Prop where
 os : w'.os = w.os
 tape : w'.tape = w.tape
 output : w'.output = w.output
 size : w.heap.size ≤ w'.heap.size
 block : ∀ k, k < w.heap.size → w'.heap[k]? = w.heap[k]?
theorem KeptZ.refl (w : World) : KeptZ w w := ⟨rfl, rfl, rfl, Nat.le_refl _, fun _ _ => rfl⟩
theorem KeptZ.alloc {w0 w : World} (h : KeptZ w0 w) (o : Obj) : KeptZ w0 (w.alloc o) :=
 ⟨h.os, h.tape, h.output, Nat.le_trans h.size (by simp), fun k hk => (alloc_old w o (Nat.lt_of_lt_of_le hk h.size)).trans (h.block k hk)⟩
structure WI (σ : Nat → Nat → Value) (w0 : World) (h : Heap) (ρ : Ren) (w : World) : Prop where
 rel : ∀ n b c o, ρ n = some (b, c) → h.get n = some o → ObjRel σ ρ w.heap[b]? c o
 lt : ∀ n b c, ρ n = some (b, c) → b < w.heap.size
 inj : ∀ n m b c c', ρ n = some (b, c) → ρ m = some (b, c') → Live h n → Live h m → n = m
 own : ∀ n b c, ρ n = some (b, c) → Live h n → w0.heap.size ≤ b
 old : ∀ n b c o, ρ n = some (b, c) → h.get n = some o → o.elder = true → b < w0.heap.size
 kept : KeptZ w0 w
theorem elder_not {o : HO} (h : o.elder = true) : ¬ o.live = true := by
 cases o with
 | ro l => intro h; cases h
 | lab q g => cases q with
  | false => cases h
  | true => intro h; cases h
 | _ => cases h
def Ren.add (ρ : Ren) (n b c : Nat) : Ren := fun m => if m = n then some (b, c) else ρ m
theorem Ren.add_le {ρ : Ren} {n b c : Nat} (h : ρ n = none) : ρ.le (ρ.add n b c) := fun m x hx => by
 unfold Ren.add
 split
 ·rename_i e; subst e; rw [h] at hx; cases hx
 ·exact hx
theorem Ren.add_same {ρ : Ren} {n b c : Nat} : (ρ.add n b c) n = some (b, c) := by simp [Ren.add]
section
variable {σ : Nat → Nat → Value} {w0 : World} {h h' : Heap} {ρ : Ren} {w : World}
theorem WI.drew (k : WI σ w0 h ρ w) : WI σ w0 h ρ w.drew :=
 ⟨k.rel, k.lt, k.inj, k.own, k.old, ⟨k.kept.os, k.kept.tape, k.kept.output, k.kept.size, k.kept.block⟩⟩
theorem WI.weaken' (k : WI σ w0 h ρ w) (hs : ∀ n x o, ρ n = some x → h'.get n = some o → h.get n = some o ∨ o = .dead) : WI σ w0 h' ρ w := by
 have hlive : ∀ n x, ρ n = some x → Live h' n → Live h n := fun n x hn ⟨o, ho, hl⟩ => by
  rcases hs n x o hn ho with h1 | h1
  ·exact ⟨o, h1, hl⟩
  ·subst h1; cases hl
 refine ⟨fun n b c o hn ho => ?_, k.lt, fun n m b c c' hn hm l1 l2 => k.inj n m b c c' hn hm (hlive n _ hn l1) (hlive m _ hm l2), fun n b c hn l => k.own n b c hn (hlive n _ hn l), fun n b c l hn ho hd => ?_, k.kept⟩
 ·rcases hs n _ o hn ho with h1 | h1
  ·exact k.rel n b c o hn h1
  ·subst h1; trivial
 ·rcases hs n _ _ hn ho with h1 | h1
  ·exact k.old n b c l hn h1 hd
  ·subst h1; cases hd
theorem WI.weaken (k : WI σ w0 h ρ w) (hs : ∀ n o, h'.get n = some o → h.get n = some o ∨ o = .dead) : WI σ w0 h' ρ w := k.weaken' fun n _ o _ => hs n o
theorem WI.alloc (k : WI σ w0 h ρ w) {n c : Nat} {O : Obj} (hn : ρ n = none)
  (hs : ∀ m o, m ≠ n → h'.get m = some o → h.get m = some o ∨ o = .dead) (hr : ∀ o, h'.get n = some o → o.live = true ∧ ObjRel σ (ρ.add n w.heap.size c) (some O) c o) :
  WI σ w0 h' (ρ.add n w.heap.size c) (w.alloc O) := by
 have hold : ∀ m, m ≠ n → ∀ x, (ρ.add n w.heap.size c) m = some x → ρ m = some x := fun m hm x hx => by simpa [Ren.add, hm] using hx
 have hlive : ∀ m, m ≠ n → Live h' m → Live h m := fun m hm ⟨o, ho, hl⟩ => by
  rcases hs m o hm ho with h1 | h1
  ·exact ⟨o, h1, hl⟩
  ·subst h1; cases hl
 have hw : w.heap.size ≤ (w.alloc O).heap.size := by simp
 refine ⟨fun m b d o hm hg => ?_, fun m b d hm => ?_, fun m m' b d d' hm hm' l1 l2 => ?_, fun m b d hm l => ?_, fun m b d l hm hg hd => ?_, k.kept.alloc O⟩
 ·by_cases e : m = n
  ·subst e
   rw [Ren.add_same, Option.some.injEq, Prod.mk.injEq] at hm
   obtain ⟨rfl, rfl⟩ := hm
   rw [heap_alloc_new]
   exact (hr o hg).2
  ·have hm' := hold m e _ hm
   rw [alloc_old w O (k.lt m b d hm')]
   rcases hs m o e hg with h1 | h1
   ·exact (k.rel m b d o hm' h1).mono (Ren.add_le hn)
   ·subst h1; trivial
 ·by_cases e : m = n
  ·subst e
   rw [Ren.add_same, Option.some.injEq, Prod.mk.injEq] at hm
   obtain ⟨rfl, rfl⟩ := hm
   simp
  ·exact Nat.lt_of_lt_of_le (k.lt m b d (hold m e _ hm)) hw
 ·by_cases e : m = n
  ·by_cases e' : m' = n
   ·rw [e, e']
   ·subst e
    rw [Ren.add_same, Option.some.injEq, Prod.mk.injEq] at hm
    obtain ⟨rfl, rfl⟩ := hm
    exact absurd (k.lt m' _ d' (hold m' e' _ hm')) (Nat.lt_irrefl _)
  ·by_cases e' : m' = n
   ·subst e'
    rw [Ren.add_same, Option.some.injEq, Prod.mk.injEq] at hm'
    obtain ⟨rfl, rfl⟩ := hm'
    exact absurd (k.lt m _ d (hold m e _ hm)) (Nat.lt_irrefl _)
   ·exact k.inj m m' b d d' (hold m e _ hm) (hold m' e' _ hm') (hlive m e l1) (hlive m' e' l2)
 ·by_cases e : m = n
  ·subst e
   rw [Ren.add_same, Option.some.injEq, Prod.mk.injEq] at hm
   obtain ⟨rfl, rfl⟩ := hm
   exact k.kept.size
  ·exact k.own m b d (hold m e _ hm) (hlive m e l)
 ·by_cases e : m = n
  ·subst e
   have := (hr _ hg).1
   exact absurd this (elder_not hd)
  ·rcases hs m _ e hg with h1 | h1
   ·exact k.old m b d l (hold m e _ hm) h1 hd
   ·subst h1; cases hd
theorem KeptZ.put (k : KeptZ w0 w) {b : Nat} {O : Obj} (hb : w0.heap.size ≤ b) : KeptZ w0 (Z.put w b O) := by
 refine ⟨k.os, k.tape, k.output, by rw [put_size]; exact k.size, fun i hi => ?_⟩
 rw [put_ne (by omega)]; exact k.block i hi
theorem WI.write (k : WI σ w0 h ρ w) {n b c : Nat} {O : Obj} (hn : ρ n = some (b, c)) (hl : Live h n) (ho : ∀ c t fr, O = .cells c t fr → fr = (0, 0))
  (hs : ∀ m o, m ≠ n → h'.get m = some o → h.get m = some o) (hr : ∀ o, h'.get n = some o → o.live = true ∧ ObjRel σ ρ (some O) c o) :
  WI σ w0 h' ρ (Z.put w b O) := by
 have hlive : ∀ m, Live h' m → Live h m := fun m hm => by
  by_cases e : m = n
  ·subst e; exact hl
  ·obtain ⟨o, ho, hl⟩ := hm; exact ⟨o, hs m o e ho, hl⟩
 have hb := k.own n b c hn hl
 refine ⟨fun m b' d o hm hg => ?_, fun m b' d hm => by rw [put_size]; exact k.lt m b' d hm, fun m m' b d d' hm hm' l1 l2 => k.inj m m' b d d' hm hm' (hlive m l1) (hlive m' l2), fun m b d hm l => k.own m b d hm (hlive m l), fun m b' d l hm hg hd => ?_, k.kept.put hb⟩
 ·by_cases e : m = n
  ·subst e
   rw [hn, Option.some.injEq, Prod.mk.injEq] at hm
   obtain ⟨rfl, rfl⟩ := hm
   rw [put_get (k.lt m b c hn)]
   exact (hr o hg).2
  ·have hg' := hs m o e hg
   by_cases hol : o.live = true
   ·rw [put_ne (fun eb => e (by subst eb; exact k.inj m n b' d c hm hn ⟨o, hg', hol⟩ hl))]
    exact k.rel m b' d o hm hg'
   ·cases o with
    | dead => trivial
    | ro l =>
     have := k.old m b' d _ hm hg' rfl
     rw [put_ne (by omega)]
     exact k.rel m b' d _ hm hg'
    | lab q g =>
     cases q with
     | false => exact absurd rfl hol
     | true =>
      have := k.old m b' d _ hm hg' rfl
      rw [put_ne (by omega)]
      exact k.rel m b' d _ hm hg'
    | _ => exact absurd rfl hol
 ·by_cases e : m = n
  ·subst e
   have := (hr _ hg).1
   exact absurd this (elder_not hd)
  ·exact k.old m b' d l hm (hs m _ e hg) hd
theorem WI.rename (k : WI σ w0 h ρ w) {n n' b c : Nat} {O : Obj} (hn : ρ n = some (b, c)) (hl : Live h n) (hn' : ρ n' = none) (ho : ∀ c t fr, O = .cells c t fr → fr = (0, 0))
  (hs : ∀ m o, m ≠ n' → h'.get m = some o → (m ≠ n ∧ h.get m = some o) ∨ o = .dead) (hr : ∀ o, h'.get n' = some o → o.live = true ∧ ObjRel σ (ρ.add n' b c) (some O) c o) :
  WI σ w0 h' (ρ.add n' b c) (Z.put w b O) := by
 have hb := k.own n b c hn hl
 have hle : ρ.le (ρ.add n' b c) := Ren.add_le hn'
 have hold : ∀ m, m ≠ n' → ∀ x, (ρ.add n' b c) m = some x → ρ m = some x := fun m hm x hx => by simpa [Ren.add, hm] using hx
 have away : ∀ m b' d, m ≠ n' → (ρ.add n' b c) m = some (b', d) → Live h' m → b' ≠ b ∧ ρ m = some (b', d) ∧ Live h m := fun m b' d e hm ⟨o, ho, hlo⟩ => by
  have hm' := hold m e _ hm
  rcases hs m o e ho with ⟨h1, h2⟩ | h1
  ·exact ⟨fun eb => h1 (by subst eb; exact k.inj m n b' d c hm' hn ⟨o, h2, hlo⟩ hl), hm', o, h2, hlo⟩
  ·subst h1; cases hlo
 refine ⟨fun m b' d o hm hg => ?_, fun m b' d hm => ?_, fun m m' b1 d d' hm hm' l1 l2 => ?_, fun m b' d hm l => ?_, fun m b' d l hm hg hd => ?_, k.kept.put hb⟩
 ·by_cases e : m = n'
  ·subst e
   rw [Ren.add_same, Option.some.injEq, Prod.mk.injEq] at hm
   obtain ⟨rfl, rfl⟩ := hm
   rw [put_get (k.lt n b c hn)]
   exact (hr o hg).2
  ·have hm' := hold m e _ hm
   rcases hs m o e hg with ⟨h1, h2⟩ | h1
   ·by_cases hol : o.live = true
    ·rw [put_ne (away m b' d e hm ⟨o, hg, hol⟩).1]
     exact (k.rel m b' d o hm' h2).mono hle
    ·cases o with
     | dead => trivial
     | ro l =>
      have := k.old m b' d _ hm' h2 rfl
      rw [put_ne (by omega)]
      exact (k.rel m b' d _ hm' h2).mono hle
     | lab q g =>
      cases q with
      | false => exact absurd rfl hol
      | true =>
       have := k.old m b' d _ hm' h2 rfl
       rw [put_ne (by omega)]
       exact (k.rel m b' d _ hm' h2).mono hle
     | _ => exact absurd rfl hol
   ·subst h1; trivial
 ·rw [put_size]
  by_cases e : m = n'
  ·subst e
   rw [Ren.add_same, Option.some.injEq, Prod.mk.injEq] at hm
   obtain ⟨rfl, rfl⟩ := hm
   exact k.lt n b c hn
  ·exact k.lt m b' d (hold m e _ hm)
 ·by_cases e : m = n'
  ·by_cases e' : m' = n'
   ·rw [e, e']
   ·subst e
    rw [Ren.add_same, Option.some.injEq, Prod.mk.injEq] at hm
    obtain ⟨rfl, rfl⟩ := hm
    exact absurd rfl (away m' b d' e' hm' l2).1
  ·by_cases e' : m' = n'
   ·subst e'
    rw [Ren.add_same, Option.some.injEq, Prod.mk.injEq] at hm'
    obtain ⟨rfl, rfl⟩ := hm'
    exact absurd rfl (away m b d e hm l1).1
   ·obtain ⟨_, q1, q2⟩ := away m b1 d e hm l1
    obtain ⟨_, q3, q4⟩ := away m' b1 d' e' hm' l2
    exact k.inj m m' b1 d d' q1 q3 q2 q4
 ·by_cases e : m = n'
  ·subst e
   rw [Ren.add_same, Option.some.injEq, Prod.mk.injEq] at hm
   obtain ⟨rfl, rfl⟩ := hm
   exact hb
  ·obtain ⟨_, q1, q2⟩ := away m b' d e hm l
   exact k.own m b' d q1 q2
 ·by_cases e : m = n'
  ·subst e
   have := (hr _ hg).1
   exact absurd this (elder_not hd)
  ·rcases hs m _ e hg with ⟨_, h1⟩ | h1
   ·exact k.old m b' d l (hold m e _ hm) h1 hd
   ·subst h1; cases hd
theorem Heap.ins_get {n : Nat} {o : HO} {m : Nat} {y : HO} (hm : (h.ins n (some o)).get m = some y) : (m = n ∧ y = o) ∨ (m ≠ n ∧ h.get m = some y) := by
 rcases Tr.get_ins hm with ⟨h1, h2⟩ | h1
 ·exact .inl ⟨h1, (Option.some.inj h2).symm⟩
 ·exact .inr h1
end
end Go.Z
end

section
namespace Go.Z
open Go.X
noncomputable section
def cellsOf : HO → Option (List Value)
 | .cells _ l => some l
 | .grown _ _ l => some l
 | .str l => some l
 | _ => none
def argsOf (ev : Operand → Option Value) : List Operand → Option (List Value)
 | [] => some []
 | x :: l => match ev x with
  | some v => (match argsOf ev l with | some vs => some (v :: vs) | none => none)
  | none => none
def opnds : Op → List Operand
 | .alloc _ => []
 | .ready _ => []
 | .waits _ => []
 | .move x => [x]
 | .assign x => [x]
 | .box _ x => [x]
 | .load _ x => [x]
 | .nilCheck x => [x]
 | .unOp _ _ x => [x]
 | .convert _ _ x => [x]
 | .sliceToArrayPointer _ x => [x]
 | .makeInterface _ x => [x]
 | .makeChan _ x => [x]
 | .fieldAddr _ x _ => [x]
 | .field _ x _ => [x]
 | .range _ x => [x]
 | .next x _ => [x]
 | .entry x => [x]
 | .typeAssert x _ _ _ => [x]
 | .extract x _ => [x]
 | .panic x => [x]
 | .recv _ x _ => [x]
 | .pick c a b => [c, a, b]
 | .build _ ps => ps.toList.map (·.2)
 | .buildSlice _ _ ps => ps.toList.map (·.2)
 | .store _ a v => [a, v]
 | .binOp _ _ a v _ => [a, v]
 | .makeSlice _ a v => [a, v]
 | .indexAddr _ a v => [a, v]
 | .index _ a v => [a, v]
 | .lookup _ a v _ => [a, v]
 | .mapEntry _ a v => [a, v]
 | .send a v => [a, v]
 | .makeFunc _ first captured => first.toList ++ captured.toList
 | .makeMap _ r => r.toList
 | .slice _ x l h m => x :: (l.toList ++ (h.toList ++ m.toList))
 | .mapUpdate _ m k v => [m, k, v]
 | .entryStore _ m k v => [m, k, v]
 | .insert _ m k v => [m, k, v]
 | .call c => (match c.callee with | .value f => f :: c.args.toList | .invoke r _ => r :: c.args.toList | .builtin _ => c.args.toList)
 | .go c => c.operands.toList
 | .defer c => c.operands.toList
 | .select cs b => (Op.select cs b).operands.toList
def plainD : Value → Bool
 | .agg c => c.toList.all plain
 | .tuple c => c.toList.all plain
 | v => plain v
def evalZ (env : Tr Value) : Operand → Option Value
 | .tmp t => env.get t
 | .const v => (match plainD v with | true => some v | false => none)
 | .global _ => none
 | .func f => some (.func (.func f) #[] #[])
def bytesOf (s : ByteArray) : List UInt8 := s.data.toList
def ofBytes (l : List UInt8) : ByteArray := ⟨l.toArray⟩
def eqBytes : List UInt8 → List UInt8 → Bool
 | [], [] => true
 | a :: x, b :: y => match Nat.beq a.toNat b.toNat with | true => eqBytes x y | false => false
 | _, _ => false
def ltBytes : List UInt8 → List UInt8 → Bool
 | _, [] => false
 | [], _ :: _ => true
 | a :: x, b :: y => match Nat.blt a.toNat b.toNat with
  | true => true
  | false => (match Nat.beq a.toNat b.toNat with | true => ltBytes x y | false => false)
def strOp (op : BinOp) (x y : ByteArray) : Option Value := match op with
 | .add => (match Nat.ble ((bytesOf x).length + (bytesOf y).length) 1000000 with | true => some (.string (ofBytes (bytesOf x ++ bytesOf y))) | false => none)
 | .eql => some (.bool (eqBytes (bytesOf x) (bytesOf y)))
 | .neq => some (.bool (!eqBytes (bytesOf x) (bytesOf y)))
 | .lss => some (.bool (ltBytes (bytesOf x) (bytesOf y)))
 | .leq => some (.bool (ltBytes (bytesOf x) (bytesOf y) || eqBytes (bytesOf x) (bytesOf y)))
 | .gtr => some (.bool (!(ltBytes (bytesOf x) (bytesOf y) || eqBytes (bytesOf x) (bytesOf y))))
 | .geq => some (.bool (!ltBytes (bytesOf x) (bytesOf y)))
 | _ => none
def pureP (P : Program) (s : Sem Value) : Option Value := match pureRun P s with
 | some v => (match plain v with | true => some v | false => none)
 | none => none
def asEq (op : BinOp) (b : Bool) : Option Value := match op with
 | .eql => some (.bool b)
 | .neq => some (.bool (!b))
 | _ => none
def rowB (h : Heap) (n : Nat) : Bool := match h.get n with | some (.cells _ _) => true | some (.grown _ _ _) => true | _ => false
def isPtr (P : Program) (t : TypeId) : Bool := match P.underlying t with | some (.pointer _) => true | _ => false
def isSlice (P : Program) (t : TypeId) : Bool := match P.underlying t with | some (.slice _) => true | _ => false
def isMap (P : Program) (t : TypeId) : Bool := match P.underlying t with | some (.map _ _) => true | _ => false
def isFunc (P : Program) (t : TypeId) : Bool := match P.underlying t with | some (.func _ _ _) => true | _ => false
def eqIf (c : Bool) (op : BinOp) (b : Bool) : Option Value := match c with | true => asEq op b | false => none
def sy (i j : Nat) : Value := .complex .f64 i j
def ifB (b : Bool) (v : Value) : Option Value := match b with | true => some v | false => none
def cmpSym (i j k l : Nat) : Option Nat := match Nat.beq i k, Nat.beq j l with
 | true, true => some 1
 | false, true => (match Nat.beq j 0 || Nat.beq j 4, Nat.beq (i / 16) (k / 16), Nat.blt (i % 16) (i / 16 % 16), Nat.blt (k % 16) (i / 16 % 16) with
  | true, true, true, true => (match Nat.blt (i % 16) (k % 16), Nat.blt (k % 16) (i % 16) with
   | true, _ => some 0
   | _, true => some 2
   | _, _ => none)
  | _, _, _, _ => none)
 | _, _ => none
def symSS (op : BinOp) (i j k l : Nat) : Option Value := match op, cmpSym i j k l with
 | .eql, some c => some (.bool (Nat.beq c 1))
 | .neq, some c => some (.bool (!Nat.beq c 1))
 | .lss, some c => some (.bool (Nat.beq c 0))
 | .leq, some c => some (.bool (Nat.ble c 1))
 | .gtr, some c => some (.bool (Nat.beq c 2))
 | .geq, some c => some (.bool (Nat.ble 1 c))
 | .or, _ => ifB (Nat.beq i k && Nat.beq (j / 8) 4 && Nat.blt 0 (j % 8) && Nat.beq (l + 9) j) (sy i (j - 25))
 | _, _ => none
def symSI (op : BinOp) (i j : Nat) (q : IntKind) (n : Nat) : Option Value := match op, q, j with
 | .shr, _, 0 => ifB (Nat.beq n 8) (sy i 1)
 | .shr, _, 8 => ifB (Nat.beq (n % 8) 0 && Nat.blt n 64) (sy i (8 + n / 8))
 | .shl, _, j => ifB (Nat.beq n 8 && Nat.beq (j / 8) 1 && Nat.blt 0 (j % 8)) (sy i (j + 24))
 | .xor, .u64, 5 => ifB (Nat.beq n 9223372036854775808) (sy i 8)
 | .xor, .u64, 8 => ifB (Nat.beq n 9223372036854775808) (sy i 5)
 | .xor, .i64, 4 => ifB (Nat.beq n 1 && Nat.blt (i % 16) 2 && (Nat.beq (i / 16) 242 || Nat.beq (i / 16) 226)) (sy (mate i) 4)
 | .gtr, .i64, 4 => ifB (Nat.beq (i % 16384) 0 && Nat.ble 16384 i && Nat.ble 40 n) (.bool false)
 | .rem, .u8, j => (match Nat.beq n 9 && Nat.ble 40 j && Nat.blt j 49 with
  | true => some (.int .u8 (.ofNat (j - 40)))
  | false => (match Nat.ble 56 j && Nat.beq n (j / 32 % 32) && Nat.blt (j % 32) n with | true => some (.int .u8 (.ofNat (j % 32))) | false => none))
 | _, _, _ => none
def symIS (op : BinOp) (q : IntKind) (n i j : Nat) : Option Value := match op, q, n, j with
 | .or, .u64, 0, 31 => some (sy i 15)
 | _, _, _, _ => none
def symBin (op : BinOp) (a b : Value) : Option Value := match a, b with
 | .complex .f64 i j, .complex .f64 k l => symSS op i j k l
 | .complex .f64 i j, .int q (.ofNat n) => symSI op i j q n
 | .int q (.ofNat n), .complex .f64 i j => symIS op q n i j
 | _, _ => none
def symConv (q : IntKind) (i j : Nat) : Option Value := match q with
 | .u8 => (match j with
  | 1 => some (sy i 2)
  | 0 => some (sy i 3)
  | j => ifB (Nat.beq (j / 8) 1) (sy i (j + 8)))
 | .u64 => (match j with
  | 4 => some (sy i 5)
  | j => ifB (Nat.beq (j / 8) 2) (sy i (j + 8)))
 | .i64 => ifB (Nat.beq j 5) (sy i 4)
 | _ => none
def binZ (P : Program) (h : Heap) (op : BinOp) (t : TypeId) (a b : Value) : Option Value := match a, b with
 | .int k x, .int j y => pureP P (binOp op t (.int k x) (.int j y))
 | .bool x, .bool y => pureP P (binOp op t (.bool x) (.bool y))
 | .string x, .string y => strOp op x y
 | .pointer none, .pointer none => eqIf (isPtr P t) op true
 | .pointer none, .pointer (some _) => eqIf (isPtr P t) op false
 | .pointer (some _), .pointer none => eqIf (isPtr P t) op false
 | .pointer (some ⟨n, o, none⟩), .pointer (some ⟨m, o', none⟩) => (match P.underlying t, rowB h n, rowB h m with
  | some (.pointer e), true, true => (match sizeB P e with
   | some (_ + 1) => asEq op (Nat.beq n m && Nat.beq o o')
   | _ => none)
  | _, _, _ => none)
 | .slice none _ _, .slice none _ _ => eqIf (isSlice P t) op true
 | .slice none _ _, .slice (some _) _ _ => eqIf (isSlice P t) op false
 | .slice (some _) _ _, .slice none _ _ => eqIf (isSlice P t) op false
 | .complex .f32 _ _, .slice none _ _ => eqIf (isSlice P t) op false
 | .map none, .map none => eqIf (isMap P t) op true
 | .map (some _), .map none => eqIf (isMap P t) op false
 | .map none, .map (some _) => eqIf (isMap P t) op false
 | .nilFunc, .nilFunc => eqIf (isFunc P t) op true
 | .func (.func _) _ _, .nilFunc => eqIf (isFunc P t) op false
 | _, _ => none
def allPlainB (z : Value) : Bool := z.cells.toList.all plain
def zeroZ (P : Program) (t : TypeId) : Option Value := match P.info? t with
 | some i => (match i.zero with
  | some z => (match allPlainB z with | true => some z | false => none)
  | none => none)
 | none => none
def bnd : Value → Nat → Option Nat
 | .int _ (.ofNat n), m => (match Nat.ble n m with | true => some n | false => none)
 | _, _ => none
def bndO : Option Value → Nat → Nat → Option Nat
 | some v, m, _ => bnd v m
 | none, _, d => some d
def bounds (len cap : Nat) (lo hi mx : Option Value) : Option (Nat × Nat × Nat) := match bndO mx cap cap with
 | some m => (match bndO hi m len with
  | some k => (match bndO lo k 0 with
   | some l => some (l, k, m)
   | none => none)
  | none => none)
 | none => none
def knownE (h : Heap) (n z : Nat) : Nat := match h.get n with
 | some (.grown _ z' l) => (match Nat.beq z' z with | true => l.length / z | false => 0)
 | _ => 0
def sliceZ (P : Program) (h : Heap) (t : TypeId) (x : Value) (lo hi mx : Option Value) : Option Value := match P.underlying t with
 | some (.slice e) => (match x, sizeB P e with
  | .slice none len cap, some _ => (match bounds len cap lo hi mx with
   | some (l, k, m) => some (.slice none (k - l) (m - l))
   | none => none)
  | .slice (some ⟨n, off, none⟩) len cap, some z => (match bounds len cap lo hi mx with
   | some (l, k, m) => (match Nat.beq m l with
    | true => some (.slice (some ⟨n, off, none⟩) (k - l) (m - l))
    | false => some (.slice (some ⟨n, off + l * z, none⟩) (k - l) (m - l)))
   | none => none)
  | .slice (some ⟨n, off, some c⟩) len _, some z => (match mx with
   | none => (match bounds len (knownE h n z - c) lo hi none with
    | some (l, k, _) => (match Nat.ble k (knownE h n z - c) with
     | true => some (.slice (some ⟨n, off + l * z, some (c + l)⟩) (k - l) 0)
     | false => none)
    | none => none)
   | some v => (match bounds len (knownE h n z - c) lo hi (some v) with
    | some (l, k, m) => (match Nat.beq m l with
     | true => none
     | false => some (.slice (some ⟨n, off + l * z, none⟩) (k - l) (m - l)))
    | none => none))
  | _, _ => none)
 | some .string => (match x, mx with
  | .string s, none => (match bounds (bytesOf s).length (bytesOf s).length lo hi none with
   | some (l, k, _) => some (.string (ofBytes (((bytesOf s).take k).drop l)))
   | none => none)
  | _, _ => none)
 | _ => none
def sliceArgs (lo hi mx : Option Operand) (l : List Value) : Option (Option Value × Option Value × Option Value) := match lo, hi, mx, l with
 | none, none, none, [] => some (none, none, none)
 | some _, none, none, [a] => some (some a, none, none)
 | none, some _, none, [b] => some (none, some b, none)
 | some _, some _, none, [a, b] => some (some a, some b, none)
 | none, some _, some _, [b, c] => some (none, some b, some c)
 | some _, some _, some _, [a, b, c] => some (some a, some b, some c)
 | _, _, _, _ => none
def indexAddrZ (P : Program) (t : TypeId) (x i : Value) : Option Value := match P.underlying t, x, i with
 | some (.slice e), .slice (some ⟨n, off, s⟩) len _, .int _ (.ofNat k) => (match sizeB P e, Nat.blt k len with
  | some z, true => some (.pointer (some ⟨n, off + k * z, none⟩))
  | _, _ => none)
 | some (.slice e), .complex .f32 n len, .int _ (.ofNat k) => (match sizeB P e, Nat.blt k len with
  | some z, true => some (.pointer (some ⟨n + 1, k * z, some 0⟩))
  | _, _ => none)
 | some (.array len e), .pointer (some ⟨n, off, none⟩), .int _ (.ofNat k) => (match sizeB P e, Nat.blt k len with
  | some z, true => some (.pointer (some ⟨n, off + k * z, none⟩))
  | _, _ => none)
 | _, _, _ => none
def loadZ (P : Program) (h : Heap) (t : TypeId) (n off : Nat) : Option Value := match h.get n with
 | some o => (match cellsOf o, sizeB P t with
  | some l, some z => (match Nat.beq ((l.drop off).take z).length z with
   | true => asVar P t ((l.drop off).take z)
   | false => none)
  | _, _ => none)
 | none => none
def loadR (P : Program) (h : Heap) (t : TypeId) (n off : Nat) : Option Value := match h.get n with
 | some (.ro l) => (match sizeB P t with
  | some z => (match Nat.beq ((l.drop off).take z).length z with
   | true => asVar P t ((l.drop off).take z)
   | false => none)
  | none => none)
 | _ => none
def byteVals : List UInt8 → List Value
 | [] => []
 | b :: l => .int .u8 (.ofNat b.toNat) :: byteVals l
def rowCells (h : Heap) (z m : Nat) : Value → Option (List Value)
 | .slice none _ _ => (match m with | 0 => some [] | _ => none)
 | .slice (some ⟨n, off, _⟩) _ _ => (match m with
  | 0 => some []
  | _ => (match h.get n with
   | some o => (match cellsOf o with
    | some l => (match Nat.beq ((l.drop off).take (m * z)).length (m * z) with
     | true => some ((l.drop off).take (m * z))
     | false => none)
    | none => none)
   | none => none))
 | .string s => some (byteVals ((bytesOf s).take m))
 | .complex .f32 n _ => (match m with
  | 0 => some []
  | _ => (match h.get (n + 1) with
   | some (.ro l) => (match Nat.beq (l.take (m * z)).length (m * z) with
    | true => some (l.take (m * z))
    | false => none)
   | _ => none))
 | _ => none
def lenZ : Value → Option Nat
 | .slice _ n _ => some n
 | .string s => some (bytesOf s).length
 | .complex .f32 _ n => some n
 | _ => none
def u8s : List Value → Option (List UInt8)
 | [] => some []
 | .int .u8 (.ofNat n) :: l => (match Nat.ble n 255, u8s l with | true, some r => some (UInt8.ofNat n :: r) | _, _ => none)
 | _ => none
def symBytes : List Value → Bool
 | [] => true
 | .int .u8 (.ofNat n) :: l => Nat.ble n 255 && symBytes l
 | .complex .f64 _ j :: l => (Nat.beq j 2 || Nat.beq j 3 || Nat.beq (j / 8) 2) && symBytes l
 | _ => false
def keyEq : Value → Value → Option Bool
 | .int j a, .int k b => if j = k then some (a == b) else none
 | .string a, .string b => some (eqBytes (bytesOf a) (bytesOf b))
 | _, _ => none
def findZ (k : Value) : List (Value × Value) → Option (Option Value)
 | [] => some none
 | (k', v) :: l => match keyEq k k', findZ k l with
  | some true, some _ => some (some v)
  | some false, some r => some r
  | _, _ => none
def setZ (k v : Value) : List (Value × Value) → List (Value × Value)
 | [] => []
 | (k', v') :: l => match keyEq k k' with
  | some true => (k, v) :: l
  | _ => (k', v') :: setZ k v l
def delZ (k : Value) : List (Value × Value) → List (Value × Value)
 | [] => []
 | (k', v') :: l => match keyEq k k' with
  | some true => l
  | _ => (k', v') :: delZ k l
def keyOk (P : Program) (kt : TypeId) (k : Value) : Bool := match P.underlying kt, k with
 | some (.int _), .int _ _ => true
 | some .string, .string _ => true
 | _, _ => false
def basicAll (P : Program) (n : Nat) : List Field → Bool
 | [] => true
 | f :: l => (match P.underlying f.type with
  | some (.int _) => (match sizeB P f.type with | some 1 => Nat.blt f.offset n && basicAll P n l | _ => false)
  | some .string => (match sizeB P f.type with | some 1 => Nat.blt f.offset n && basicAll P n l | _ => false)
  | _ => false)
def structKey (P : Program) (kt : TypeId) (k : Value) : Bool := match P.underlying kt, k with
 | some (.struct fs), .agg c => basicAll P c.size fs.toList
 | some .string, .func (.yield 0) _ _ => true
 | _, _ => false
def byteEq : Value → Value → Bool
 | .int .u8 (.ofNat a), .int .u8 (.ofNat b) => Nat.beq a b
 | .complex .f64 i j, .complex .f64 k l => Nat.beq i k && Nat.beq j l
 | _, _ => false
def bytesEq : List Value → List Value → Bool
 | [], [] => true
 | x :: l, y :: m => (match byteEq x y with | true => bytesEq l m | false => false)
 | _, _ => false
def eqCell : Value → Value → Option Bool
 | .int j a, .int k b => if j = k then some (a == b) else none
 | .string a, .string b => some (eqBytes (bytesOf a) (bytesOf b))
 | .func (.yield 0) ⟨a⟩ _, .func (.yield 0) ⟨b⟩ _ => (match bytesEq a b, Nat.beq a.length b.length with
  | true, _ => some true
  | false, false => some false
  | false, true => none)
 | .func (.yield 0) ⟨a⟩ _, .string b => (match Nat.beq a.length (bytesOf b).length with | false => some false | true => none)
 | .string b, .func (.yield 0) ⟨a⟩ _ => (match Nat.beq a.length (bytesOf b).length with | false => some false | true => none)
 | _, _ => none
def eqCells : List Value → List Value → Option Bool
 | [], [] => some true
 | x :: l, y :: m => (match eqCell x y with | some true => eqCells l m | some false => some false | none => none)
 | _, _ => none
def keyEqS : Value → Value → Option Bool
 | .agg ⟨a⟩, .agg ⟨b⟩ => (match Nat.beq a.length b.length with | true => eqCells a b | false => none)
 | .string s, y => eqCell (.string s) y
 | .func (.yield 0) c a, y => eqCell (.func (.yield 0) c a) y
 | _, _ => none
def structAt (P : Program) (n : Nat) : Nat → List Field → List Value → Bool
 | i, [], [] => Nat.beq i n
 | i, f :: l, x :: m => (match P.underlying f.type, x with
  | some (.int _), .int _ _ => (match sizeB P f.type, f.name != "_" with | some 1, true => Nat.beq f.offset i && structAt P n (i + 1) l m | _, _ => false)
  | some .string, .string _ => (match sizeB P f.type, f.name != "_" with | some 1, true => Nat.beq f.offset i && structAt P n (i + 1) l m | _, _ => false)
  | some .string, .func (.yield 0) _ _ => (match sizeB P f.type, f.name != "_" with | some 1, true => Nat.beq f.offset i && structAt P n (i + 1) l m | _, _ => false)
  | _, _ => false)
 | _, _, _ => false
def skeyOk (P : Program) (kt : TypeId) (k : Value) : Bool := match P.underlying kt, k with
 | some (.struct fs), .agg c => structAt P c.size 0 fs.toList c.toList && !P.stoodInHeld kt
 | some .string, .string _ => true
 | some .string, .func (.yield 0) _ _ => true
 | _, _ => false
def ukeyOk (P : Program) (kt et : TypeId) (k : Value) : Bool := match P.underlying kt, P.underlying et with
 | some .string, some (.int .u64) => false
 | _, _ => keyOk P kt k
def findS (k : Value) : List (Value × Value) → Nat → Option (Option (Nat × Value))
 | [], _ => some none
 | x :: l, i => (match keyEqS k x.1 with | some true => some (some (i, x.2)) | some false => findS k l (i + 1) | none => none)
def setS (v : Value) (k : Value) : Nat → List (Value × Value) → List (Value × Value)
 | _, [] => []
 | 0, _ :: l => (k, v) :: l
 | i + 1, x :: l => x :: setS v k i l
def tellZ (commaOk : Bool) (v : Value) (b : Bool) : Value := match commaOk with | true => .tuple #[v, .bool b] | false => v
def lookZ (P : Program) (h : Heap) (t : TypeId) (m k : Value) (commaOk : Bool) : Option Value := match P.underlying t with
 | some (.map kt e) => (match zeroZ P e with
  | some z => (match m with
   | .map none => (match keyOk P kt k with | true => some (tellZ commaOk z false) | false => none)
   | .map (some n) => (match h.get n with
    | some (.map []) => (match keyOk P kt k || structKey P kt k with
     | true => some (tellZ commaOk z false)
     | false => none)
    | some (.map es) => (match keyOk P kt k with
     | true => (match findZ k es with
      | some (some v) => some (tellZ commaOk v true)
      | some none => some (tellZ commaOk z false)
      | none => none)
     | false => none)
    | some (.mapS es) => (match skeyOk P kt k with
     | true => (match findS k es 0 with
      | some (some (_, v)) => some (tellZ commaOk v true)
      | some none => some (tellZ commaOk z false)
      | none => none)
     | false => none)
    | _ => none)
   | _ => none)
  | none => none)
 | _ => none
def quiet (P : Program) (h : Heap) (op : Op) (ty : TypeId) (args : List Value) : Option Value := match op, args with
 | .move _, [x] => some x
 | .assign _, [x] => some x
 | .pick _ _ _, [.bool c, a, b] => (match c with | true => some a | false => some b)
 | .load t _, [.pointer (some ⟨n, off, none⟩)] => loadZ P h t n off
 | .load t _, [.pointer (some ⟨n, off, some 0⟩)] => loadR P h t n off
 | .nilCheck _, [.pointer (some a)] => some (.pointer (some a))
 | .nilCheck _, [.func (.func f) a c] => some (.func (.func f) a c)
 | .binOp op t _ _ _, [a, b] => (match symBin op a b with | some v => some v | none => binZ P h op t a b)
 | .unOp op _ _, [.int k n] => pureP P (Op.unary op (.int k n))
 | .unOp op _ _, [.bool b] => pureP P (Op.unary op (.bool b))
 | .convert src dst _, [.int k n] => (match P.underlying dst with | some (.int _) => pureP P (convert src dst (.int k n)) | _ => none)
 | .convert src dst _, [.complex .f64 i j] => (match P.underlying src, P.underlying dst with | some _, some (.int q) => symConv q i j | _, _ => none)
 | .convert src dst _, [.string s] => (match P.underlying dst with | some .string => pureP P (convert src dst (.string s)) | _ => none)
 | .convert src dst _, [.slice b len cap] => (match P.underlying src, P.underlying dst with
  | some (.slice e), some .string => (match P.underlying e with
   | some (.int .u8) => (match rowCells h 1 len (.slice b len cap) with
    | some l => (match u8s l with | some r => some (.string (ofBytes r)) | none => (match symBytes l with | true => some (.func (.yield 0) ⟨l⟩ #[]) | false => none))
    | none => none)
   | _ => none)
  | _, _ => none)
 | .makeInterface t _, [x] => (match P.underlying t with
  | some (.interface _) => none
  | some _ => some (.iface t x)
  | none => none)
 | .makeFunc (.func f) first captured, l => some (.func (.func f) (l.take first.size).toArray (l.drop first.size).toArray)
 | .slice t _ lo hi mx, x :: l => (match sliceArgs lo hi mx l with
  | some (a, b, c) => sliceZ P h t x a b c
  | none => none)
 | .fieldAddr s _ f, [.pointer (some ⟨n, off, none⟩)] => (match fieldOff P s f with
  | some k => some (.pointer (some ⟨n, off + k, none⟩))
  | none => none)
 | .field s _ f, [.agg c] => (match P.underlying s with
  | some (.struct fs) => (match fs[f]? with
   | some x => (match sizeB P x.type with
    | some z => (match Nat.beq ((c.toList.drop x.offset).take z).length z with
     | true => asVar P x.type ((c.toList.drop x.offset).take z)
     | false => none)
    | none => none)
   | none => none)
  | _ => none)
 | .indexAddr t _ _, [x, i] => indexAddrZ P t x i
 | .index t _ _, [.string s, .int _ (.ofNat k)] => (match P.underlying t with
  | some .string => (match (bytesOf s)[k]? with | some b => some (.int .u8 (.ofNat b.toNat)) | none => none)
  | _ => none)
 | .lookup t _ _ ok, [m, k] => lookZ P h t m k ok
 | .extract _ i, [.tuple vs] => vs.toList[i]?
 | .build t ps, l => (match zeroZ P t, buildB P t (List.zip (ps.toList.map (·.1)) l) with
  | some _, some cells => some (.agg cells.toArray)
  | _, _ => none)
 | .call { callee := .builtin .len, argTypes := ts, .. }, [.string s] => (match ts[0]? with
  | some t => (match P.underlying t with | some .string => some (goInt (bytesOf s).length) | _ => none)
  | none => none)
 | .call { callee := .builtin .len, argTypes := ts, .. }, [.slice b n c] => (match ts[0]? with
  | some t => (match P.underlying t with | some (.slice _) => some (goInt n) | _ => none)
  | none => none)
 | .call { callee := .builtin .len, argTypes := ts, .. }, [.complex .f32 _ n] => (match ts[0]? with
  | some t => (match P.underlying t with | some (.slice _) => some (goInt n) | _ => none)
  | none => none)
 | .call { callee := .builtin .len, argTypes := ts, .. }, [.func (.yield 1) ⟨[.int .i64 (.ofNat _), .int .i64 (.ofNat g)]⟩ _] => (match ts[0]? with
  | some t => (match P.underlying t with | some (.slice _) => some (sy (gbase g) 4) | _ => none)
  | none => none)
 | .call { callee := .builtin .len, argTypes := ts, .. }, [.map m] => (match ts[0]? with
  | some t => (match P.underlying t, m with
   | some (.map _ _), none => some (goInt 0)
   | some (.map _ _), some n => (match h.get n with | some (.map es) => some (goInt es.length) | _ => none)
   | _, _ => none)
  | none => none)
 | .call { callee := .builtin .len, argTypes := ts, .. }, [.chan m] => (match ts[0]? with
  | some t => (match P.underlying t, m with
   | some (.chan _ _), none => some (goInt 0)
   | some (.chan _ _), some n => (match h.get n with | some (.chan _ buf) => some (goInt buf.length) | _ => none)
   | _, _ => none)
  | none => none)
 | .call { callee := .builtin .cap, argTypes := ts, .. }, [.chan m] => (match ts[0]? with
  | some t => (match P.underlying t, m with
   | some (.chan _ _), none => some (goInt 0)
   | some (.chan _ _), some n => (match h.get n with | some (.chan c _) => some (goInt c) | _ => none)
   | _, _ => none)
  | none => none)
 | .call { callee := .builtin .cap, argTypes := ts, .. }, [.slice none n c] => (match ts[0]? with
  | some t => (match P.underlying t with | some (.slice _) => some (goInt c) | _ => none)
  | none => none)
 | .call { callee := .builtin .cap, argTypes := ts, .. }, [.slice (some ⟨_, _, none⟩) n c] => (match ts[0]? with
  | some t => (match P.underlying t with | some (.slice _) => some (goInt c) | _ => none)
  | none => none)
 | .call { callee := .builtin .min, argTypes := ts, .. }, [.int k a, .int j b] => pureP P (Builtin.min_ ts ty #[.int k a, .int j b])
 | .call { callee := .builtin .max, argTypes := ts, .. }, [.int k a, .int j b] => pureP P (Builtin.max_ ts ty #[.int k a, .int j b])
 | _, _ => none
def lays (P : Program) (op : Op) (args : List Value) (n : Nat) : Option (Value × HO) := match op, args with
 | .alloc t, [] => (match zeroZ P t with | some z => some (.pointer (some ⟨n, 0, none⟩), .cells t z.cells.toList) | none => none)
 | .box t _, [x] => some (.pointer (some ⟨n, 0, none⟩), .cells t x.cells.toList)
 | .buildSlice t len ps, l => (match P.underlying t with
  | some (.slice e') => (match zeroZ P e', litB P t len (List.zip (ps.toList.map (·.1)) l) with
   | some _, some (e, cells) => some (.slice (some ⟨n, 0, none⟩) len len, .cells e cells)
   | _, _ => none)
  | _ => none)
 | .makeMap _ none, [] => some (.map (some n), .map [])
 | .makeChan t _, [.int _ (.ofNat m)] => (match P.underlying t with
  | some (.chan _ e) => (match P.info? e with
   | some i => (match Nat.ble m 100000, Nat.ble i.bytes 100000 with
    | true, true => some (.chan (some n), .chan m [])
    | _, _ => none)
   | none => none)
  | _ => none)
 | .makeSlice t _ _, [.int _ (.ofNat l), .int _ (.ofNat c)] => (match P.underlying t with
  | some (.slice e) => (match P.info? e, zeroZ P e with
   | some i, some z => (match Nat.beq z.cells.size i.size, Nat.ble l c, Nat.ble c 100000, Nat.ble i.bytes 100000 with
    | true, true, true, true => some (.slice (some ⟨n, 0, none⟩) l c, .cells e (repB z.cells.toList c))
    | _, _, _, _ => none)
   | _, _ => none)
  | _ => none)
 | _, _ => none
end
noncomputable section
inductive R (α : Type) where
 | ok (a : α)
 | no (why : List String)
abbrev Out := Value × Heap × Nat
structure Env where
 P : Program
 /-- functions without a Go body that only look -/
 ext : FuncId → Option (Heap → List Value → Option Value)
 /-- functions by a contract -/
 prim : FuncId → Option (Heap → Nat → List Value → Option (List Out))
def cls (P : Program) (op : Op) : Nat := match op with
 | .convert src dst _ => (match P.underlying src, P.underlying dst with | some .string, some (.slice _) => 2 | _, _ => 0)
 | .store .. | .mapUpdate .. | .insert .. | .next .. | .range .. | .entry .. | .select .. | .send .. | .recv .. | .mapEntry .. | .entryStore .. | .panic .. | .go .. | .defer .. => 2
 | .call { callee := .builtin .len, .. } => 0
 | .call { callee := .builtin .cap, .. } => 0
 | .call { callee := .builtin .min, .. } => 0
 | .call { callee := .builtin .max, .. } => 0
 | .call _ => 2
 | .alloc _ | .box .. | .buildSlice .. | .makeMap .. | .makeSlice .. | .makeChan .. => 1
 | _ => 0
def writeCells (h : Heap) (n off : Nat) (new : List Value) : Option Heap := match allOne new with
 | true => (match h.get n with
  | some (.cells t l) => (match Nat.ble (off + new.length) l.length with | true => some (h.ins n (some (.cells t (setAt l off new)))) | false => none)
  | some (.grown t z l) => (match Nat.ble (off + new.length) l.length with | true => some (h.ins n (some (.grown t z (setAt l off new)))) | false => none)
  | _ => none)
 | false => none
def appendTo (h : Heap) (nx : Nat) (e z m : Nat) (s : Value) (news : List Value) : Option Out := match s with
 | .slice none 0 0 => some (.slice (some ⟨nx, 0, some 0⟩) m 0, h.ins nx (some (.grown e z news)), nx + 1)
 | .slice (some ⟨n, off, none⟩) len cap => (match Nat.ble (len + m) cap, Nat.ble len cap with
  | true, _ => (match writeCells h n (off + len * z) news with
   | some h' => some (.slice (some ⟨n, off, none⟩) (len + m) cap, h', nx)
   | none => none)
  | false, true => (match rowCells h z len s with
   | some old => some (.slice (some ⟨nx, 0, some 0⟩) (len + m) 0, h.ins nx (some (.grown e z (old ++ news))), nx + 1)
   | none => none)
  | _, _ => none)
 | .slice (some ⟨n, off, some k⟩) len _ => (match Nat.beq off (k * z) with
  | true => (match Nat.ble (k + len + m) (knownE h n z) with
   | true => (match writeCells h n (off + len * z) news with
    | some h' => some (.slice (some ⟨n, off, some k⟩) (len + m) 0, h', nx)
    | none => none)
   | false => (match k, h.get n with
    | 0, some (.grown t z' l) => (match Nat.beq t e, Nat.beq z' z, Nat.beq (l.take (len * z)).length (len * z) with
     | true, true, true => some (.slice (some ⟨nx, 0, some 0⟩) (len + m) 0, (h.ins n (some .dead)).ins nx (some (.grown e z (l.take (len * z) ++ news))), nx + 1)
     | _, _, _ => none)
    | _, _ => none))
  | false => none)
 | _ => none
def fits (h : Heap) (z : Nat) : Value → Bool
 | .slice none 0 0 => true
 | .slice (some ⟨_, _, none⟩) len cap => Nat.ble len cap
 | .slice (some ⟨n, _, some k⟩) len _ => Nat.ble (k + len) (knownE h n z)
 | _ => false
def lenS : Value → Nat
 | .slice _ n _ => n
 | _ => 0
def appKind (d : TypeDesc) (x : Value) (z : Nat) : Bool := match d, x with
 | .string, .string _ => Nat.beq z 1
 | .slice _, .slice _ _ _ => true
 | .slice _, .complex .f32 _ _ => true
 | _, _ => false
def appendZ (P : Program) (h : Heap) (nx : Nat) (t t' : TypeId) (s x : Value) : Option Out := match P.underlying t with
 | some (.slice e) => (match P.info? e with
  | some i => (match zeroZ P e, P.underlying t' with
   | some zv, some d => (match Nat.beq zv.cells.size i.size, Nat.blt 0 i.size, lenZ x, appKind d x i.size with
    | true, true, some m, true => (match fits h i.size s, rowCells h i.size m x with
     | true, some news => (match allOne news, Nat.beq news.length (m * i.size), Nat.ble (lenS s + m) 100000, Nat.ble i.bytes 100000 with
      | true, true, true, true => (match m with
       | 0 => some (s, h, nx)
       | m' + 1 => appendTo h nx e i.size (m' + 1) s news)
      | _, _, _, _ => none)
     | _, _ => none)
    | _, _, _, _ => none)
   | _, _ => none)
  | none => none)
 | _ => none
def copyZ (P : Program) (h : Heap) (nx : Nat) (t : TypeId) (dst src : Value) : Option Out := match P.underlying t with
 | some (.slice e) => (match sizeB P e, src, dst with
  | some z, .slice sb m sc, .slice base dlen _ => (match Nat.min m dlen with
   | 0 => some (goInt 0, h, nx)
   | n' + 1 => (match rowCells h z (n' + 1) (.slice sb m sc), base with
    | some news, some ⟨n, off, _⟩ => (match Nat.beq news.length ((n' + 1) * z), writeCells h n off news with
     | true, some h' => some (goInt (n' + 1 : Nat), h', nx)
     | _, _ => none)
    | _, _ => none))
  | _, _, _ => none)
 | _ => none
def clearZ (P : Program) (h : Heap) (nx : Nat) (t : TypeId) (s : Value) : Option Out := match P.underlying t with
 | some (.slice e) => (match zeroZ P e with
  | some zv => (match s with
   | .slice none 0 _ => some (.tuple #[], h, nx)
   | .slice (some ⟨n, off, _⟩) len _ => (match len with
    | 0 => some (.tuple #[], h, nx)
    | _ => (match Nat.blt 0 zv.cells.size, writeCells h n off (repB zv.cells.toList len) with
     | true, some h' => some (.tuple #[], h', nx)
     | _, _ => none))
   | _ => none)
  | none => none)
 | _ => none
def updateZ (P : Program) (h : Heap) (nx : Nat) (t : TypeId) (m k v : Value) : Option Out := match P.underlying t, m with
 | some (.map kt et), .map (some n) => (match h.get n, ukeyOk P kt et k with
  | some (.map es), true => (match findZ k es with
   | some (some _) => some (undef, h.ins n (some (.map (setZ k v es))), nx)
   | some none => some (undef, h.ins n (some (.map ((k, v) :: es))), nx)
   | none => none)
  | some (.map []), false => (match skeyOk P kt k with
   | true => some (undef, h.ins n (some (.mapS [(k, v)])), nx)
   | false => none)
  | some (.mapS es), false => (match skeyOk P kt k, findS k es 0 with
   | true, some (some (i, _)) => some (undef, h.ins n (some (.mapS (setS v k i es))), nx)
   | true, some none => some (undef, h.ins n (some (.mapS (es ++ [(k, v)]))), nx)
   | _, _ => none)
  | _, _ => none)
 | _, _ => none
def deleteZ (P : Program) (h : Heap) (nx : Nat) (t : TypeId) (m k : Value) : Option Out := match P.underlying t with
 | some (.map kt _) => (match m with
  | .map none => (match keyOk P kt k with | true => some (.tuple #[], h, nx) | false => none)
  | .map (some n) => (match h.get n, keyOk P kt k with
   | some (.map es), true => (match findZ k es with
    | some (some _) => some (.tuple #[], h.ins n (some (.map (delZ k es))), nx)
    | some none => some (.tuple #[], h, nx)
    | none => none)
   | _, _ => none)
  | _ => none)
 | _ => none
def memI (i : Nat) : List Nat → Bool
 | [] => false
 | j :: l => match Nat.beq i j with | true => true | false => memI i l
def leftI (vis : List Nat) : List (Value × Value) → Nat → List (Nat × Value × Value)
 | [], _ => []
 | (k, v) :: l, i => match memI i vis with
  | true => leftI vis l (i + 1)
  | false => (i, k, v) :: leftI vis l (i + 1)
def lastI : List Nat → Option Nat
 | [] => none
 | [i] => some i
 | _ :: l => lastI l
def iterL (P : Program) (h : Heap) (nx : Nat) (op : Op) (args : List Value) : R (List Out) := match op, args with
 | .range t _, [.map none] => (match P.underlying t with
  | some (.map _ _) => .ok [(.pointer (some ⟨nx, 0, none⟩), h.ins nx (some .iter0), nx + 1)]
  | _ => .no [])
 | .range t _, [.map (some m)] => (match P.underlying t, h.get m with
  | some (.map _ _), some (.map es) => .ok [(.pointer (some ⟨nx, 0, none⟩), (h.ins m (some (.mapI es nx))).ins nx (some (.iter m [])), nx + 1)]
  | _, _ => .no [])
 | .next _ false, [.pointer (some ⟨n, 0, none⟩)] => (match h.get n with
  | some .iter0 => .ok [(.tuple #[.bool false], h, nx)]
  | some (.iter m vis) => (match h.get m with
   | some (.mapI es it) => (match Nat.beq it n, leftI vis es 0 with
    | true, [] => .ok [(.tuple #[.bool false], (h.ins m (some (.map es))).ins n (some .dead), nx)]
    | true, l => .ok (l.map fun x => (.tuple #[.bool true, x.2.1, x.2.2], h.ins n (some (.iter m (vis ++ [x.1]))), nx))
    | false, _ => .no [])
   | _ => .no [])
  | _ => .no [])
 | .entry _, [.pointer (some ⟨n, 0, none⟩)] => (match h.get n with
  | some (.iter m vis) => (match h.get m, lastI vis with
   | some (.mapI es it), some i => (match Nat.beq it n, es[i]? with
    | true, some (k, v) => .ok [(.tuple #[k, v], h, nx)]
    | _, _ => .no [])
   | _, _ => .no [])
  | _ => .no [])
 | _, _ => .no []
def loud (E : Env) (call : FuncId → List Value → Heap → Nat → R (List Out)) (op : Op) (args : List Value) (h : Heap) (nx : Nat) : R (List Out) :=
 let one (x : Option Out) : R (List Out) := match x with | some o => .ok [o] | none => .no []
 match op, args with
 | .store t _ _, [.pointer (some ⟨n, off, none⟩), v] => (match sizeB E.P t with
  | some z => (match Nat.beq v.cells.size z with
   | true => (match writeCells h n off v.cells.toList with | some h' => .ok [(undef, h', nx)] | none => .no [])
   | false => .no [])
  | none => .no [])
 | .convert src dst _, [.string s] => (match E.P.underlying src, E.P.underlying dst with
  | some .string, some (.slice e) => (match E.P.underlying e with
   | some (.int .u8) => .ok [(.slice (some ⟨nx, 0, some 0⟩) (bytesOf s).length 0, h.ins nx (some (.str (byteVals (bytesOf s)))), nx + 1)]
   | _ => .no [])
  | _, _ => .no [])
 | .mapUpdate t _ _ _, [m, k, v] => one (updateZ E.P h nx t m k v)
 | .insert t _ _ _, [m, k, v] => one (updateZ E.P h nx t m k v)
 | .call { callee := .builtin .append, argTypes := ts, .. }, [s, x] => (match ts.toList with
  | [t, t'] => one (appendZ E.P h nx t t' s x)
  | _ => .no [])
 | .call { callee := .builtin .copy, argTypes := ts, .. }, [d, s] => (match ts.toList with
  | [t, _] => one (copyZ E.P h nx t d s)
  | _ => .no [])
 | .call { callee := .builtin .clear, argTypes := ts, .. }, [s] => (match ts.toList with
  | [t] => one (clearZ E.P h nx t s)
  | _ => .no [])
 | .call { callee := .builtin .delete, argTypes := ts, .. }, [m, k] => (match ts.toList with
  | [t, _] => one (deleteZ E.P h nx t m k)
  | _ => .no [])
 | .call { callee := .value _, .. }, .func (.func g) first captured :: l => (match E.ext g with
  | some f => (match f h (first.toList ++ l ++ captured.toList) with | some v => .ok [(v, h, nx)] | none => .no [])
  | none => (match callOk E.P g with
   | true => call g (first.toList ++ l ++ captured.toList) h nx
   | false => .no []))
 | op, args => iterL E.P h nx op args
def step (E : Env) (call : FuncId → List Value → Heap → Nat → R (List Out)) (op : Op) (ty : TypeId) (args : List Value) (h : Heap) (nx : Nat) : R (List Out) :=
 match cls E.P op with
 | 0 => (match quiet E.P h op ty args with | some v => .ok [(v, h, nx)] | none => .no [])
 | 1 => (match lays E.P op args nx with | some (v, o) => .ok [(v, h.ins nx (some o), nx + 1)] | none => .no [])
 | _ => loud E call op args h nx
def ok1 (o : Option Value) (h : Heap) (nx : Nat) : R (List Out) := @Option.rec Value (fun _ => R (List Out)) (.no []) (fun v => .ok [(v, h, nx)]) o
def qOne : List Value → Option Value
 | [x] => some x
 | _ => none
def qPick : List Value → Option Value
 | [.bool c, a, b] => (match c with | true => some a | false => some b)
 | _ => none
def qLoad (P : Program) (h : Heap) (t : TypeId) : List Value → Option Value
 | [.pointer (some ⟨n, off, none⟩)] => loadZ P h t n off
 | [.pointer (some ⟨n, off, some 0⟩)] => loadR P h t n off
 | _ => none
def qNil : List Value → Option Value
 | [.pointer (some a)] => some (.pointer (some a))
 | [.func (.func f) a c] => some (.func (.func f) a c)
 | _ => none
def qBin (P : Program) (h : Heap) (op : BinOp) (t : TypeId) : List Value → Option Value
 | [a, b] => (match symBin op a b with | some v => some v | none => binZ P h op t a b)
 | _ => none
def qFieldAddr (P : Program) (s : TypeId) (f : Nat) : List Value → Option Value
 | [.pointer (some ⟨n, off, none⟩)] => (match fieldOff P s f with
  | some k => some (.pointer (some ⟨n, off + k, none⟩))
  | none => none)
 | _ => none
def qIndexAddr (P : Program) (t : TypeId) : List Value → Option Value
 | [x, i] => indexAddrZ P t x i
 | _ => none
def qExtract (i : Nat) : List Value → Option Value
 | [.tuple vs] => vs.toList[i]?
 | _ => none
def sf_move (x0 : Operand) (E : Env) (call : FuncId → List Value → Heap → Nat → R (List Out)) (ty : TypeId) (a : List Value) (h : Heap) (nx : Nat) : R (List Out) := ok1 (qOne a) h nx
def sf_assign (x0 : Operand) (E : Env) (call : FuncId → List Value → Heap → Nat → R (List Out)) (ty : TypeId) (a : List Value) (h : Heap) (nx : Nat) : R (List Out) := ok1 (qOne a) h nx
def sf_pick (x0 : Operand) (x1 : Operand) (x2 : Operand) (E : Env) (call : FuncId → List Value → Heap → Nat → R (List Out)) (ty : TypeId) (a : List Value) (h : Heap) (nx : Nat) : R (List Out) := ok1 (qPick a) h nx
def sf_alloc (x0 : TypeId) (E : Env) (call : FuncId → List Value → Heap → Nat → R (List Out)) (ty : TypeId) (a : List Value) (h : Heap) (nx : Nat) : R (List Out) := step E call (.alloc x0) ty a h nx
def sf_box (x0 : TypeId) (x1 : Operand) (E : Env) (call : FuncId → List Value → Heap → Nat → R (List Out)) (ty : TypeId) (a : List Value) (h : Heap) (nx : Nat) : R (List Out) := step E call (.box x0 x1) ty a h nx
def sf_build (x0 : TypeId) (x1 : Array (Nat × Operand)) (E : Env) (call : FuncId → List Value → Heap → Nat → R (List Out)) (ty : TypeId) (a : List Value) (h : Heap) (nx : Nat) : R (List Out) := step E call (.build x0 x1) ty a h nx
def sf_buildSlice (x0 : TypeId) (x1 : Nat) (x2 : Array (Nat × Operand)) (E : Env) (call : FuncId → List Value → Heap → Nat → R (List Out)) (ty : TypeId) (a : List Value) (h : Heap) (nx : Nat) : R (List Out) := step E call (.buildSlice x0 x1 x2) ty a h nx
def sf_insert (x0 : TypeId) (x1 : Operand) (x2 : Operand) (x3 : Operand) (E : Env) (call : FuncId → List Value → Heap → Nat → R (List Out)) (ty : TypeId) (a : List Value) (h : Heap) (nx : Nat) : R (List Out) := step E call (.insert x0 x1 x2 x3) ty a h nx
def sf_load (x0 : TypeId) (x1 : Operand) (E : Env) (call : FuncId → List Value → Heap → Nat → R (List Out)) (ty : TypeId) (a : List Value) (h : Heap) (nx : Nat) : R (List Out) := ok1 (qLoad E.P h x0 a) h nx
def sf_store (x0 : TypeId) (x1 : Operand) (x2 : Operand) (E : Env) (call : FuncId → List Value → Heap → Nat → R (List Out)) (ty : TypeId) (a : List Value) (h : Heap) (nx : Nat) : R (List Out) := step E call (.store x0 x1 x2) ty a h nx
def sf_ready (x0 : Nat) (E : Env) (call : FuncId → List Value → Heap → Nat → R (List Out)) (ty : TypeId) (a : List Value) (h : Heap) (nx : Nat) : R (List Out) := step E call (.ready x0) ty a h nx
def sf_waits (x0 : Nat) (E : Env) (call : FuncId → List Value → Heap → Nat → R (List Out)) (ty : TypeId) (a : List Value) (h : Heap) (nx : Nat) : R (List Out) := step E call (.waits x0) ty a h nx
def sf_nilCheck (x0 : Operand) (E : Env) (call : FuncId → List Value → Heap → Nat → R (List Out)) (ty : TypeId) (a : List Value) (h : Heap) (nx : Nat) : R (List Out) := ok1 (qNil a) h nx
def sf_binOp (x0 : BinOp) (x1 : TypeId) (x2 : Operand) (x3 : Operand) (x4 : TypeId) (E : Env) (call : FuncId → List Value → Heap → Nat → R (List Out)) (ty : TypeId) (a : List Value) (h : Heap) (nx : Nat) : R (List Out) := ok1 (qBin E.P h x0 x1 a) h nx
def sf_unOp (x0 : UnOp) (x1 : TypeId) (x2 : Operand) (E : Env) (call : FuncId → List Value → Heap → Nat → R (List Out)) (ty : TypeId) (a : List Value) (h : Heap) (nx : Nat) : R (List Out) := step E call (.unOp x0 x1 x2) ty a h nx
def sf_convert (x0 : TypeId) (x1 : TypeId) (x2 : Operand) (E : Env) (call : FuncId → List Value → Heap → Nat → R (List Out)) (ty : TypeId) (a : List Value) (h : Heap) (nx : Nat) : R (List Out) := step E call (.convert x0 x1 x2) ty a h nx
def sf_sliceToArrayPointer (x0 : TypeId) (x1 : Operand) (E : Env) (call : FuncId → List Value → Heap → Nat → R (List Out)) (ty : TypeId) (a : List Value) (h : Heap) (nx : Nat) : R (List Out) := step E call (.sliceToArrayPointer x0 x1) ty a h nx
def sf_makeInterface (x0 : TypeId) (x1 : Operand) (E : Env) (call : FuncId → List Value → Heap → Nat → R (List Out)) (ty : TypeId) (a : List Value) (h : Heap) (nx : Nat) : R (List Out) := step E call (.makeInterface x0 x1) ty a h nx
def sf_makeFunc (x0 : Fn) (x1 : Array Operand) (x2 : Array Operand) (E : Env) (call : FuncId → List Value → Heap → Nat → R (List Out)) (ty : TypeId) (a : List Value) (h : Heap) (nx : Nat) : R (List Out) := step E call (.makeFunc x0 x1 x2) ty a h nx
def sf_makeMap (x0 : TypeId) (x1 : Option Operand) (E : Env) (call : FuncId → List Value → Heap → Nat → R (List Out)) (ty : TypeId) (a : List Value) (h : Heap) (nx : Nat) : R (List Out) := step E call (.makeMap x0 x1) ty a h nx
def sf_makeChan (x0 : TypeId) (x1 : Operand) (E : Env) (call : FuncId → List Value → Heap → Nat → R (List Out)) (ty : TypeId) (a : List Value) (h : Heap) (nx : Nat) : R (List Out) := step E call (.makeChan x0 x1) ty a h nx
def sf_makeSlice (x0 : TypeId) (x1 : Operand) (x2 : Operand) (E : Env) (call : FuncId → List Value → Heap → Nat → R (List Out)) (ty : TypeId) (a : List Value) (h : Heap) (nx : Nat) : R (List Out) := step E call (.makeSlice x0 x1 x2) ty a h nx
def sf_slice (x0 : TypeId) (x1 : Operand) (x2 : Option Operand) (x3 : Option Operand) (x4 : Option Operand) (E : Env) (call : FuncId → List Value → Heap → Nat → R (List Out)) (ty : TypeId) (a : List Value) (h : Heap) (nx : Nat) : R (List Out) := step E call (.slice x0 x1 x2 x3 x4) ty a h nx
def sf_fieldAddr (x0 : TypeId) (x1 : Operand) (x2 : Nat) (E : Env) (call : FuncId → List Value → Heap → Nat → R (List Out)) (ty : TypeId) (a : List Value) (h : Heap) (nx : Nat) : R (List Out) := ok1 (qFieldAddr E.P x0 x2 a) h nx
def sf_field (x0 : TypeId) (x1 : Operand) (x2 : Nat) (E : Env) (call : FuncId → List Value → Heap → Nat → R (List Out)) (ty : TypeId) (a : List Value) (h : Heap) (nx : Nat) : R (List Out) := step E call (.field x0 x1 x2) ty a h nx
def sf_indexAddr (x0 : TypeId) (x1 : Operand) (x2 : Operand) (E : Env) (call : FuncId → List Value → Heap → Nat → R (List Out)) (ty : TypeId) (a : List Value) (h : Heap) (nx : Nat) : R (List Out) := ok1 (qIndexAddr E.P x0 a) h nx
def sf_index (x0 : TypeId) (x1 : Operand) (x2 : Operand) (E : Env) (call : FuncId → List Value → Heap → Nat → R (List Out)) (ty : TypeId) (a : List Value) (h : Heap) (nx : Nat) : R (List Out) := step E call (.index x0 x1 x2) ty a h nx
def sf_lookup (x0 : TypeId) (x1 : Operand) (x2 : Operand) (x3 : Bool) (E : Env) (call : FuncId → List Value → Heap → Nat → R (List Out)) (ty : TypeId) (a : List Value) (h : Heap) (nx : Nat) : R (List Out) := step E call (.lookup x0 x1 x2 x3) ty a h nx
def sf_mapUpdate (x0 : TypeId) (x1 : Operand) (x2 : Operand) (x3 : Operand) (E : Env) (call : FuncId → List Value → Heap → Nat → R (List Out)) (ty : TypeId) (a : List Value) (h : Heap) (nx : Nat) : R (List Out) := step E call (.mapUpdate x0 x1 x2 x3) ty a h nx
def sf_mapEntry (x0 : TypeId) (x1 : Operand) (x2 : Operand) (E : Env) (call : FuncId → List Value → Heap → Nat → R (List Out)) (ty : TypeId) (a : List Value) (h : Heap) (nx : Nat) : R (List Out) := step E call (.mapEntry x0 x1 x2) ty a h nx
def sf_entryStore (x0 : TypeId) (x1 : Operand) (x2 : Operand) (x3 : Operand) (E : Env) (call : FuncId → List Value → Heap → Nat → R (List Out)) (ty : TypeId) (a : List Value) (h : Heap) (nx : Nat) : R (List Out) := step E call (.entryStore x0 x1 x2 x3) ty a h nx
def sf_range (x0 : TypeId) (x1 : Operand) (E : Env) (call : FuncId → List Value → Heap → Nat → R (List Out)) (ty : TypeId) (a : List Value) (h : Heap) (nx : Nat) : R (List Out) := step E call (.range x0 x1) ty a h nx
def sf_next (x0 : Operand) (x1 : Bool) (E : Env) (call : FuncId → List Value → Heap → Nat → R (List Out)) (ty : TypeId) (a : List Value) (h : Heap) (nx : Nat) : R (List Out) := step E call (.next x0 x1) ty a h nx
def sf_entry (x0 : Operand) (E : Env) (call : FuncId → List Value → Heap → Nat → R (List Out)) (ty : TypeId) (a : List Value) (h : Heap) (nx : Nat) : R (List Out) := step E call (.entry x0) ty a h nx
def sf_typeAssert (x0 : Operand) (x1 : TypeId) (x2 : TypeId) (x3 : Bool) (E : Env) (call : FuncId → List Value → Heap → Nat → R (List Out)) (ty : TypeId) (a : List Value) (h : Heap) (nx : Nat) : R (List Out) := step E call (.typeAssert x0 x1 x2 x3) ty a h nx
def sf_extract (x0 : Operand) (x1 : Nat) (E : Env) (call : FuncId → List Value → Heap → Nat → R (List Out)) (ty : TypeId) (a : List Value) (h : Heap) (nx : Nat) : R (List Out) := ok1 (qExtract x1 a) h nx
def sf_call (x0 : Call) (E : Env) (call : FuncId → List Value → Heap → Nat → R (List Out)) (ty : TypeId) (a : List Value) (h : Heap) (nx : Nat) : R (List Out) := step E call (.call x0) ty a h nx
def sf_go (x0 : Call) (E : Env) (call : FuncId → List Value → Heap → Nat → R (List Out)) (ty : TypeId) (a : List Value) (h : Heap) (nx : Nat) : R (List Out) := step E call (.go x0) ty a h nx
def sf_defer (x0 : Call) (E : Env) (call : FuncId → List Value → Heap → Nat → R (List Out)) (ty : TypeId) (a : List Value) (h : Heap) (nx : Nat) : R (List Out) := step E call (.defer x0) ty a h nx
def sf_panic (x0 : Operand) (E : Env) (call : FuncId → List Value → Heap → Nat → R (List Out)) (ty : TypeId) (a : List Value) (h : Heap) (nx : Nat) : R (List Out) := step E call (.panic x0) ty a h nx
def sf_send (x0 : Operand) (x1 : Operand) (E : Env) (call : FuncId → List Value → Heap → Nat → R (List Out)) (ty : TypeId) (a : List Value) (h : Heap) (nx : Nat) : R (List Out) := step E call (.send x0 x1) ty a h nx
def sf_recv (x0 : TypeId) (x1 : Operand) (x2 : Bool) (E : Env) (call : FuncId → List Value → Heap → Nat → R (List Out)) (ty : TypeId) (a : List Value) (h : Heap) (nx : Nat) : R (List Out) := step E call (.recv x0 x1 x2) ty a h nx
def sf_select (x0 : Array SelectCase) (x1 : Bool) (E : Env) (call : FuncId → List Value → Heap → Nat → R (List Out)) (ty : TypeId) (a : List Value) (h : Heap) (nx : Nat) : R (List Out) := step E call (.select x0 x1) ty a h nx
def stepF (E : Env) (call : FuncId → List Value → Heap → Nat → R (List Out)) (op : Op) (ty : TypeId) (a : List Value) (h : Heap) (nx : Nat) : R (List Out) :=
 @Op.rec (fun _ => Env → (FuncId → List Value → Heap → Nat → R (List Out)) → TypeId → List Value → Heap → Nat → R (List Out)) sf_move sf_assign sf_pick sf_alloc sf_box sf_build sf_buildSlice sf_insert sf_load sf_store sf_ready sf_waits sf_nilCheck sf_binOp sf_unOp sf_convert sf_sliceToArrayPointer sf_makeInterface sf_makeFunc sf_makeMap sf_makeChan sf_makeSlice sf_slice sf_fieldAddr sf_field sf_indexAddr sf_index sf_lookup sf_mapUpdate sf_mapEntry sf_entryStore sf_range sf_next sf_entry sf_typeAssert sf_extract sf_call sf_go sf_defer sf_panic sf_send sf_recv sf_select op E call ty a h nx
theorem ok1_eq (o : Option Value) (h : Heap) (nx : Nat) : ok1 o h nx = (match o with | some v => .ok [(v, h, nx)] | none => .no []) := by cases o <;> rfl
theorem stepF_eq (E : Env) (call : FuncId → List Value → Heap → Nat → R (List Out)) (op : Op) (ty : TypeId) (a : List Value) (h : Heap) (nx : Nat) : stepF E call op ty a h nx = step E call op ty a h nx := by
 have key : ∀ op q, cls E.P op = 0 → quiet E.P h op ty a = q → ok1 q h nx = step E call op ty a h nx := fun op q h0 hq => by
  unfold step; simp only [h0, hq, ok1_eq]
 cases op with
 | move x => exact key _ _ rfl (by unfold qOne; split <;> first | rfl | (unfold quiet; split <;> first | rfl | simp_all))
 | assign x => exact key _ _ rfl (by unfold qOne; split <;> first | rfl | (unfold quiet; split <;> first | rfl | simp_all))
 | load t x => exact key _ _ rfl (by unfold qLoad; split <;> first | rfl | (unfold quiet; split <;> first | rfl | simp_all))
 | pick c x y => exact key _ _ rfl (by unfold qPick; split <;> first | rfl | (unfold quiet; split <;> first | rfl | simp_all))
 | nilCheck x => exact key _ _ rfl (by unfold qNil; split <;> first | rfl | (unfold quiet; split <;> first | rfl | simp_all))
 | binOp o t x y u => exact key _ _ rfl (by unfold qBin; split <;> first | rfl | (unfold quiet; split <;> first | rfl | simp_all))
 | fieldAddr s x f => exact key _ _ rfl (by unfold qFieldAddr; split <;> first | rfl | (unfold quiet; split <;> first | rfl | simp_all))
 | indexAddr t x i => exact key _ _ rfl (by unfold qIndexAddr; split <;> first | rfl | (unfold quiet; split <;> first | rfl | simp_all))
 | extract x i => exact key _ _ rfl (by unfold qExtract; split <;> first | rfl | (unfold quiet; split <;> first | rfl | simp_all))
 | _ => rfl
structure St where
 env : Tr Value
 heap : Heap
 nx : Nat
def forceNat {β : Type} (n : Nat) (k : Nat → β) : β := match n with
 | 0 => k 0
 | m + 1 => k (m + 1)
theorem forceNat_eq {β : Type} (n : Nat) (k : Nat → β) : forceNat n k = k n := by cases n <;> rfl
def forceV {β : Type} (v : Value) (k : Value → β) : β := match v with
 | .int j (.ofNat n) => forceNat n fun n => k (.int j (.ofNat n))
 | .int j (.negSucc n) => forceNat n fun n => k (.int j (.negSucc n))
 | .bool true => k (.bool true)
 | .bool false => k (.bool false)
 | v => k v
theorem forceV_eq {β : Type} (v : Value) (k : Value → β) : forceV v k = k v := by
 cases v with
 | int j n => cases n <;> simp [forceV, forceNat_eq]
 | bool b => cases b <;> rfl
 | _ => rfl
def forceT {α β : Type} (t : Tr α) (k : Tr α → β) : β := match t with
 | .nil => k .nil
 | .node v a0 a1 a2 a3 a4 a5 a6 a7 => k (.node v a0 a1 a2 a3 a4 a5 a6 a7)
theorem forceT_eq {α β : Type} (t : Tr α) (k : Tr α → β) : forceT t k = k t := by cases t <;> rfl
def St.set (env : Tr Value) (dst : Option Nat) (v : Value) (h : Heap) (nx : Nat) : St := match dst with
 | some d => ⟨env.ins d (some v), h, nx⟩
 | none => ⟨env, h, nx⟩
def setK {β : Type} (env : Tr Value) (dst : Option Nat) (v : Value) (h : Heap) (nx : Nat) (k : St → β) : β := match dst with
 | some d => forceV v fun v => forceT h fun h => forceNat nx fun nx => Tr.insF 40 env d (some v) fun env => k ⟨env, h, nx⟩
 | none => forceT h fun h => forceNat nx fun nx => k ⟨env, h, nx⟩
theorem setK_eq {β : Type} (env : Tr Value) (dst : Option Nat) (v : Value) (h : Heap) (nx : Nat) (k : St → β) : setK env dst v h nx k = k (St.set env dst v h nx) := by
 cases dst with
 | none => simp [setK, St.set, forceT_eq, forceNat_eq]
 | some d => simp only [setK, St.set, forceV_eq, forceT_eq, forceNat_eq, Tr.insF_eq]; exact Tr.insK_eq 40 env d (some v) _
def bindL {α β : Type} : List α → (α → R (List β)) → R (List β)
 | [], _ => .ok []
 | x :: l, f => match l with
  | [] => f x
  | y :: m => (match f x with
   | .ok a => (match bindL (y :: m) f with
    | .ok b => .ok (a ++ b)
    | .no w => .no w)
   | .no w => .no w)
theorem bindL_ok {α β : Type} : ∀ {l : List α} {f : α → R (List β)} {r : List β}, bindL l f = .ok r → ∀ x ∈ l, ∃ a, f x = .ok a ∧ ∀ y ∈ a, y ∈ r
 | [], _, _, _, x, hx => by cases hx
 | [x], f, r, h, y, hy => by
  simp only [List.mem_singleton] at hy
  subst hy
  exact ⟨r, h, fun _ h => h⟩
 | x :: y :: m, f, r, h, z, hz => by
  unfold bindL at h
  simp only at h
  split at h
  ·rename_i a ha
   split at h
   ·rename_i b hb
    cases h
    rcases List.mem_cons.1 hz with rfl | hz
    ·exact ⟨a, ha, fun u hu => List.mem_append_left _ hu⟩
    ·obtain ⟨c, hc, hs⟩ := bindL_ok hb z hz
     exact ⟨c, hc, fun u hu => List.mem_append_right _ (hs u hu)⟩
   ·cases h
  ·cases h
def wantsZ (ops : Array Oper) (o : Oper) (env : Tr Value) : Option Bool := match o.guard with
 | none => some true
 | some (j, want) => (match dstOf ops j with
  | some d => (match env.get d with
   | some (.bool b) => (match b, want with
    | true, true => some true
    | false, false => some true
    | _, _ => some false)
   | some (.tuple _) => some false
   | _ => none)
  | none => none)
def stepO (E : Env) (call : FuncId → List Value → Heap → Nat → R (List Out)) (o : Oper) (st : St) : R (List Out) := match argsOf (evalZ st.env) (opnds o.op) with
 | some args => stepF E call o.op o.type args st.heap st.nx
 | none => .no ["operand"]
def zops (E : Env) (call : FuncId → List Value → Heap → Nat → R (List Out)) (ops : Array Oper) : List Oper → St → R (List St)
 | [], st => .ok [st]
 | o :: rest, st => match wantsZ ops o st.env with
  | some false => setK st.env o.dst undef st.heap st.nx (zops E call ops rest)
  | some true => (match stepO E call o st with
   | .ok [(v, h, nx)] => setK st.env o.dst v h nx (zops E call ops rest)
   | .ok l => bindL l (fun x => setK st.env o.dst x.1 x.2.1 x.2.2 (zops E call ops rest))
   | .no w => .no (o.pos :: w))
  | none => .no [o.pos, "guard"]
def selZ (P : Program) (o : Oper) (st : St) : Option (Value × Heap) := match o.guard, o.op with
 | none, .select cs false => (match cs.toList with
  | [c] => (match evalZ st.env c.chan, zeroZ P c.elem with
   | some (.chan (some n)), some z => (match st.heap.get n, c.send with
    | some (.chan cap buf), none => (match buf with
     | [] => some (.tuple #[goInt (-1), .bool false, z], st.heap)
     | x :: r => some (.tuple #[goInt 0, .bool true, x], st.heap.ins n (some (.chan cap r))))
    | some (.chan cap buf), some s => (match evalZ st.env s with
     | some x => (match Nat.blt buf.length cap with
      | true => some (.tuple #[goInt 0, .bool false], st.heap.ins n (some (.chan cap (buf ++ [x]))))
      | false => some (.tuple #[goInt (-1), .bool false], st.heap))
     | none => none)
    | _, _ => none)
   | _, _ => none)
  | _ => none)
 | _, _ => none
def isSelect : Op → Bool
 | .select .. => true
 | _ => false
def zregion (E : Env) (call : FuncId → List Value → Heap → Nat → R (List Out)) (ops : Array Oper) (st : St) : R (List St) := match ops.toList with
 | [] => .ok [st]
 | o :: rest => (match isSelect o.op with
  | true => (match selZ E.P o st with
   | some (v, h) => setK st.env o.dst v h st.nx (zops E call ops rest)
   | none => .no [o.pos, "select"])
  | false => zops E call ops (o :: rest) st)
inductive Ex where
 | normal
 | ret
 | exit (id : Nat)
def zloop (body : St → R (List (Ex × St))) : Nat → St → R (List (Ex × St))
 | 0, _ => .no ["rounds"]
 | n + 1, st => match body st with
  | .ok l => bindL l (fun x => match x with
   | (.normal, st) => zloop body n st
   | (e, st) => .ok [(e, st)])
  | .no w => .no w
abbrev DrawZ := Array Oper → St → R (List St)
def zcode (E : Env) (draw : DrawZ) (call : FuncId → List Value → Heap → Nat → R (List Out)) : Code → St → R (List (Ex × St))
 | .skip, st => .ok [(.normal, st)]
 | .region _ ops d, st => (match (match d with | false => zregion E call ops st | true => draw ops st) with
  | .ok l => .ok (l.map fun st => (.normal, st))
  | .no w => .no w)
 | .seq a b, st => (match zcode E draw call a st with
  | .ok l => bindL l (fun x => match x with
   | (.normal, st) => zcode E draw call b st
   | (e, st) => .ok [(e, st)])
  | .no w => .no w)
 | .cond c a b, st => (match evalZ st.env c with
  | some (.bool true) => zcode E draw call a st
  | some (.bool false) => zcode E draw call b st
  | _ => .no ["cond"])
 | .block id a, st => (match zcode E draw call a st with
  | .ok l => .ok (l.map fun x => match x with
   | (.exit i, st) => (match Nat.beq i id with | true => (.normal, st) | false => (.exit i, st))
   | y => y)
  | .no w => .no w)
 | .loop a, st => zloop (zcode E draw call a) 1000000 st
 | .exit id, st => .ok [(.exit id, st)]
 | .ret, st => .ok [(.ret, st)]
 | _, _ => .no ["code"]
def initZ : List Value → Nat → Tr Value → Tr Value
 | [], _, t => t
 | v :: l, n, t => forceV v fun v => Tr.insF 40 t n (some v) fun t => initZ l (n + 1) t
def resZ (P : Program) (st : St) : ResultVar → Option Value
 | .tmp t => st.env.get t
 | .cell a t => (match st.env.get a with
  | some (.pointer (some ⟨n, off, none⟩)) => loadZ P st.heap t n off
  | _ => none)
def resAll (P : Program) (st : St) : List ResultVar → Option (List Value)
 | [] => some []
 | r :: l => match resZ P st r, resAll P st l with | some v, some vs => some (v :: vs) | _, _ => none
def pack : List Value → Value
 | [v] => v
 | vs => .tuple vs.toArray
def zret (P : Program) (fn : Func) : Ex × St → R (List Out)
 | (.exit _, _) => .no ["exit"]
 | (_, st) => (match resAll P st fn.results.toList with
  | some vs => .ok [(pack vs, st.heap, st.nx)]
  | none => .no ["results"])
def codeOkZ (n : Nat) : Code → Bool
 | .skip => true
 | .region _ ops _ => opsOk n ops.toList
 | .seq a b => (match codeOkZ n a with | true => codeOkZ n b | false => false)
 | .cond _ a b => (match codeOkZ n a with | true => codeOkZ n b | false => false)
 | .block _ a => codeOkZ n a
 | .loop a => codeOkZ n a
 | .exit _ => true
 | .ret => true
 | _ => false
def zfun (E : Env) (draw : (FuncId → List Value → Heap → Nat → R (List Out)) → DrawZ) : Nat → FuncId → List Value → Heap → Nat → R (List Out)
 | 0, _, _, _, _ => .no ["depth"]
 | d + 1, f, args, h, nx => match E.prim f with
  | some p => (match p h nx args with | some l => .ok l | none => .no ["prim"])
  | none => (match E.P.funcs[f]? with
   | some fn => (match fn.body, Nat.ble args.length fn.ntmps with
    | some c, true => (match codeOkZ fn.ntmps c && Nat.ble fn.ntmps 1000000 with
     | true => (match zcode E (draw (zfun E draw d)) (zfun E draw d) c ⟨initZ args 0 .nil, h, nx⟩ with
      | .ok l => bindL l (zret E.P fn)
      | .no w => .no (fn.name :: w))
     | false => .no [fn.name, "dst"])
    | _, _ => .no [fn.name, "body"])
   | none => .no ["func"])
end
noncomputable section
def reads (op : Op) : Bool := match op with
 | .load .. | .lookup .. | .convert .. | .slice .. | .binOp .. | .call _ => true
 | _ => false
structure Watch where
 i : Nat
 op : Op
 ty : TypeId
 args : List Value
 val : Value
 obj : Option (Nat × HO)
mutual
def eqV : Value → Value → Bool
 | .bool a, .bool b => a == b
 | .int j a, .int k b => decide (j = k) && a == b
 | .string a, .string b => eqBytes (bytesOf a) (bytesOf b)
 | .complex .f64 i j, .complex .f64 k l => Nat.beq i k && Nat.beq j l
 | .complex .f32 i j, .complex .f32 k l => Nat.beq i k && Nat.beq j l
 | .pointer none, .pointer none => true
 | .pointer (some ⟨n, o, none⟩), .pointer (some ⟨m, p, none⟩) => Nat.beq n m && Nat.beq o p
 | .pointer (some ⟨n, o, some k⟩), .pointer (some ⟨m, p, some l⟩) => Nat.beq n m && Nat.beq o p && Nat.beq k l
 | .slice none a b, .slice none c d => Nat.beq a c && Nat.beq b d
 | .slice (some ⟨n, o, none⟩) a b, .slice (some ⟨m, p, none⟩) c d => Nat.beq n m && Nat.beq o p && Nat.beq a c && Nat.beq b d
 | .slice (some ⟨n, o, some k⟩) a b, .slice (some ⟨m, p, some l⟩) c d => Nat.beq n m && Nat.beq o p && Nat.beq k l && Nat.beq a c && Nat.beq b d
 | .map none, .map none => true
 | .map (some n), .map (some m) => Nat.beq n m
 | .chan none, .chan none => true
 | .chan (some n), .chan (some m) => Nat.beq n m
 | .nilFunc, .nilFunc => true
 | .nilIface, .nilIface => true
 | .func (.func f) a c, .func (.func g) b d => Nat.beq f g && eqA a b && eqA c d
 | .func (.yield f) a c, .func (.yield g) b d => Nat.beq f g && eqA a b && eqA c d
 | .iface t v, .iface u w => Nat.beq t u && eqV v w
 | .agg a, .agg b => eqA a b
 | .tuple a, .tuple b => eqA a b
 | _, _ => false
def eqA : Array Value → Array Value → Bool
 | ⟨a⟩, ⟨b⟩ => eqL a b
def eqL : List Value → List Value → Bool
 | [], [] => true
 | x :: l, y :: m => eqV x y && eqL l m
 | _, _ => false
end
def eqO : HO → HO → Bool
 | .cells t l, .cells u m => Nat.beq t u && eqL l m
 | .map [], .map [] => true
 | .chan a [], .chan b [] => Nat.beq a b
 | _, _ => false
def Watch.holds (P : Program) (h : Heap) (x : Watch) : Bool := match x.obj with
 | none => (match quiet P h x.op x.ty x.args with | some v => eqV v x.val | none => false)
 | some (n, o) => (match h.get n with | some o' => eqO o' o | none => false)
def allHold (P : Program) (h : Heap) : List Watch → Bool
 | [] => true
 | x :: l => match x.holds P h with | true => allHold P h l | false => false
def isTmp (t : Nat) : Operand → Bool
 | .tmp u => Nat.beq t u
 | _ => false
def looksB (ops : Array Oper) (o : Oper) (t : Nat) : Bool := (opnds o.op).any (isTmp t) || (match o.guard with
 | some (j, _) => (match dstOf ops j with | some d => Nat.beq d t | none => true)
 | none => false)
def pairOk (ops : Array Oper) (ms : List Nat) (i : Nat) (o : Oper) (j : Nat) (p : Oper) : Bool := match Nat.beq i j with
 | true => (match o.dst with | some d => !looksB ops p d | none => true)
 | false => (match o.dst with
  | none => true
  | some d => (match p.dst with | some d' => !Nat.beq d d' | none => true) && (!looksB ops p d || trW ms j i || trW ms i j))
def rowOk (ops : Array Oper) (ms : List Nat) (i : Nat) (o : Oper) : Nat → List Oper → Bool
 | _, [] => true
 | j, p :: l => pairOk ops ms i o j p && rowOk ops ms i o (j + 1) l
def allOk (ops : Array Oper) (ms : List Nat) : Nat → List Oper → Bool
 | _, [] => true
 | i, o :: l => rowOk ops ms i o 0 ops.toList && allOk ops ms (i + 1) l
def staticB (ops : Array Oper) : Bool := edgesB 0 ops.toList && allOk ops (masks ops.toList []) 0 ops.toList
def readyB (done : Nat) : List Edge → Bool
 | [] => true
 | e :: l => (!bindsB e || done.testBit e.on) && readyB done l
def tagOps : Nat → List Oper → List (Nat × Oper)
 | _, [] => []
 | i, o :: l => (i, o) :: tagOps (i + 1) l
def pickQ (P : Program) (ops : Array Oper) (done : Nat) (env : Tr Value) : List (Nat × Oper) → Option ((Nat × Oper × Bool) × List (Nat × Oper))
 | [] => none
 | (i, o) :: l => match (match readyB done o.after.toList with
   | true => (match wantsZ ops o env with
    | some false => some false
    | some true => (match cls P o.op with | 2 => none | _ => some true)
    | none => none)
   | false => none) with
  | some b => some ((i, o, b), l)
  | none => (match pickQ P ops done env l with | some (x, r) => some (x, (i, o) :: r) | none => none)
def pickL (done : Nat) : List (Nat × Oper) → Option ((Nat × Oper) × List (Nat × Oper))
 | [] => none
 | (i, o) :: l => match readyB done o.after.toList with
  | true => some ((i, o), l)
  | false => (match pickL done l with | some (x, r) => some (x, (i, o) :: r) | none => none)
def noneReady (done : Nat) : List (Nat × Oper) → Bool
 | [] => true
 | (_, o) :: l => !readyB done o.after.toList && noneReady done l
def dropW (ms : List Nat) (i : Nat) : List Watch → List Watch
 | [] => []
 | x :: l => match trW ms i x.i with | true => dropW ms i l | false => x :: dropW ms i l
def dloop (E : Env) (call : FuncId → List Value → Heap → Nat → R (List Out)) (ops : Array Oper) (ms : List Nat) : Nat → List (Nat × Oper) → Nat → List Watch → St → R St
 | 0, _, _, _, _ => .no ["drawn"]
 | f + 1, todo, done, ws, st => match todo with
  | [] => (match allHold E.P st.heap ws with | true => .ok st | false => .no ["late"])
  | _ :: _ => (match pickQ E.P ops done st.env todo with
   | some ((i, o, false), rest) => setK st.env o.dst undef st.heap st.nx (dloop E call ops ms f rest (done ||| 2 ^ i) ws)
   | some ((i, o, true), rest) => (match argsOf (evalZ st.env) (opnds o.op) with
    | some args => (match cls E.P o.op with
     | 0 => (match quiet E.P st.heap o.op o.type args with
      | some v => setK st.env o.dst v st.heap st.nx (dloop E call ops ms f rest (done ||| 2 ^ i) (match reads o.op with | true => ⟨i, o.op, o.type, args, v, none⟩ :: ws | false => ws))
      | none => .no [o.pos])
     | 1 => (match lays E.P o.op args st.nx with
      | some (v, ob) => setK st.env o.dst v (st.heap.ins st.nx (some ob)) (st.nx + 1) (dloop E call ops ms f rest (done ||| 2 ^ i) (⟨i, o.op, o.type, args, v, some (st.nx, ob)⟩ :: ws))
      | none => .no [o.pos])
     | _ => .no [o.pos])
    | none => .no [o.pos, "operand"])
   | none => (match allHold E.P st.heap ws, pickL done todo with
    | true, some ((i, o), rest) => (match noneReady done rest, wantsZ ops o st.env, cls E.P o.op with
     | true, some true, 2 => (match stepO E call o st with
      | .ok [(v, h, nx)] => setK st.env o.dst v h nx (dloop E call ops ms f rest (done ||| 2 ^ i) (dropW ms i ws))
      | .ok _ => .no [o.pos, "ways"]
      | .no w => .no (o.pos :: w))
     | _, _, _ => .no [o.pos, "drawn"])
    | _, some ((_, o), _) => .no [o.pos, "late"]
    | _, none => .no ["none ready"]))
def zdraw (E : Env) (call : FuncId → List Value → Heap → Nat → R (List Out)) : DrawZ := fun ops st => match staticB ops with
 | true => (match dloop E call ops (masks ops.toList []) (ops.size + 1) (tagOps 0 ops.toList) 0 [] st with
  | .ok st => .ok [st]
  | .no w => .no w)
 | false => .no ["static", (match ops[0]? with | some o => o.pos | none => "")]
def run (E : Env) (d : Nat) (f : FuncId) (args : List Value) (h : Heap) (nx : Nat) : R (List Out) := zfun E (zdraw E) d f args h nx
end
end Go.Z
end
