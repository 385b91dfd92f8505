/- One part of a proof: an evaluator of the model, shown right, and contracts that it yields. No condition beyond those that each theorem names. -/
import Derived.Test.YtnhllgedoimhkaaGreatDoorLA
import Derived.Test.YtnhllgedoimhkaaGreatDoorXY
import Derived.OpenShut
set_option linter.unusedSimpArgs false
set_option linter.unusedVariables false
set_option linter.unusedSectionVars false
set_option linter.deprecated false
section
namespace Go.Proofs.LB
open Go.X
set_option maxRecDepth 100000
def InR (a : Int) : Prop := -9223372036854775808 ≤ a ∧ a ≤ 9223372036854775807
structure Val where
 k : Int
 n : Int
 t : ByteArray
deriving DecidableEq
def vv (x : Val) : Value := .agg #[.int .i64 x.k, .int .i64 x.n, .string x.t]
def vcells (x : Val) : List Value := [.int .i64 x.k, .int .i64 x.n, .string x.t]
theorem in_i64 {a : Int} (h : (Lit.int .i64 a).wf = true) : InR a := by
 simp only [Lit.wf, Bool.and_eq_true, decide_eq_true_eq] at h
 have e1 : IntKind.i64.min = -9223372036854775808 := by decide +kernel
 have e2 : IntKind.i64.max = 9223372036854775807 := by decide +kernel
 rw [e1, e2] at h
 exact h
def sameV (x y : Val) : Bool := x.k == y.k && (x.n == y.n && x.t.toList == y.t.toList)
theorem sameV_self (x : Val) : sameV x x = true := by simp [sameV]
theorem has_flat {α : Type} {f : α → List Value} {n : Nat} (hn : ∀ x, (f x).length = n) {V : View} {p : Nat} : ∀ (l : List α) (off : Nat), V.has p off (l.flatMap f) → ∀ (i : Nat) (x : α), l[i]? = some x → V.has p (off + i * n) (f x)
 | [], off, _, i, x, hx => by simp at hx
 | y :: l, off, h, i, x, hx => by
  rw [List.flatMap_cons] at h
  cases i with
  | zero =>
   simp only [List.getElem?_cons_zero, Option.some.injEq] at hx
   subst hx
   intro j v hj
   rw [Nat.zero_mul, Nat.add_zero]
   refine h j v ?_
   rw [List.getElem?_append_left (List.getElem?_eq_some_iff.1 hj).1]; exact hj
  | succ i =>
   have h2 : V.has p (off + n) (l.flatMap f) := fun j v hj => by
    have := h (n + j) v (by rw [List.getElem?_append_right (by rw [hn]; omega), hn, Nat.add_sub_cancel_left]; exact hj)
    rwa [← Nat.add_assoc] at this
   have := has_flat hn l (off + n) h2 i x (by simpa using hx)
   rw [Nat.succ_mul, Nat.add_comm (i * n) n, ← Nat.add_assoc]
   exact this
theorem flat_len {α : Type} {f : α → List Value} {n : Nat} (hn : ∀ x, (f x).length = n) : ∀ l : List α, (l.flatMap f).length = l.length * n
 | [] => by simp
 | x :: l => by rw [List.flatMap_cons, List.length_append, hn, flat_len hn l, List.length_cons, Nat.succ_mul, Nat.add_comm]
theorem wrap_big {i n : Nat} (h : i < n) (hn : n ≤ 9223372036854775807) : IntKind.i64.wrap ((i : Int) + 1) = ((i + 1 : Nat) : Int) := by rw [wrapE]; omega
structure ValsAt (V : View) (l : List Val) (base : Option Addr) : Prop where
 has : l ≠ [] → ∃ p off, base = some ⟨p, off, none⟩ ∧ V.has p off (l.flatMap vcells)
 len : l.length ≤ 9223372036854775807
theorem ValsAt.mono {V V' : View} {l : List Val} {base : Option Addr} (h : ValsAt V l base) (hV : V.le V') : ValsAt V' l base := ⟨fun hn => by
 obtain ⟨p, off, h1, h2⟩ := h.has hn
 exact ⟨p, off, h1, h2.mono hV⟩, h.len⟩
theorem ValsAt.at {V : View} {l : List Val} {base : Option Addr} (h : ValsAt V l base) {i : Nat} {x : Val} (hx : l[i]? = some x) : ∃ p off, base = some ⟨p, off, none⟩ ∧ V.has p (off + i * 3) (vcells x) := by
 obtain ⟨p, off, h1, h2⟩ := h.has (fun e => by rw [e] at hx; simp at hx)
 exact ⟨p, off, h1, has_flat (n := 3) (fun _ => rfl) l off h2 i x hx⟩
def Plain (base : Option Addr) : Prop := base = none ∨ ∃ p off, base = some ⟨p, off, none⟩
def PlainR (r : List Val) (base : Option Addr) : Prop := r = [] ∨ Plain base
def RowAt (V : View) (r : List Val) (v : Value) : Prop := ∃ base cap, v = .slice base r.length cap ∧ PlainR r base ∧ ValsAt V r base
theorem RowAt.mono {V V' : View} {r : List Val} {v : Value} (h : RowAt V r v) (hV : V.le V') : RowAt V' r v := by
 obtain ⟨base, cap, h1, hp, h2⟩ := h
 exact ⟨base, cap, h1, hp, h2.mono hV⟩
structure CellsAt (V : View) (rows : List (List Val)) (cells : List Value) : Prop where
 len : cells.length = rows.length
 at' : ∀ (i : Nat) (r : List Val) (c : Value), rows[i]? = some r → cells[i]? = some c → RowAt V r c
theorem CellsAt.mono {V V' : View} {rows : List (List Val)} {cells : List Value} (h : CellsAt V rows cells) (hV : V.le V') : CellsAt V' rows cells := ⟨h.len, fun i r c h1 h2 => (h.at' i r c h1 h2).mono hV⟩
theorem CellsAt.nil {V : View} : CellsAt V [] [] := ⟨rfl, fun i r c h => by simp at h⟩
structure RowsAt (V : View) (rows : List (List Val)) (base : Option Addr) : Prop where
 get : ∃ cells, CellsAt V rows cells ∧ (rows ≠ [] → ∃ p off, base = some ⟨p, off, none⟩ ∧ V.has p off cells)
 len : rows.length ≤ 9223372036854775807
theorem RowsAt.mono {V V' : View} {rows : List (List Val)} {base : Option Addr} (h : RowsAt V rows base) (hV : V.le V') : RowsAt V' rows base := by
 refine ⟨?_, h.len⟩
 obtain ⟨cells, h1, h2⟩ := h.get
 refine ⟨cells, h1.mono hV, fun hn => ?_⟩
 obtain ⟨p, off, h3, h4⟩ := h2 hn
 exact ⟨p, off, h3, h4.mono hV⟩
theorem has_one {V : View} {p off : Nat} {l : List Value} (h : V.has p off l) {i : Nat} {c : Value} (hc : l[i]? = some c) : V.has p (off + i) [c] := fun j v hj => by
 cases j with
 | zero =>
  simp only [List.getElem?_cons_zero, Option.some.injEq] at hj
  subst hj
  exact h i _ hc
 | succ j => simp at hj
theorem RowsAt.at {V : View} {rows : List (List Val)} {base : Option Addr} (h : RowsAt V rows base) {i : Nat} {r : List Val} (hr : rows[i]? = some r) :
  ∃ p off c, base = some ⟨p, off, none⟩ ∧ V.has p (off + i) [c] ∧ RowAt V r c := by
 obtain ⟨cells, h1, h2⟩ := h.get
 obtain ⟨p, off, h3, h4⟩ := h2 (fun e => by rw [e] at hr; simp at hr)
 obtain ⟨c, hc⟩ : ∃ c, cells[i]? = some c := ⟨_, List.getElem?_eq_getElem (by rw [h1.len]; exact (List.getElem?_eq_some_iff.1 hr).1)⟩
 exact ⟨p, off, c, h3, has_one h4 hc, h1.at' i r c hr hc⟩
structure Rp where
 s : Int
 lab : Lab
 e : Int
 a : Int
 rb : Option Addr
 rc : Nat
 rows : List (List Val)
 n : Int
 w : Int
def Rp.cells (r : Rp) : List Value := [.int .i64 r.s, .slice r.lab.base r.lab.l.length r.lab.cap, .int .i64 r.e, .int .i64 r.a, .slice r.rb r.rows.length r.rc, .int .i64 r.n, .int .u64 r.w]
def Rp.val (r : Rp) : Value := .agg #[.int .i64 r.s, .slice r.lab.base r.lab.l.length r.lab.cap, .int .i64 r.e, .int .i64 r.a, .slice r.rb r.rows.length r.rc, .int .i64 r.n, .int .u64 r.w]
structure Rp.ok (r : Rp) (V : View) : Prop where
 lab : r.lab.at V
 rows : RowsAt V r.rows r.rb
theorem Rp.ok.mono {r : Rp} {V V' : View} (h : r.ok V) (hV : V.le V') : r.ok V' := ⟨h.lab.mono hV, h.rows.mono hV⟩
structure RpsAt (V : View) (l : List Rp) (base : Option Addr) : Prop where
 has : l ≠ [] → ∃ p off, base = some ⟨p, off, none⟩ ∧ V.has p off (l.flatMap Rp.cells)
 len : l.length ≤ 9223372036854775807
 ok : ∀ r ∈ l, r.ok V
theorem RpsAt.mono {V V' : View} {l : List Rp} {base : Option Addr} (h : RpsAt V l base) (hV : V.le V') : RpsAt V' l base := ⟨fun hn => by
 obtain ⟨p, off, h1, h2⟩ := h.has hn
 exact ⟨p, off, h1, h2.mono hV⟩, h.len, fun r hr => (h.ok r hr).mono hV⟩
theorem RpsAt.at {V : View} {l : List Rp} {base : Option Addr} (h : RpsAt V l base) {i : Nat} {x : Rp} (hx : l[i]? = some x) : ∃ p off, base = some ⟨p, off, none⟩ ∧ V.has p (off + i * 7) x.cells ∧ x.ok V := by
 obtain ⟨p, off, h1, h2⟩ := h.has (fun e => by rw [e] at hx; simp at hx)
 exact ⟨p, off, h1, has_flat (n := 7) (fun _ => rfl) l off h2 i x hx, h.ok x (List.mem_of_getElem? hx)⟩
theorem RpsAt.of_cells {V : View} {l : List Rp} {base : Option Addr} {len cap : Nat} (hc : V.cells (.slice base len cap) (l.flatMap Rp.cells)) (hl : l.length ≤ 9223372036854775807) (ho : ∀ r ∈ l, r.ok V) : RpsAt V l base :=
 ⟨fun hn => cells_some hc (fun e => hn (List.eq_nil_of_length_eq_zero (by have := congrArg List.length e; rw [flat_len (f := Rp.cells) (n := 7) (fun _ => rfl)] at this; simp only [List.length_nil] at this; omega))), hl, ho⟩
theorem RpsAt.cut {V V' : View} {l : List Rp} {base : Option Addr} {b : Nat} {x : Value} (h : RpsAt V' l base) (hb : ∀ o u, V' b o = some u → [x][o]? = some u) (hok : ∀ r ∈ l, r.ok V) (hle : V.le (V'.cut b)) : RpsAt (V'.cut b) l base := by
 refine ⟨fun hn => ?_, h.len, fun r hr => (hok r hr).mono hle⟩
 obtain ⟨p, off, h1, h2⟩ := h.has hn
 refine ⟨p, off, h1, fun i v hi => ?_⟩
 have hp : p ≠ b := by
  rintro rfl
  obtain ⟨r, l', rfl⟩ := List.exists_cons_of_ne_nil hn
  have := hb _ _ (h2 1 (.slice r.lab.base r.lab.l.length r.lab.cap) rfl)
  have := (List.getElem?_eq_some_iff.1 this).1
  simp at this
 exact View.cut_of (h2 i v hi) hp
end Go.Proofs.LB
end
