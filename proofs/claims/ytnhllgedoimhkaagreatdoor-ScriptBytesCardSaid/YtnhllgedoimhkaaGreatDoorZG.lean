/- One part of a proof: an evaluator of the model, shown right, and contracts that it yields. No condition beyond those that each theorem names. -/
import Derived.Test.YtnhllgedoimhkaaGreatDoorZE
import Derived.Lib.Bytealg
import Derived.Lib.UnsafeStr
import Derived.Laws.Externs
import Derived.Test.YtnhllgedoimhkaaGreatDoorZB
set_option linter.unusedSimpArgs false
set_option linter.unusedVariables false
set_option linter.unusedSectionVars false
set_option linter.deprecated false
section
namespace Go.Z
open Go.X
open Go.RowKit
noncomputable section
def cmpL : List UInt8 → List UInt8 → Int
 | [], [] => 0
 | [], _ :: _ => -1
 | _ :: _, [] => 1
 | a :: x, b :: y => match Nat.blt a.toNat b.toNat with
  | true => -1
  | false => (match Nat.blt b.toNat a.toNat with
   | true => 1
   | false => cmpL x y)
def bytesZ (h : Heap) : Value → Option (List UInt8)
 | .string s => some (bytesOf s)
 | .slice a len cap => (match rowCells h 1 len (.slice a len cap) with
  | some l => u8s l
  | none => none)
 | _ => none
def cmpZ (h : Heap) : List Value → Option Value
 | [a, b] => (match bytesZ h a, bytesZ h b with
  | some x, some y => some (goInt (cmpL x y))
  | _, _ => none)
 | _ => none
section
variable {P : Program} {σ : Nat → Nat → Value} {w0 : World} {h : Heap} {ρ : Ren} {w : World}
theorem compareBytes_eq : ∀ (x y : List UInt8), Lib.compareBytes x y = cmpL x y
 | [], [] => rfl
 | [], _ :: _ => rfl
 | _ :: _, [] => rfl
 | a :: x, b :: y => by
  unfold Lib.compareBytes cmpL
  rw [compareBytes_eq x y]
  have h1 : ∀ a b : UInt8, Nat.blt a.toNat b.toNat = decide (a < b) := fun a b => by
   rw [Bool.eq_iff_iff]
   simp [Nat.blt_eq, UInt8.lt_iff_toNat_lt]
  rw [h1, h1]
  by_cases hab : a < b
  ·simp [hab]
  ·by_cases hba : b < a
   ·simp [hab, hba]
   ·simp [hab, hba]
theorem run_loadBytesZ : ∀ (xs : List UInt8) (a : Addr) (acc : ByteArray), (∀ (j : Nat) (x : UInt8), xs[j]? = some x → w.cell? (a.add j) = some (.int .u8 x.toNat)) → (Extern.Bytes.loadBytes a xs.length acc).run P w = .ok (ofBytes (bytesOf acc ++ xs)) w
 | [], a, acc, _ => by simp [Extern.Bytes.loadBytes, bytesOf, ofBytes]
 | x :: l, a, acc, h => by
  have h0 : w.cell? a = some (.int .u8 x.toNat) := by
   have := h 0 x rfl
   simpa [Addr.add] using this
  have ih := run_loadBytesZ l (a.add 1) (acc.push x) (fun j y hy => by
   have := h (j + 1) y (by simpa using hy)
   have e : (a.add 1).add j = a.add (j + 1) := by
    unfold Addr.add
    by_cases hj : j = 0
    ·subst hj; simp
    ·simp [hj]; omega
   rw [e]; exact this)
  have hx : ((x.toNat : Nat) : Int).toNat.toUInt8 = x := by simp
  simp only [List.length_cons, Extern.Bytes.loadBytes, Sem.run_bind, run_load, h0, Result.andThen, hx]
  rw [ih]
  congr 1
  simp [ofBytes, bytesOf, ByteArray.push]
theorem bytesZ_sound (k : WI σ w0 h ρ w) {x x' : Value} {l : List UInt8} (hr : Rep σ ρ x x') (hl : bytesZ h x = some l) : (Extern.Bytes.bytesOf x').run P w = .ok (ofBytes l) w := by
 unfold bytesZ at hl
 split at hl
 ·have := hr.string; subst this
  cases hl
  rfl
 ·rename_i a len cap
  split at hl
  ·rename_i cs hcs
   have h8 := u8s_spec hl
   obtain ⟨l', hrl, hf, _⟩ := rowCells_sound (P := P) k hr hcs (fun _ _ _ e => by cases e; exact Nat.le_refl _) (fun _ e => by cases e)
   obtain ⟨a', cap', rfl, hb, hnone⟩ := rep_slice hr
   cases a with
   | none =>
    have := hnone rfl
    subst this
    simp only [rowCells] at hcs
    split at hcs
    ·cases hcs
     simp only [u8s, Option.some.injEq] at hl
     subst hl
     rfl
    ·cases hcs
   | some q =>
    obtain ⟨n, off, s⟩ := q
    obtain ⟨b, c, off', hn, hoff, rfl⟩ := hb n off s rfl
    have hll : l' = l.map fun b => Value.int .u8 b.toNat := by
     have := hrl.of_plain (by rw [h8]; exact u8_plain l)
     rw [this, h8]
    cases len with
    | zero =>
     simp only [rowCells] at hcs
     cases hcs
     simp only [u8s, Option.some.injEq] at hl
     subst hl
     rfl
    | succ m =>
     have := hoff (Nat.succ_pos m)
     subst this
     simp only [rowCells] at hcs
     split at hcs
     ·rename_i o ho
      split at hcs
      ·rename_i cl hcl
       split at hcs
       ·rename_i hlen
        cases hcs
        obtain ⟨cl', hr', hc⟩ := k.cellsAt hn ho hcl
        have hrr := (hr'.drop off').take ((m + 1) * 1)
        have he : (cl'.drop off').take ((m + 1) * 1) = l.map fun b => Value.int .u8 b.toNat := by
         have := hrr.of_plain (by rw [h8]; exact u8_plain l)
         rw [this, h8]
        have hlenl : l.length = m + 1 := by
         have h3 := Nat.eq_of_beq_eq_true hlen
         rw [h8] at h3
         simpa using h3
        have := run_loadBytesZ (P := P) (w := w) l ⟨b, off', none⟩ .empty (fun j x hj => by
         rw [add_lit]
         refine hc _ _ (drop_take_get (z := (m + 1) * 1) ?_)
         rw [he]
         simp [hj])
        rw [hlenl] at this
        exact this
       ·cases hcs
      ·cases hcs
     ·cases hcs
  ·cases hl
 ·cases hl
theorem cmpZ_sound {g : FuncId} {fn : Func} (hf : P.funcs[g]? = some fn) (hname : (fn.name == "runtime.NumGoroutine") = false) (hb : fn.body.isNone = true) (hn : Extern.findNext fn = none) (he : Extern.find fn = some Extern.BytealgCompare.compare)
  (k : WI σ w0 h ρ w) {args vs : List Value} {v : Value} (ha : RepL σ ρ args vs) (hv : cmpZ h args = some v) : ∃ v', (callFunc g vs.toArray).run P w = .ok (.value v') w ∧ Rep σ ρ v v' := by
 unfold cmpZ at hv
 split at hv
 ·rename_i a b
  obtain ⟨a', b', rfl, h1, h2⟩ := ha.two
  split at hv
  ·rename_i x y hx hy
   cases hv
   refine ⟨goInt (cmpL x y), ?_, .plain rfl⟩
   rw [run_callFunc_extern hf hname hb hn he]
   have e1 := bytesZ_sound (P := P) k h1 hx
   have e2 := bytesZ_sound (P := P) k h2 hy
   have e3 : Extern.BytealgCompare.cmp (ofBytes x) (ofBytes y) = cmpL x y := by
    rw [Lib.cmp_eq, compareBytes_eq]; rfl
   show ((do pure (goInt (Extern.BytealgCompare.cmp (← Extern.Bytes.bytesOf a') (← Extern.Bytes.bytesOf b'))) : Sem Value).run P w).andThen _ = _
   simp [e1, e2, e3]
  ·cases hv
 ·cases hv
end
end
noncomputable section
def isByte : Value → Bool
 | .int .u8 (.ofNat n) => Nat.ble n 255
 | .complex .f64 _ j => Nat.beq j 2 || Nat.beq j 3 || Nat.beq (j / 8) 2
 | _ => false
def allBytes : List Value → Bool
 | [] => true
 | x :: l => (match isByte x with | true => allBytes l | false => false)
def vcmp : List Value → List Value → Option Int
 | [], [] => some 0
 | [], _ :: _ => some (-1)
 | _ :: _, [] => some 1
 | .int .u8 (.ofNat a) :: x, .int .u8 (.ofNat b) :: y => (match Nat.blt a b, Nat.blt b a with
  | true, _ => some (-1)
  | false, true => some 1
  | false, false => vcmp x y)
 | .complex .f64 i j :: x, .complex .f64 k l :: y => (match Nat.beq i k && Nat.beq j l with
  | true => vcmp x y
  | false => none)
 | _, _ => none
def bytesY (h : Heap) : Value → Option (List Value)
 | .slice a len cap => (match rowCells h 1 len (.slice a len cap) with
  | some l => (match allBytes l with | true => some l | false => none)
  | none => none)
 | _ => none
def cmpY (h : Heap) (args : List Value) : Option Value := match args with
 | [a, b] => (match bytesY h a, bytesY h b with
  | some x, some y => (match vcmp x y with | some c => some (goInt c) | none => none)
  | _, _ => none)
 | _ => none
def cmpB (h : Heap) (args : List Value) : Option Value := match cmpZ h args with
 | some v => some v
 | none => cmpY h args
section
variable {P : Program} {σ : Nat → Nat → Value} [SigOk σ] {w0 : World} {h : Heap} {ρ : Ren} {w : World}
def Bytes (l' : List Value) (r : List UInt8) : Prop := l' = r.map fun b => Value.int .u8 b.toNat
theorem isByte_spec {x x' : Value} (hx : Rep σ ρ x x') (h : isByte x = true) : ∃ b : UInt8, x' = .int .u8 b.toNat := by
 obtain ⟨T, K, hT, hK, hs, _⟩ := SigOk.ex (σ := σ)
 unfold isByte at h
 split at h
 ·rename_i n
  have := hx.int; subst this
  have h := Nat.le_of_ble_eq_true h
  exact ⟨UInt8.ofNat n, by simp; omega⟩
 ·rename_i i j
  have := hx.sy_inv; subst this
  rw [hs]
  simp only [Bool.or_eq_true] at h
  rcases h with (h | h) | h
  ·have h := Nat.eq_of_beq_eq_true h
   subst h
   have := hT i
   exact ⟨UInt8.ofNat (T i / 256), by show Value.int .u8 ((T i / 256 : Nat) : Int) = _; simp; omega⟩
  ·have h := Nat.eq_of_beq_eq_true h
   subst h
   exact ⟨UInt8.ofNat (T i % 256), by show Value.int .u8 ((T i % 256 : Nat) : Int) = _; simp⟩
  ·have h := Nat.eq_of_beq_eq_true h
   obtain ⟨s, rfl⟩ : ∃ s, j = 16 + s := ⟨j - 16, by omega⟩
   rw [sval2 _ _ _ (by omega)]
   exact ⟨UInt8.ofNat (xkN (K i) / 256 ^ s % 256), by simp⟩
 ·cases h
theorem allBytes_spec : ∀ {l l' : List Value}, RepL σ ρ l l' → allBytes l = true → ∃ r, Bytes l' r
 | [], _, .nil, _ => ⟨[], rfl⟩
 | x :: l, _, .cons hx hl, h => by
  unfold allBytes at h
  split at h
  ·rename_i hb
   obtain ⟨b, hb⟩ := isByte_spec hx hb
   obtain ⟨r, hr⟩ := allBytes_spec hl h
   exact ⟨b :: r, by unfold Bytes at hr ⊢; rw [hb, hr]; rfl⟩
  ·cases h
theorem u8_inj {a b : UInt8} (h : (a.toNat : Int) = b.toNat) : a = b := by
 apply UInt8.toNat_inj.1
 omega
theorem vcmp_spec : ∀ {x y x' y' : List Value} {r s : List UInt8} {c : Int}, RepL σ ρ x x' → RepL σ ρ y y' → Bytes x' r → Bytes y' s → vcmp x y = some c → cmpL r s = c
 | [], [], _, _, r, s, c, .nil, .nil, hr, hs, h => by
  cases r with
  | nil => cases s with
   | nil => cases h; rfl
   | cons b s => cases hs
  | cons b r => cases hr
 | [], y :: l, _, _, r, s, c, .nil, .cons _ _, hr, hs, h => by
  cases r with
  | nil => cases s with
   | nil => cases hs
   | cons b s => cases h; rfl
  | cons b r => cases hr
 | x :: l, [], _, _, r, s, c, .cons _ _, .nil, hr, hs, h => by
  cases s with
  | nil => cases r with
   | nil => cases hr
   | cons b s => cases h; rfl
  | cons b r => cases hs
 | x :: l, y :: m, _, _, r, s, c, .cons hx hl, .cons hy hm, hr, hs, h => by
  cases r with
  | nil => cases hr
  | cons a r =>
   cases s with
   | nil => cases hs
   | cons b s =>
    unfold Bytes at hr hs
    simp only [List.map_cons, List.cons.injEq] at hr hs
    obtain ⟨hr1, hr2⟩ := hr
    obtain ⟨hs1, hs2⟩ := hs
    unfold vcmp at h
    split at h
    ·rename_i e1 e2; cases e1
    ·rename_i e1 e2; cases e1
    ·rename_i e1 e2; cases e2
    ·rename_i n x2 k y2 e1 e2
     cases e1; cases e2
     have h1 := hx.int
     have h2 := hy.int
     rw [hr1] at h1
     rw [hs1] at h2
     have h1 : a.toNat = n := by injection h1 with _ h1; exact Int.ofNat.inj h1
     have h2 : b.toNat = k := by injection h2 with _ h2; exact Int.ofNat.inj h2
     unfold cmpL
     rw [h1, h2]
     split at h
     ·rename_i hlt; cases h; rw [hlt]
     ·rename_i hlt hgt; cases h; rw [hlt, hgt]
     ·rename_i hlt hgt
      rw [hlt, hgt]
      exact vcmp_spec hl hm hr2 hs2 h
    ·rename_i i j x2 k l2 y2 e1 e2
     cases e1; cases e2
     split at h
     ·rename_i he
      simp only [Bool.and_eq_true] at he
      have e1 := Nat.eq_of_beq_eq_true he.1
      have e2 := Nat.eq_of_beq_eq_true he.2
      subst e1; subst e2
      have h1 := hx.sy_inv
      have h2 := hy.sy_inv
      rw [hr1] at h1
      rw [hs1] at h2
      have h3 := h1.trans h2.symm
      have h3 : a = b := by injection h3 with _ h3; exact u8_inj h3
      subst h3
      unfold cmpL
      have hlt : Nat.blt a.toNat a.toNat = false := by
       cases hb : Nat.blt a.toNat a.toNat with
       | false => rfl
       | true => exact absurd (Nat.le_of_ble_eq_true hb) (Nat.lt_irrefl _)
      rw [hlt]
      exact vcmp_spec hl hm hr2 hs2 h
     ·cases h
    ·cases h
theorem bytesY_sound (k : WI σ w0 h ρ w) {x x' : Value} {l : List Value} (hr : Rep σ ρ x x') (hl : bytesY h x = some l) : ∃ l' r, RepL σ ρ l l' ∧ Bytes l' r ∧ (Extern.Bytes.bytesOf x').run P w = .ok (ofBytes r) w := by
 unfold bytesY at hl
 split at hl
 ·rename_i a len cap
  split at hl
  ·rename_i cs hcs
   split at hl
   ·rename_i hall
    cases hl
    obtain ⟨l', hrl, hf, _⟩ := rowCells_sound (P := P) k hr hcs (fun _ _ _ e => by cases e; exact Nat.le_refl _) (fun _ e => by cases e)
    obtain ⟨a', cap', rfl, hb, hnone⟩ := rep_slice hr
    obtain ⟨r, hll⟩ := allBytes_spec hrl hall
    refine ⟨l', r, hrl, hll, ?_⟩
    cases a with
    | none =>
     have := hnone rfl
     subst this
     simp only [rowCells] at hcs
     split at hcs
     ·cases hcs
      cases hrl
      cases r with
      | nil => rfl
      | cons b r => cases hll
     ·cases hcs
    | some q =>
     obtain ⟨n, off, s⟩ := q
     obtain ⟨b, c, off', hn, hoff, rfl⟩ := hb n off s rfl
     cases len with
     | zero =>
      simp only [rowCells] at hcs
      cases hcs
      cases hrl
      cases r with
      | nil => rfl
      | cons b r => cases hll
     | succ m =>
      have := hoff (Nat.succ_pos m)
      subst this
      simp only [rowCells] at hcs
      split at hcs
      ·rename_i o ho
       split at hcs
       ·rename_i cl hcl
        split at hcs
        ·rename_i hlen
         cases hcs
         obtain ⟨cl', hr', hc⟩ := k.cellsAt hn ho hcl
         have hrr := (hr'.drop off').take ((m + 1) * 1)
         have hu : ∀ {l m m' : List Value}, RepL σ ρ l m → RepL σ ρ l m' → allBytes l = true → m = m' := by
          intro l
          induction l with
          | nil => intro m m' h1 h2 _; cases h1; cases h2; rfl
          | cons x l ih =>
           intro m m' h1 h2 hb
           cases h1 with
           | cons p1 q1 =>
            cases h2 with
            | cons p2 q2 =>
             unfold allBytes at hb
             split at hb
             ·rename_i hx
              rw [ih q1 q2 hb]
              congr 1
              unfold isByte at hx
              split at hx
              ·rw [p1.int, p2.int]
              ·rw [p1.sy_inv, p2.sy_inv]
              ·cases hx
             ·cases hb
         have he : (cl'.drop off').take ((m + 1) * 1) = r.map fun b => Value.int .u8 b.toNat := by
          rw [hu hrr hrl hall]; exact hll
         have hlenl : r.length = m + 1 := by
          have h3 := Nat.eq_of_beq_eq_true hlen
          have h4 := hrl.length
          rw [hll, List.length_map] at h4
          omega
         have := run_loadBytesZ (P := P) (w := w) r ⟨b, off', none⟩ .empty (fun j x hj => by
          rw [add_lit]
          refine hc _ _ (drop_take_get (z := (m + 1) * 1) ?_)
          rw [he]
          simp [hj])
         rw [hlenl] at this
         exact this
        ·cases hcs
       ·cases hcs
      ·cases hcs
   ·cases hl
  ·cases hl
 ·cases hl
theorem cmpB_sound {g : FuncId} {fn : Func} (hf : P.funcs[g]? = some fn) (hname : (fn.name == "runtime.NumGoroutine") = false) (hb : fn.body.isNone = true) (hn : Extern.findNext fn = none) (he : Extern.find fn = some Extern.BytealgCompare.compare)
  (k : WI σ w0 h ρ w) {args vs : List Value} {v : Value} (ha : RepL σ ρ args vs) (hv : cmpB h args = some v) : ∃ v', (callFunc g vs.toArray).run P w = .ok (.value v') w ∧ Rep σ ρ v v' := by
 unfold cmpB at hv
 split at hv
 ·rename_i u hu
  cases hv
  exact cmpZ_sound hf hname hb hn he k ha hu
 ·unfold cmpY at hv
  split at hv
  ·rename_i a b
   obtain ⟨a', b', rfl, h1, h2⟩ := ha.two
   split at hv
   ·rename_i x y hx hy
    split at hv
    ·rename_i c hc
     cases hv
     obtain ⟨lx, r, hrx, hbx, e1⟩ := bytesY_sound (P := P) k h1 hx
     obtain ⟨ly, s, hry, hby, e2⟩ := bytesY_sound (P := P) k h2 hy
     refine ⟨goInt c, ?_, .plain rfl⟩
     rw [run_callFunc_extern hf hname hb hn he]
     have e3 : Extern.BytealgCompare.cmp (ofBytes r) (ofBytes s) = cmpL r s := by
      rw [Lib.cmp_eq, compareBytes_eq]; rfl
     show ((do pure (goInt (Extern.BytealgCompare.cmp (← Extern.Bytes.bytesOf a') (← Extern.Bytes.bytesOf b'))) : Sem Value).run P w).andThen _ = _
     simp [e1, e2, e3, vcmp_spec hrx hry hbx hby hc]
    ·cases hv
   ·cases hv
  ·cases hv
end
end
noncomputable section
def idxF (c : Nat) : List UInt8 → Nat → Int
 | [], _ => -1
 | b :: l, i => match Nat.beq b.toNat c with
  | true => Int.ofNat i
  | false => idxF c l (i + 1)
def countF (c : Nat) : List UInt8 → Nat → Nat
 | [], n => n
 | b :: l, n => match Nat.beq b.toNat c with
  | true => countF c l (n + 1)
  | false => countF c l n
def idxB (_ : Heap) (args : List Value) : Option Value := match args with
 | [.string s, .int .u8 (.ofNat c)] => (match Nat.blt c 256 with
  | true => (match idxF c (bytesOf s) 0 with
   | .ofNat n => some (.int .i64 (.ofNat n))
   | .negSucc n => some (.int .i64 (.negSucc n)))
  | false => none)
 | _ => none
def countB (_ : Heap) (args : List Value) : Option Value := match args with
 | [.string s, .int .u8 (.ofNat c)] => (match Nat.blt c 256 with
  | true => some (.int .i64 (.ofNat (countF c (bytesOf s) 0)))
  | false => none)
 | _ => none
theorem byte_beq {c : Nat} (h : c < 256) (b : UInt8) : Nat.beq b.toNat c = (b == ((c : Int).toNat.toUInt8)) := by
 rw [Bool.eq_iff_iff, Nat.beq_eq]
 have e : ((c : Int).toNat.toUInt8).toNat = c := by simp; omega
 constructor
 ·intro h2
  have : b = (c : Int).toNat.toUInt8 := UInt8.toNat_inj.1 (by rw [h2, e])
  rw [this]; exact beq_self_eq_true _
 ·intro h2
  have := eq_of_beq h2
  rw [this, e]
theorem idxF_eq {c : Nat} (h : c < 256) : ∀ (l : List UInt8) (i : Nat), idxF c l i = if Lib.indexByte l ((c : Int).toNat.toUInt8) = -1 then -1 else Lib.indexByte l ((c : Int).toNat.toUInt8) + (i : Int)
 | [], i => rfl
 | b :: l, i => by
  have hge := Lib.indexByte_ge l ((c : Int).toNat.toUInt8)
  have ih := idxF_eq h l (i + 1)
  unfold idxF Lib.indexByte
  rw [byte_beq h]
  generalize ((c : Int).toNat.toUInt8) = d at hge ih
  cases hb : (b == d) with
  | true => simp
  | false =>
   simp only [ih, beq_iff_eq]
   by_cases h1 : Lib.indexByte l d = -1
   ·simp [h1]
   ·have h2 : ¬ (Lib.indexByte l d + 1 = -1) := by omega
    simp [h1, h2]
    omega
theorem countF_eq {c : Nat} (h : c < 256) : ∀ (l : List UInt8) (n : Nat), countF c l n = Lib.countByte l ((c : Int).toNat.toUInt8) + n
 | [], n => by simp [countF, Lib.countByte]
 | b :: l, n => by
  have ih := countF_eq h l
  unfold countF
  rw [byte_beq h]
  unfold Lib.countByte at ih ⊢
  rw [List.count_cons]
  generalize ((c : Int).toNat.toUInt8) = d at ih
  cases hb : (b == d) with
  | true => simp only [ih, if_true]; omega
  | false => simp [ih]
section
variable {P : Program} {σ : Nat → Nat → Value} [SigOk σ] {w0 : World} {h : Heap} {ρ : Ren} {w : World}
theorem idxB_sound {g : FuncId} {fn : Func} (hf : P.funcs[g]? = some fn) (hname : (fn.name == "runtime.NumGoroutine") = false) (hb : fn.body.isNone = true) (hn : Extern.findNext fn = none) (he : Extern.find fn = some Extern.BytealgIndexByte.indexByte)
  {args vs : List Value} {v : Value} (ha : RepL σ ρ args vs) (hv : idxB h args = some v) : ∃ v', (callFunc g vs.toArray).run P w = .ok (.value v') w ∧ Rep σ ρ v v' := by
 unfold idxB at hv
 split at hv
 ·rename_i s c
  obtain ⟨a', b', rfl, h1, h2⟩ := ha.two
  have := h1.of_plain rfl; subst this
  have := h2.of_plain rfl; subst this
  split at hv
  case h_2 => cases hv
  rename_i hc
  have hc : c < 256 := Nat.le_of_ble_eq_true hc
  have e : v = .int .i64 (idxF c (bytesOf s) 0) := by
   split at hv <;> (rename_i e; cases hv; rw [e])
  subst e
  refine ⟨_, ?_, .plain rfl⟩
  rw [run_callFunc_extern hf hname hb hn he]
  have e1 := Lib.run_indexByteString (P := P) s (Int.ofNat c) w
  have e2 : idxF c (bytesOf s) 0 = Lib.indexByte s.data.toList (Int.ofNat c).toNat.toUInt8 := by
   rw [idxF_eq hc]
   show (if Lib.indexByte s.data.toList _ = -1 then _ else _) = Lib.indexByte s.data.toList ((c : Int).toNat.toUInt8)
   split
   ·rename_i q; rw [← q]
   ·simp
    rfl
  show ((Extern.BytealgIndexByte.indexByte #[.string s, .int .u8 (Int.ofNat c)]).run P w).andThen _ = _
  rw [e1, e2]
  rfl
 ·cases hv
theorem countB_sound {g : FuncId} {fn : Func} (hf : P.funcs[g]? = some fn) (hname : (fn.name == "runtime.NumGoroutine") = false) (hb : fn.body.isNone = true) (hn : Extern.findNext fn = none) (he : Extern.find fn = some Extern.BytealgCount.count)
  {args vs : List Value} {v : Value} (ha : RepL σ ρ args vs) (hv : countB h args = some v) : ∃ v', (callFunc g vs.toArray).run P w = .ok (.value v') w ∧ Rep σ ρ v v' := by
 unfold countB at hv
 split at hv
 ·rename_i s c
  obtain ⟨a', b', rfl, h1, h2⟩ := ha.two
  have := h1.of_plain rfl; subst this
  have := h2.of_plain rfl; subst this
  split at hv
  case h_2 => cases hv
  rename_i hc
  have hc : c < 256 := Nat.le_of_ble_eq_true hc
  cases hv
  refine ⟨_, ?_, .plain rfl⟩
  rw [run_callFunc_extern hf hname hb hn he]
  have e1 := Lib.run_countString (P := P) s (Int.ofNat c) w
  have e2 : countF c (bytesOf s) 0 = Lib.countByte s.data.toList (Int.ofNat c).toNat.toUInt8 := by
   rw [countF_eq hc, Nat.add_zero]
   rfl
  show ((Extern.BytealgCount.count #[.string s, .int .u8 (Int.ofNat c)]).run P w).andThen _ = _
  rw [e1, e2]
  rfl
 ·cases hv
end
end
end Go.Z
end
