/- One part of a proof: an evaluator of the model, shown right, and contracts that it yields. No condition beyond those that each theorem names. -/
import Derived.Test.YtnhllgedoimhkaaGreatDoorZB
import Derived.Laws.BytesString
import Derived.Laws.StructEq
set_option linter.unusedSimpArgs false
set_option linter.unusedVariables false
set_option linter.unusedSectionVars false
set_option linter.deprecated false
section
namespace Go.Z
open Go.X
open Go.RowKit
section
variable {P : Program} {σ : Nat → Nat → Value} {w0 : World} {h : Heap} {ρ : Ren} {w : World}
theorem rep_slice {a : Option Addr} {len cap : Nat} {x' : Value} (hx : Rep σ ρ (.slice a len cap) x') : ∃ a' cap', x' = .slice a' len cap' ∧ (∀ n off s, a = some ⟨n, off, s⟩ → ∃ b c off', ρ n = some (b, c) ∧ (0 < len → off' = off) ∧ a' = some ⟨b, off', none⟩) ∧ (a = none → a' = none) := by
 cases hx with
 | plain hp =>
  cases a with
  | none => exact ⟨_, _, rfl, fun _ _ _ e => (by cases e), fun _ => rfl⟩
  | some _ => cases hp
 | sl hn => exact ⟨_, _, rfl, fun _ _ _ e => (by cases e; exact ⟨_, _, _, hn, fun _ => rfl, rfl⟩), fun e => (by cases e)⟩
 | gr hn ho => exact ⟨_, _, rfl, fun _ _ _ e => (by
   cases e
   exact ⟨_, _, _, hn, fun h0 => (by
    rcases ho with h | ⟨_, h⟩
    ·exact h
    ·omega), rfl⟩), fun e => (by cases e)⟩
def QuietOk (P : Program) (σ : Nat → Nat → Value) (ρ : Ren) (w : World) (ev : Operand → Value) (o : Oper) (v : Value) : Prop := ∃ v', (execOp ev o).run P w = .ok (.value v') w ∧ Rep σ ρ v v'
theorem QuietOk.of {ev : Operand → Value} {o : Oper} {s : Sem Value} {v v' : Value} (he : execOp ev o = (do pure (.value (← s)) : Sem Next)) (hs : s.run P w = .ok v' w) (hr : Rep σ ρ v v') : QuietOk P σ ρ w ev o v :=
 ⟨v', by rw [he, Sem.run_bind, hs]; rfl, hr⟩
theorem u8s_spec : ∀ {l : List Value} {r : List UInt8}, u8s l = some r → l = r.map fun b => Value.int .u8 b.toNat
 | [], r, h => by simp only [u8s, Option.some.injEq] at h; subst h; rfl
 | x :: l, r, h => by
  unfold u8s at h
  split at h
  ·rename_i h1; cases h1
  ·rename_i n l' h1
   simp only [List.cons.injEq] at h1
   obtain ⟨rfl, rfl⟩ := h1
   split at h
   ·rename_i r' hn hr
    cases h
    have hn := Nat.le_of_ble_eq_true hn
    rw [u8s_spec hr]
    have : (UInt8.ofNat n).toNat = n := by simp; omega
    simp [this]
   ·cases h
  ·cases h
theorem u8_plain (r : List UInt8) : ∀ x ∈ r.map (fun b => Value.int .u8 b.toNat), plain x = true := fun x hx => by
 obtain ⟨b, _, rfl⟩ := List.mem_map.1 hx; rfl
theorem foldl_push : ∀ (r : List UInt8) (s : ByteArray), (r.map fun b => ((b.toNat : Nat) : Int)).foldl (fun r n => r.push (UInt8.ofNat n.toNat)) s = ofBytes (bytesOf s ++ r)
 | [], s => by simp [ofBytes, bytesOf]
 | b :: r, s => by
  simp only [List.map_cons, List.foldl_cons]
  rw [foldl_push r]
  simp [bytesOf, ofBytes, ByteArray.push]
theorem run_bytes (r : List UInt8) (a : Addr) (len cap : Nat) (hl : (loadCells a len).run P w = .ok (r.map (fun b => Value.int .u8 b.toNat)).toArray w) : (Conv.bytesToString (.slice (some a) len cap)).run P w = .ok (.string (ofBytes r)) w := by
 have := run_bytesToString (P := P) w a len cap (r.map fun b => ((b.toNat : Nat) : Int)) (by rw [hl]; simp [Function.comp_def])
 rw [this, foldl_push]
 have h0 : bytesOf ByteArray.empty = [] := rfl
 rw [h0, List.nil_append]
theorem part_run {t : TypeId} {cs : Array Value} {off z : Nat} {v : Value} (hz : sizeB P t = some z) (hl : ((cs.toList.drop off).take z).length = z) (hv : asVar P t ((cs.toList.drop off).take z) = some v) : (part t cs off).run P w = .ok v w := by
 unfold asVar at hv
 have hx : (cs.extract off (off + z)) = ((cs.toList.drop off).take z).toArray := by
  apply Array.ext'
  rw [Array.toList_extract, List.extract_eq_drop_take]
  simp
 split at hv
 ·rename_i d hd
  cases hv
  simp [part, isAgg, run_underlying hd, run_sizeOf hz, hx]
 ·rename_i d k hd
  cases hv
  simp [part, isAgg, run_underlying hd, run_sizeOf hz, hx]
 ·rename_i d h1 h2 hd
  split at hv
  ·rename_i x hx
   cases hv
   have hag : (isAgg t).run P w = .ok false w := by
    unfold isAgg
    rw [Sem.run_bind, run_underlying hd]
    cases d <;> first | rfl | exact absurd rfl (h1 _) | exact absurd rfl (h2 _ _)
   have h0 : ((cs.toList.drop off).take z)[0]? = some v := by rw [hx]; rfl
   have h1 := drop_take_get h0
   have h2 : cs[off]? = some v := by simpa using h1
   simp [part, hag, h2]
  ·cases hv
 ·cases hv
def ckBody (cs : Array Value) (e : Bool) (fu : Nat) (f : Field) (_ : PUnit) : Sem (ForInStep PUnit) := do
 if f.name ≠ "_" then Instr.checkKey e (fu + 1) f.type (← part f.type cs f.offset)
 pure (ForInStep.yield PUnit.unit)
theorem run_checkFields {cs : Array Value} {e : Bool} {fu : Nat} : ∀ {l : List Field}, basicAll P cs.size l = true →
  (forIn (m := Sem) l PUnit.unit (ckBody cs e fu)).run P w = .ok PUnit.unit w
 | [], _ => rfl
 | f :: l, hb => by
  have ⟨d, hu, hd, hz, hlt, hr⟩ : ∃ d, P.underlying f.type = some d ∧ ((∃ q, d = .int q) ∨ d = .string) ∧ sizeB P f.type = some 1 ∧ f.offset < cs.size ∧ basicAll P cs.size l = true := by
   unfold basicAll at hb
   split at hb
   ·rename_i q hu
    split at hb
    ·rename_i hz
     rw [Bool.and_eq_true, Nat.blt_eq] at hb
     exact ⟨_, hu, .inl ⟨_, rfl⟩, hz, hb.1, hb.2⟩
    ·cases hb
   ·rename_i hu
    split at hb
    ·rename_i hz
     rw [Bool.and_eq_true, Nat.blt_eq] at hb
     exact ⟨_, hu, .inr rfl, hz, hb.1, hb.2⟩
    ·cases hb
   ·cases hb
  have hx : ∃ v, (cs.toList.drop f.offset).take 1 = [v] := by
   have : f.offset < cs.toList.length := by simpa using hlt
   rw [List.drop_eq_getElem_cons this]
   exact ⟨_, rfl⟩
  obtain ⟨v, hv⟩ := hx
  have hp : (part f.type cs f.offset).run P w = .ok v w := part_run hz (by rw [hv]; rfl) (by
   unfold asVar
   rw [hu, hv]
   rcases hd with ⟨q, rfl⟩ | rfl <;> rfl)
  have hc : (Instr.checkKey e (fu + 1) f.type v).run P w = .ok () w := by
   rcases hd with ⟨q, rfl⟩ | rfl <;> simp [Instr.checkKey, run_underlying hu]
  have ih := run_checkFields (cs := cs) (e := e) (fu := fu) hr
  rw [List.forIn_cons]
  have hbody : (ckBody cs e fu f PUnit.unit).run P w = .ok (.yield PUnit.unit) w := by
   unfold ckBody
   by_cases hn : f.name = "_"
   ·simp [hn]
   ·simp [hn, hp, hc]
  rw [Sem.run_bind, hbody]
  exact ih
theorem run_checkStruct {kt : TypeId} {fs : Array Field} {cs : Array Value} {e : Bool} (hu : P.underlying kt = some (.struct fs)) (hb : basicAll P cs.size fs.toList = true) : (Instr.checkKey e 10000 kt (.agg cs)).run P w = .ok () w := by
 rw [show (10000 : Nat) = 9998 + 1 + 1 from rfl]
 generalize (9998 : Nat) = fu
 have h := run_checkFields (P := P) (w := w) (cs := cs) (e := e) (fu := fu) hb
 unfold Instr.checkKey
 simp only [Sem.run_bind, run_underlying hu, Result.andThen]
 rw [← Array.forIn_toList]
 unfold ckBody at h
 simp at h ⊢
 rw [h]
end
section
variable {P : Program} {σ : Nat → Nat → Value} [SigOk σ] {w0 : World} {h : Heap} {ρ : Ren} {w : World}
theorem byteEq_sound {a b y y' : Value} (ha : Rep σ ρ a y) (hb : Rep σ ρ b y') (h : byteEq a b = true) : y = y' := by
 unfold byteEq at h
 split at h
 ·have h := Nat.eq_of_beq_eq_true h
  subst h
  rw [ha.of_plain rfl, hb.of_plain rfl]
 ·rw [Bool.and_eq_true] at h
  have h1 := Nat.eq_of_beq_eq_true h.1
  have h2 := Nat.eq_of_beq_eq_true h.2
  subst h1; subst h2
  rw [ha.sy_inv, hb.sy_inv]
 ·cases h
theorem bytesEq_sound : ∀ {a b l m : List Value}, RepL σ ρ a l → RepL σ ρ b m → bytesEq a b = true → l = m
 | [], [], _, _, .nil, .nil, _ => rfl
 | [], _ :: _, _, _, _, _, h => by simp [bytesEq] at h
 | _ :: _, [], _, _, _, _, h => by simp [bytesEq] at h
 | x :: a, y :: b, _, _, .cons ha ra, .cons hb rb, h => by
  unfold bytesEq at h
  split at h
  ·rename_i he
   rw [byteEq_sound ha hb he, bytesEq_sound ra rb h]
  ·cases h
def SameCell (y y' : Value) (r : Bool) : Prop := (∃ (q : IntKind) (m n : Int), y = .int q m ∧ y' = .int q n ∧ (r = true ↔ m = n)) ∨ (∃ s t : ByteArray, y = .string s ∧ y' = .string t ∧ (r = true ↔ s = t))
theorem SameCell.iff {y y' : Value} {r : Bool} (h : SameCell y y' r) : r = true ↔ y = y' := by
 rcases h with ⟨q, m, n, rfl, rfl, h⟩ | ⟨s, t, rfl, rfl, h⟩
 ·rw [h]; simp
 ·rw [h]; simp
theorem u8map_inj : ∀ {l m : List UInt8}, (l.map fun b => Value.int .u8 b.toNat) = (m.map fun b => Value.int .u8 b.toNat) → l = m
 | [], [], _ => rfl
 | [], _ :: _, h => by simp at h
 | _ :: _, [], h => by simp at h
 | a :: l, b :: m, h => by
  simp only [List.map_cons, List.cons.injEq, Value.int.injEq, true_and] at h
  have h1 : a.toNat = b.toNat := by have := h.1; omega
  rw [UInt8.toNat_inj.1 h1, u8map_inj h.2]
theorem eqCell_sound {a b y y' : Value} {r : Bool} (ha : Rep σ ρ a y) (hb : Rep σ ρ b y') (h : eqCell a b = some r) : SameCell y y' r := by
 unfold eqCell at h
 split at h
 ·rename_i j a k b
  split at h
  ·rename_i hj
   subst hj
   cases h
   rw [ha.of_plain rfl, hb.of_plain rfl]
   exact .inl ⟨_, _, _, rfl, rfl, by simp⟩
  ·cases h
 ·rename_i s t
  cases h
  rw [ha.of_plain rfl, hb.of_plain rfl]
  exact .inr ⟨_, _, rfl, rfl, by rw [eqBytes_iff]; exact ⟨bytes_inj, fun e => by rw [e]⟩⟩
 ·rename_i c _ c' _
  obtain ⟨bs, rfl, hc⟩ := ha.str_inv
  obtain ⟨bs', rfl, hc'⟩ := hb.str_inv
  refine .inr ⟨_, _, rfl, rfl, ?_⟩
  split at h
  ·rename_i he
   cases h
   have := u8map_inj (bytesEq_sound hc hc' he)
   subst this
   simp
  ·rename_i hl
   cases h
   have h1 := hc.length
   have h2 := hc'.length
   simp only [List.length_map] at h1 h2
   constructor
   ·intro e; cases e
   ·intro e
    have : bs = bs' := by simpa using e
    subst this
    rw [h1, h2] at hl
    simp at hl
  ·cases h
 ·rename_i c _ t
  obtain ⟨bs, rfl, hc⟩ := ha.str_inv
  rw [hb.of_plain rfl]
  refine .inr ⟨_, _, rfl, rfl, ?_⟩
  split at h
  ·rename_i hl
   cases h
   have h1 := hc.length
   simp only [List.length_map] at h1
   constructor
   ·intro e; cases e
   ·intro e
    subst e
    rw [h1] at hl
    simp [bytesOf] at hl
  ·cases h
 ·rename_i t c _
  obtain ⟨bs, rfl, hc⟩ := hb.str_inv
  rw [ha.of_plain rfl]
  refine .inr ⟨_, _, rfl, rfl, ?_⟩
  split at h
  ·rename_i hl
   cases h
   have h1 := hc.length
   simp only [List.length_map] at h1
   constructor
   ·intro e; cases e
   ·intro e
    subst e
    rw [h1] at hl
    simp [bytesOf] at hl
  ·cases h
 ·cases h
def KindOk (d : TypeDesc) (x : Value) : Prop := (∃ q, d = .int q ∧ ∃ q' m, x = .int q' m) ∨ (d = .string ∧ ((∃ s, x = .string s) ∨ ∃ c a, x = .func (.yield 0) c a))
theorem structAt_cons {n i : Nat} {f : Field} {l : List Field} {x : Value} {m : List Value} (h : structAt P n i (f :: l) (x :: m) = true) : ∃ d, P.underlying f.type = some d ∧ KindOk d x ∧ sizeB P f.type = some 1 ∧ f.offset = i ∧ f.name ≠ "_" ∧ structAt P n (i + 1) l m = true := by
 unfold structAt at h
 split at h
 ·rename_i q _ _ hu
  split at h
  ·rename_i hz hn
   rw [Bool.and_eq_true] at h
   exact ⟨_, hu, .inl ⟨_, rfl, _, _, rfl⟩, hz, Nat.eq_of_beq_eq_true h.1, by simpa using hn, h.2⟩
  ·cases h
 ·rename_i hu
  split at h
  ·rename_i hz hn
   rw [Bool.and_eq_true] at h
   exact ⟨_, hu, .inr ⟨rfl, .inl ⟨_, rfl⟩⟩, hz, Nat.eq_of_beq_eq_true h.1, by simpa using hn, h.2⟩
  ·cases h
 ·rename_i hu
  split at h
  ·rename_i hz hn
   rw [Bool.and_eq_true] at h
   exact ⟨_, hu, .inr ⟨rfl, .inr ⟨_, _, rfl⟩⟩, hz, Nat.eq_of_beq_eq_true h.1, by simpa using hn, h.2⟩
  ·cases h
 ·cases h
theorem KindOk.or {d : TypeDesc} {x : Value} (h : KindOk d x) : (∃ q, d = .int q) ∨ d = .string := by
 rcases h with ⟨q, rfl, _⟩ | ⟨rfl, _⟩
 ·exact .inl ⟨q, rfl⟩
 ·exact .inr rfl
theorem structAt_len {n : Nat} : ∀ {i : Nat} {fs : List Field} {m : List Value}, structAt P n i fs m = true → i + fs.length = n ∧ fs.length = m.length
 | i, [], [], h => by have := Nat.eq_of_beq_eq_true h; exact ⟨by simpa using this, rfl⟩
 | i, [], _ :: _, h => by simp [structAt] at h
 | i, _ :: _, [], h => by simp [structAt] at h
 | i, f :: l, x :: m, h => by
  obtain ⟨_, _, _, _, _, _, hr⟩ := structAt_cons h
  have := structAt_len hr
  simp only [List.length_cons]; omega
theorem structAt_basic {n : Nat} : ∀ {i : Nat} {fs : List Field} {m : List Value}, structAt P n i fs m = true → basicAll P n fs = true
 | i, [], _, _ => rfl
 | i, _ :: _, [], h => by simp [structAt] at h
 | i, f :: l, x :: m, h => by
  have hl := structAt_len h
  obtain ⟨d, hu, hd, hz, ho, _, hr⟩ := structAt_cons h
  unfold basicAll
  simp only [List.length_cons] at hl
  have hlt : Nat.blt f.offset n = true := by rw [Nat.blt_eq]; omega
  rcases hd.or with ⟨q, rfl⟩ | rfl <;> simp [hu, hz, hlt, structAt_basic hr]
theorem run_eqCell {d : Nat} {f : Field} {dd : TypeDesc} {x y y' : Value} {r : Bool} (hu : P.underlying f.type = some dd) (hd : KindOk dd x) (hx : Rep σ ρ x y) (hs : SameCell y y' r) : (Op.equalIn (d + 1) f.type y y').run P w = .ok r w := by
 rcases hd with ⟨q, rfl, q', m, rfl⟩ | ⟨rfl, hk⟩
 ·have := hx.of_plain rfl
  subst this
  rcases hs with ⟨q2, a, b, ea, rfl, hab⟩ | ⟨s, t, ea, _, _⟩
  ·cases ea
   rw [run_equalIn_int w d f.type _ q m b hu]
   congr 1
   rw [Bool.eq_iff_iff, hab]
   simp
  ·cases ea
 ·have hy : ∃ s, y = .string s := by
   rcases hk with ⟨s, rfl⟩ | ⟨⟨c⟩, a, rfl⟩
   ·exact ⟨s, hx.of_plain rfl⟩
   ·obtain ⟨bs, e, _⟩ := hx.str_inv
    exact ⟨_, e⟩
  obtain ⟨s0, rfl⟩ := hy
  rcases hs with ⟨_, _, _, ea, _⟩ | ⟨s, t, ea, rfl, hab⟩
  ·cases ea
  ·cases ea
   have hrun : (Op.equalIn (d + 1) f.type (.string s0) (.string t)).run P w = .ok (s0 == t) w := by simp [Op.equalIn, run_underlying hu]
   rw [hrun]
   congr 1
   rw [Bool.eq_iff_iff, hab, beq_bytes]
   exact ⟨fun e => bytes_inj e, fun e => by rw [e]⟩
theorem run_eqFields {n d : Nat} {xs ys : Array Value} (hx : xs.size = n) (hy : ys.size = n) : ∀ {fs : List Field} {i : Nat} {as bs : List Value} {r : Bool}, structAt P n i fs as = true → RepL σ ρ as (xs.toList.drop i) → RepL σ ρ bs (ys.toList.drop i) → eqCells as bs = some r →
  (Op.eqFields (d + 1) xs ys fs).run P w = .ok r w ∧ (r = true ↔ xs.toList.drop i = ys.toList.drop i)
 | [], i, as, bs, r, hf, ha, hb, he => by
  have hi := (structAt_len hf).1
  simp only [List.length_nil, Nat.add_zero] at hi
  have e1 : xs.toList.drop i = [] := List.drop_of_length_le (by rw [Array.length_toList]; omega)
  have e2 : ys.toList.drop i = [] := List.drop_of_length_le (by rw [Array.length_toList]; omega)
  rw [e1] at ha; rw [e2] at hb
  cases ha; cases hb
  cases he
  exact ⟨rfl, by rw [e1, e2]; simp⟩
 | f :: l, i, [], bs, r, hf, ha, hb, he => by simp [structAt] at hf
 | f :: l, i, x :: as', bs, r, hf, ha, hb, he => by
  have hl := (structAt_len hf).1
  simp only [List.length_cons] at hl
  obtain ⟨dd, hu, hd, hz, ho, hn, hr⟩ := structAt_cons hf
  have h1 : i < xs.toList.length := by rw [Array.length_toList]; omega
  have h2 : i < ys.toList.length := by rw [Array.length_toList]; omega
  have e1 := List.drop_eq_getElem_cons h1
  have e2 := List.drop_eq_getElem_cons h2
  rw [e1] at ha; rw [e2] at hb
  have hp : ∀ (zs : Array Value) (h : i < zs.toList.length), (part f.type zs f.offset).run P w = .ok zs.toList[i] w := fun zs h => by
   have e := List.drop_eq_getElem_cons h
   refine part_run hz (by rw [ho, e]; rfl) ?_
   unfold asVar
   rw [hu, ho, e]
   rcases hd.or with ⟨q, rfl⟩ | rfl <;> rfl
  have hp1 := hp xs h1
  have hp2 := hp ys h2
  clear hp
  generalize xs.toList[i] = u at e1 ha hp1
  generalize ys.toList[i] = u' at e2 hb hp2
  cases ha with
  | cons hxr har =>
  cases hb with
  | @cons x' y' bs' m' hxr' hbr =>
  unfold eqCells at he
  split at he
  ·rename_i hc
   have hs := eqCell_sound hxr hxr' hc
   have heq := hs.iff.1 rfl
   obtain ⟨i1, i2⟩ := run_eqFields (d := d) hx hy hr har hbr he
   refine ⟨?_, ?_⟩
   ·unfold Op.eqFields
    have hq := run_eqCell (P := P) (d := d) (w := w) hu hd hxr hs
    simp [hn, hp1, hp2, hq, i1]
   ·rw [i2, e1, e2]
    simp [heq]
  ·rename_i hc
   cases he
   have hs := eqCell_sound hxr hxr' hc
   have hne : ¬ (u = u') := fun e => by have := hs.iff.2 e; cases this
   refine ⟨?_, ?_⟩
   ·unfold Op.eqFields
    have hq := run_eqCell (P := P) (d := d) (w := w) hu hd hxr hs
    simp [hn, hp1, hp2, hq]
   ·rw [e1, e2]
    simp [hne]
  ·cases he
theorem same_str {y y' : Value} {s : ByteArray} {r : Bool} (he : y = .string s) (h : SameCell y y' r) : ∃ t, y' = .string t ∧ r = (s == t) := by
 subst he
 rcases h with ⟨_, _, _, e, _⟩ | ⟨s', t, e, rfl, hr⟩
 ·cases e
 ·cases e
  refine ⟨t, rfl, ?_⟩
  rw [Bool.eq_iff_iff, hr, beq_bytes]
  exact ⟨fun e => by rw [e], fun e => bytes_inj e⟩
theorem str_sound {kt : TypeId} {y y' : Value} {s : ByteArray} {r : Bool} (hu : P.underlying kt = some .string) (he : y = .string s) (h : SameCell y y' r) : (Op.equal kt y y').run P w = .ok r w ∧ (r = true ↔ y = y') := by
 refine ⟨?_, h.iff⟩
 obtain ⟨t, rfl, rfl⟩ := same_str he h
 subst he
 show (Op.equalIn (9999 + 1) kt (.string s) (.string t)).run P w = _
 generalize (9999 : Nat) = d
 simp [Op.equalIn, run_underlying hu]
theorem keyEqS_sound {kt : TypeId} {k k' y y' : Value} {r : Bool} (ho : skeyOk P kt k = true) (hk : Rep σ ρ k y) (hk' : Rep σ ρ k' y') (h : keyEqS k k' = some r) : (Op.equal kt y y').run P w = .ok r w ∧ (r = true ↔ y = y') := by
 unfold skeyOk at ho
 split at ho
 ·rename_i fs c hu
  rw [Bool.and_eq_true] at ho
  unfold keyEqS at h
  split at h
  ·rename_i a b e
   cases e
   split at h
   case h_2 => cases h
   rename_i hl
   have hl := Nat.eq_of_beq_eq_true hl
   obtain ⟨xs, rfl, hx⟩ := hk.agg_inv
   obtain ⟨ys, rfl, hy⟩ := hk'.agg_inv
   have h1 : xs.size = (⟨a⟩ : Array Value).size := by simpa using hx.length.symm
   have hst : P.stoodInHeld kt = false := by simpa using ho.2
   have hf : P.fieldsOf kt = fs := by simp [Program.fieldsOf, hu]
   have h2 : ys.size = (⟨a⟩ : Array Value).size := by
    have := hy.length
    simp only [Array.length_toList] at this
    show ys.size = a.length
    rw [← this, hl]
   obtain ⟨r1, r2⟩ := run_eqFields (P := P) (w := w) (d := 9998) (i := 0) h1 h2 ho.1 (by simpa using hx) (by simpa using hy) h
   refine ⟨?_, ?_⟩
   ·show (Op.equalIn (9999 + 1) kt (.agg xs) (.agg ys)).run P w = _
    rw [run_equalIn_struct w 9999 kt xs ys (by rw [hf]; exact hu) hst, hf]
    exact r1
   ·rw [r2]
    simp only [List.drop_zero, Array.toList_inj, Value.agg.injEq]
  ·rename_i e; cases e
  ·rename_i e; cases e
  ·cases h
 ·rename_i s hu
  exact str_sound hu (hk.of_plain rfl) (eqCell_sound hk hk' h)
 ·rename_i c a hu
  obtain ⟨c⟩ := c
  obtain ⟨bs, e, _⟩ := hk.str_inv
  exact str_sound hu e (eqCell_sound hk hk' h)
 ·cases ho
theorem findS_sound {kt : TypeId} {k y : Value} (ho : skeyOk P kt k = true) (hk : Rep σ ρ k y) : ∀ {es : List (Value × Value)} {ms : List MapEntry} {i : Nat} {r : Option (Nat × Value)}, EntL σ ρ es ms → findS k es i = some r →
  match r with
  | none => (Instr.findAsking kt y ms i).run P w = .ok none w
  | some (j, v) => ∃ j0 e, j = i + j0 ∧ ms[j0]? = some e ∧ (Instr.findAsking kt y ms i).run P w = .ok (some (j, e.val)) w ∧ Rep σ ρ v e.val ∧ e.key = y
 | [], _, i, r, .nil, h => by
  cases h
  rfl
 | x :: es, _, i, r, .cons (e := e) (ms := ms) h1 h2 h3, h => by
  unfold findS at h
  split at h
  ·rename_i he
   cases h
   obtain ⟨hr, hi⟩ := keyEqS_sound (w := w) ho hk h1 he
   refine ⟨0, e, rfl, rfl, ?_, h2, (hi.1 rfl).symm⟩
   simp [Instr.findAsking, hr]
  ·rename_i he
   obtain ⟨hr, hi⟩ := keyEqS_sound (w := w) ho hk h1 he
   have ih := findS_sound ho hk (i := i + 1) h3 h
   cases r with
   | none =>
    show (Instr.findAsking kt y (e :: ms) i).run P w = .ok none w
    have ih : (Instr.findAsking kt y ms (i + 1)).run P w = .ok none w := ih
    simp [Instr.findAsking, hr, ih]
   | some jv =>
    obtain ⟨j, v⟩ := jv
    obtain ⟨j0, e0, hj, hm, hrun, hv, hkk⟩ := ih
    refine ⟨j0 + 1, e0, by omega, by simpa using hm, ?_, hv, hkk⟩
    simp [Instr.findAsking, hr, hrun]
  ·cases h
theorem skeyOk_spec {kt : TypeId} {k y : Value} (ho : skeyOk P kt k = true) (hk : Rep σ ρ k y) : (∃ fs c, P.underlying kt = some (.struct fs) ∧ y = .agg c ∧ basicAll P c.size fs.toList = true) ∨ (P.underlying kt = some .string ∧ (∃ s, y = .string s) ∧ ∀ k', keyEqS k k' = eqCell k k') := by
 unfold skeyOk at ho
 split at ho
 ·rename_i fs c hu
  rw [Bool.and_eq_true] at ho
  obtain ⟨xs, rfl, hx⟩ := hk.agg_inv
  refine .inl ⟨fs, xs, hu, rfl, ?_⟩
  have h1 : xs.size = c.size := by simpa using hx.length.symm
  rw [h1]
  exact structAt_basic ho.1
 ·rename_i s hu
  exact .inr ⟨hu, ⟨_, hk.of_plain rfl⟩, fun _ => rfl⟩
 ·rename_i c a hu
  obtain ⟨c⟩ := c
  obtain ⟨bs, e, _⟩ := hk.str_inv
  exact .inr ⟨hu, ⟨_, e⟩, fun _ => rfl⟩
 ·cases ho
theorem skey_check {kt : TypeId} {k y : Value} (ho : skeyOk P kt k = true) (hk : Rep σ ρ k y) (e : Bool) : (Instr.checkKey e 10000 kt y).run P w = .ok () w := by
 rcases skeyOk_spec ho hk with ⟨fs, c, hu, rfl, hb⟩ | ⟨hu, ⟨s, rfl⟩, _⟩
 ·exact run_checkStruct hu hb
 ·exact run_checkKey (by simp [keyOk, hu])
theorem skey_nil {kt : TypeId} {k y : Value} (ho : skeyOk P kt k = true) (hk : Rep σ ρ k y) : (Instr.findKey kt y []).run P w = .ok none w := by
 rcases skeyOk_spec ho hk with ⟨fs, c, hu, rfl, hb⟩ | ⟨hu, ⟨s, rfl⟩, _⟩ <;> simp [Instr.findKey, run_underlying hu, Instr.findNow]
theorem findStr {k : Value} {s : ByteArray} (hk : Rep σ ρ k (.string s)) (hq : ∀ k', keyEqS k k' = eqCell k k') : ∀ {es : List (Value × Value)} {ms : List MapEntry} {i : Nat} {r : Option (Nat × Value)}, EntL σ ρ es ms → findS k es i = some r →
  match r with
  | none => Instr.findNow .string (.string s) ms i = some none
  | some (j, v) => ∃ j0 e, j = i + j0 ∧ ms[j0]? = some e ∧ Instr.findNow .string (.string s) ms i = some (some (j, e.val)) ∧ Rep σ ρ v e.val ∧ e.key = .string s
 | [], _, i, r, .nil, h => by
  cases h
  rfl
 | x :: es, _, i, r, .cons (e := e) (ms := ms) h1 h2 h3, h => by
  unfold findS at h
  rw [hq] at h
  split at h
  ·rename_i he
   cases h
   have hs := eqCell_sound hk h1 he
   obtain ⟨t, ht, hr⟩ := same_str rfl hs
   refine ⟨0, e, rfl, rfl, ?_, h2, (hs.iff.1 rfl).symm⟩
   simp [Instr.findNow, ht, Instr.sameNow, ← hr]
  ·rename_i he
   have hs := eqCell_sound hk h1 he
   obtain ⟨t, ht, hr⟩ := same_str rfl hs
   have ih := findStr hk hq (i := i + 1) h3 h
   cases r with
   | none =>
    show Instr.findNow .string (.string s) (e :: ms) i = some none
    have ih : Instr.findNow .string (.string s) ms (i + 1) = some none := ih
    simp [Instr.findNow, ht, Instr.sameNow, ← hr, ih]
   | some jv =>
    obtain ⟨j, v⟩ := jv
    obtain ⟨j0, e0, hj, hm, hrun, hv, hkk⟩ := ih
    refine ⟨j0 + 1, e0, by omega, by simpa using hm, ?_, hv, hkk⟩
    simp [Instr.findNow, ht, Instr.sameNow, ← hr, hrun]
  ·cases h
theorem run_findS {kt : TypeId} {k y : Value} (ho : skeyOk P kt k = true) (hk : Rep σ ρ k y) {es : List (Value × Value)} {ms : List MapEntry} (hm : EntL σ ρ es ms) {r : Option (Nat × Value)} (hf : findS k es 0 = some r) :
  match r with
  | none => (Instr.findKey kt y ms).run P w = .ok none w
  | some (j, v) => ∃ e, ms[j]? = some e ∧ (Instr.findKey kt y ms).run P w = .ok (some (j, e.val)) w ∧ Rep σ ρ v e.val ∧ e.key = y := by
 rcases skeyOk_spec ho hk with ⟨fs, c, hu, rfl, _⟩ | ⟨hu, ⟨s, rfl⟩, hq⟩
 rotate_left
 ·have h := findStr hk hq hm hf
  cases r with
  | none =>
   have h : Instr.findNow .string (.string s) ms 0 = some none := h
   simp [Instr.findKey, run_underlying hu, h]
  | some jv =>
   obtain ⟨j, v⟩ := jv
   obtain ⟨j0, e, hj, hme, hr, hv, hkk⟩ := h
   obtain rfl : j = j0 := by omega
   exact ⟨e, hme, by simp [Instr.findKey, run_underlying hu, hr], hv, hkk⟩
 have hrun : ∀ x, (Instr.findAsking kt (.agg c) ms 0).run P w = .ok x w → (Instr.findKey kt (.agg c) ms).run P w = .ok x w := fun x hx => by
  unfold Instr.findKey
  rw [Sem.run_bind, run_underlying hu]
  cases ms with
  | nil => simpa [Instr.findNow, Instr.findAsking] using hx
  | cons e ms =>
   have : Instr.findNow (.struct fs) (.agg c) (e :: ms) 0 = none := by simp [Instr.findNow, Instr.sameNow]
   simp only [Result.andThen_ok, this]
   exact hx
 have h := findS_sound (w := w) ho hk hm hf
 cases r with
 | none => exact hrun _ h
 | some jv =>
  obtain ⟨j, v⟩ := jv
  obtain ⟨j0, e, hj, hme, hr, hv, hkk⟩ := h
  obtain rfl : j = j0 := by omega
  exact ⟨e, hme, hrun _ hr, hv, hkk⟩
end
section
variable {P : Program} {σ : Nat → Nat → Value} [SigOk σ] {w0 : World} {h : Heap} {ρ : Ren} {w : World}
theorem lookZ_sound (k : WI σ w0 h ρ w) {t : TypeId} {m i m' i' v : Value} {ok : Bool} (rm : Rep σ ρ m m') (ri : Rep σ ρ i i') (hv : lookZ P h t m i ok = some v) : ∃ v', (Instr.lookup t m' i' ok).run P w = .ok v' w ∧ Rep σ ρ v v' := by
 unfold lookZ at hv
 split at hv
 ·rename_i kt e ht
  split at hv
  ·rename_i z hz
   obtain ⟨inf, hi, hzi, hp⟩ := zeroZ_spec hz
   have hzero : (zeroValue e).run P w = .ok z w := by simp [zeroValue, typeInfo, hi, hzi]
   have htell : ∀ (v v' : Value) (b : Bool), Rep σ ρ v v' → Rep σ ρ (tellZ ok v b) (if ok = true then .tuple #[v', .bool b] else v') := fun v v' b hr => by
    cases ok with
    | true => exact .tup_mk (.cons hr (.cons (.plain rfl) .nil))
    | false => exact hr
   split at hv
   ·-- the nil map
    have := rm.of_plain rfl; subst this
    split at hv
    ·rename_i ho
     cases hv
     have := ri.of_plain (keyOk_plain ho); subst this
     refine ⟨_, ?_, htell z z false (rep_of_cells hp)⟩
     have hc := run_checkKey (P := P) (w := w) (e := true) ho
     have hf := run_find (P := P) (w := w) (σ := σ) (ρ := ρ) (es := []) (ms := []) (r := none) ⟨rfl, by simp, by simp, by simp, by simp, by simp⟩ ho rfl
     simp [Instr.lookup, run_underlying ht, hc, hf.1, hzero]
    ·cases hv
   ·rename_i n
    obtain ⟨b, c, hn, rfl⟩ := rm.map_inv
    split at hv
    ·rename_i ho
     obtain ⟨ms, clock, hx, hm, hborn⟩ := k.rel n b c _ hn ho
     have hms : ms = #[] := by
      have := hm.len
      simp at this
      exact Array.eq_empty_of_size_eq_zero (by simpa using this.symm)
     subst hms
     split at hv
     ·rename_i hko
      cases hv
      refine ⟨_, ?_, htell z z false (rep_of_cells hp)⟩
      have hget : (getObj b).run P w = .ok (.map #[] clock) w := by simp [getObj, Sem.run, hx]
      rcases Bool.or_eq_true _ _ ▸ hko with ho | ho
      ·have := ri.of_plain (keyOk_plain ho); subst this
       have hc := run_checkKey (P := P) (w := w) (e := true) ho
       have hf := run_find (P := P) (w := w) (σ := σ) (ρ := ρ) (es := []) (ms := []) (r := none) ⟨rfl, by simp, by simp, by simp, by simp, by simp⟩ ho rfl
       simp [Instr.lookup, run_underlying ht, hget, hc, hf.1, hzero]
      ·unfold structKey at ho
       split at ho
       ·rename_i fs c hfs
        obtain ⟨c', rfl, hc'⟩ := ri.agg_inv
        have hsz : c'.size = c.size := by simpa using hc'.length.symm
        have hc := run_checkStruct (P := P) (w := w) (e := true) hfs (by rw [hsz]; exact ho)
        simp [Instr.lookup, run_underlying ht, hget, hc, hzero, Instr.findKey, run_underlying hfs, Instr.findNow]
       ·rename_i cc aa hfs
        obtain ⟨cc⟩ := cc
        obtain ⟨bs, rfl, _⟩ := ri.str_inv
        have hc := run_checkKey (P := P) (w := w) (e := true) (kt := kt) (k := .string ⟨⟨bs⟩⟩) (by simp [keyOk, hfs])
        simp [Instr.lookup, run_underlying ht, hget, hc, hzero, Instr.findKey, run_underlying hfs, Instr.findNow]
       ·cases ho
     ·cases hv
    ·rename_i es hes ho
     split at hv
     ·rename_i hko
      have := ri.of_plain (keyOk_plain hko); subst this
      obtain ⟨ms, clock, hx, hm, hborn⟩ := k.rel n b c _ hn ho
      have hget : (getObj b).run P w = .ok (.map ms clock) w := by simp [getObj, Sem.run, hx]
      have hc := fun e => run_checkKey (P := P) (w := w) (e := e) hko
      split at hv
      ·rename_i u hf
       cases hv
       obtain ⟨j, e, hrun, _, _, hr, _⟩ := run_find (P := P) (w := w) hm hko hf
       refine ⟨_, ?_, htell u e.val true hr⟩
       simp [Instr.lookup, run_underlying ht, hget, hc, hrun]
      ·rename_i hf
       cases hv
       obtain ⟨hrun, _⟩ := run_find (P := P) (w := w) hm hko hf
       refine ⟨_, ?_, htell z z false (rep_of_cells hp)⟩
       simp [Instr.lookup, run_underlying ht, hget, hc, hrun, hzero]
      ·cases hv
     ·cases hv
    ·rename_i es ho
     split at hv
     ·rename_i hko
      obtain ⟨ms, clock, hx, hm⟩ := k.rel n b c _ hn ho
      have hget : (getObj b).run P w = .ok (.map ms clock) w := by simp [getObj, Sem.run, hx]
      have hc : ∀ e, (Instr.checkKey e 10000 kt i').run P w = .ok () w := skey_check hko ri
      split at hv
      ·rename_i j u hf
       cases hv
       obtain ⟨e, _, hrun, hr, _⟩ := run_findS (P := P) (w := w) hko ri hm hf
       refine ⟨_, ?_, htell u e.val true hr⟩
       simp [Instr.lookup, run_underlying ht, hget, hc, hrun]
      ·rename_i hf
       cases hv
       have hrun := run_findS (P := P) (w := w) hko ri hm hf
       simp only at hrun
       refine ⟨_, ?_, htell z z false (rep_of_cells hp)⟩
       simp [Instr.lookup, run_underlying ht, hget, hc, hrun, hzero]
      ·cases hv
     ·cases hv
    ·cases hv
   ·cases hv
  ·cases hv
 ·cases hv
theorem indexAddrZ_sound {t : TypeId} {x i x' i' v : Value} (rx : Rep σ ρ x x') (ri : Rep σ ρ i i') (hv : indexAddrZ P t x i = some v) : ∃ v', (Instr.indexAt t x' i').run P w = .ok v' w ∧ Rep σ ρ v v' := by
 unfold indexAddrZ at hv
 split at hv
 ·rename_i e n off s len cap kd j he
  have := ri.int; subst this
  split at hv
  ·rename_i z hz hlt
   cases hv
   have hlt : j < len := Nat.le_of_ble_eq_true hlt
   have h0 : (0 : Int) ≤ Int.ofNat j ∧ Int.ofNat j < (len : Int) := ⟨Int.natCast_nonneg j, by simpa using hlt⟩
   have go : ∀ b cap', (Instr.indexAt t (.slice (some ⟨b, off, none⟩) len cap') (.int kd (.ofNat j))).run P w = .ok (.pointer (some ⟨b, off + j * z, none⟩)) w := fun b cap' => by
    simp only [Instr.indexAt, asIntOf, Sem.run_bind, Sem.run_pure, Result.andThen_ok, run_underlying he, pure_bind, h0, and_self, if_true, run_sizeOf hz, add_lit, Int.toNat_natCast, Int.ofNat_eq_natCast]
    simp [run_underlying he, run_sizeOf hz, add_lit, hlt]
   cases s with
   | none => obtain ⟨b, c, hn, rfl⟩ := rx.sl_inv; exact ⟨_, go b _, .ptr hn⟩
   | some g =>
    obtain ⟨b, c, off', hn, ho, rfl⟩ := rx.gr_inv
    have : off' = off := by
     rcases ho with h | ⟨_, h⟩
     ·exact h
     ·omega
    subst this
    exact ⟨_, go b _, .ptr hn⟩
  ·cases hv
 ·rename_i e n len kd j he
  have := ri.int; subst this
  obtain ⟨b, c, off, hn, hn1, rfl⟩ := rx.fs_inv
  split at hv
  ·rename_i z hz hlt
   cases hv
   have hlt : j < len := Nat.le_of_ble_eq_true hlt
   have h0 : (0 : Int) ≤ Int.ofNat j ∧ Int.ofNat j < (len : Int) := ⟨Int.natCast_nonneg j, by simpa using hlt⟩
   refine ⟨_, ?_, .fp hn1⟩
   simp only [Instr.indexAt, asIntOf, Sem.run_bind, Sem.run_pure, Result.andThen_ok, run_underlying he, pure_bind, h0, and_self, if_true, run_sizeOf hz, add_lit, Int.toNat_natCast, Int.ofNat_eq_natCast]
   simp [run_underlying he, run_sizeOf hz, add_lit, hlt]
  ·cases hv
 ·rename_i len e n off kd j he
  have := ri.int; subst this
  obtain ⟨b, c, hn, rfl⟩ := rx.ptr_inv
  split at hv
  ·rename_i z hz hlt
   cases hv
   have hlt : j < len := Nat.le_of_ble_eq_true hlt
   have h0 : (0 : Int) ≤ Int.ofNat j ∧ Int.ofNat j < (len : Int) := ⟨Int.natCast_nonneg j, by simpa using hlt⟩
   refine ⟨_, ?_, .ptr hn⟩
   simp only [Instr.indexAt, asIntOf, Sem.run_bind, Sem.run_pure, Result.andThen_ok, run_underlying he, Instr.sureAddr, pure_bind, h0, and_self, if_true, run_sizeOf hz, add_lit, Int.toNat_natCast, Int.ofNat_eq_natCast]
   simp [run_underlying he, run_sizeOf hz, add_lit, hlt]
  ·cases hv
 ·cases hv
end
section
variable {P : Program} {σ : Nat → Nat → Value} [SigOk σ] {w0 : World} {h : Heap} {ρ : Ren} {w : World}
theorem symBytes_spec : ∀ {l l' : List Value}, RepL σ ρ l l' → symBytes l = true → ∃ r : List UInt8, l' = r.map fun b => Value.int .u8 b.toNat
 | [], _, .nil, _ => ⟨[], rfl⟩
 | x :: l, _, .cons (y := y) a t, h => by
  unfold symBytes at h
  split at h
  ·rename_i he; cases he
  ·rename_i n l0 he
   cases he
   rw [Bool.and_eq_true] at h
   obtain ⟨r, e⟩ := symBytes_spec t h.2
   have hn := Nat.le_of_ble_eq_true h.1
   have := a.of_plain rfl
   subst this
   refine ⟨UInt8.ofNat n :: r, ?_⟩
   have hb : (UInt8.ofNat n).toNat = n := by simp; omega
   rw [e, List.map_cons, hb]
   rfl
  ·rename_i i j l0 he
   cases he
   rw [Bool.and_eq_true] at h
   obtain ⟨r, e⟩ := symBytes_spec t h.2
   have he := a.sy_inv
   obtain ⟨T, K, hT, hK, hs, _⟩ := SigOk.ex (σ := σ)
   have hm : ∃ m : Nat, m < 256 ∧ y = .int .u8 (m : Nat) := by
    rw [he, hs]
    have hj := h.1
    simp only [Bool.or_eq_true] at hj
    have ht := hT i
    rcases hj with (hj | hj) | hj
    ·obtain rfl := Nat.eq_of_beq_eq_true hj
     exact ⟨T i / 256, by omega, rfl⟩
    ·obtain rfl := Nat.eq_of_beq_eq_true hj
     exact ⟨T i % 256, by omega, rfl⟩
    ·have hj := Nat.eq_of_beq_eq_true hj
     unfold sval
     rw [hj]
     exact ⟨_, Nat.mod_lt _ (by omega), rfl⟩
   obtain ⟨m, hm, rfl⟩ := hm
   refine ⟨UInt8.ofNat m :: r, ?_⟩
   have hb : (UInt8.ofNat m).toNat = m := by simp; omega
   rw [e, List.map_cons, hb]
  ·cases h
set_option maxHeartbeats 4000000 in
theorem quiet_sound (k : WI σ w0 h ρ w) {o : Oper} {ev : Operand → Value} {args : List Value} {v : Value} (ha : RepL σ ρ args ((opnds o.op).map ev)) (hv : quiet P h o.op o.type args = some v) : QuietOk P σ ρ w ev o v := by
 obtain ⟨dst, op, type, pos, after, guard⟩ := o
 simp only at ha hv
 unfold quiet at hv
 split at hv
 ·-- move
  obtain ⟨b, e, hr⟩ := ha.one
  simp only [opnds, List.map_cons, List.map_nil, List.cons.injEq, and_true] at e
  subst e; cases hv
  exact ⟨_, rfl, hr⟩
 ·-- assign
  obtain ⟨b, e, hr⟩ := ha.one
  simp only [opnds, List.map_cons, List.map_nil, List.cons.injEq, and_true] at e
  subst e; cases hv
  exact ⟨_, rfl, hr⟩
 ·-- pick
  obtain ⟨x, y, z, e, h1, h2, h3⟩ := ha.three
  simp only [opnds, List.map_cons, List.map_nil, List.cons.injEq, and_true] at e
  obtain ⟨rfl, rfl, rfl⟩ := e
  have e1 := h1.bool
  split at hv
  ·cases hv; exact ⟨_, by simp [execOp, e1, asBool], h2⟩
  ·cases hv; exact ⟨_, by simp [execOp, e1, asBool], h3⟩
 ·-- load
  obtain ⟨b, e, hr⟩ := ha.one
  simp only [opnds, List.map_cons, List.map_nil, List.cons.injEq, and_true] at e
  subst e
  obtain ⟨bl, c, hn, he⟩ := hr.ptr_inv
  obtain ⟨v', hl, hrv⟩ := loadZ_sound k hn hv
  exact ⟨v', by simp [execOp, he, Instr.loadAt, Instr.sureAddr, hl], hrv⟩
 ·-- load of what lies somewhere
  obtain ⟨b, e, hr⟩ := ha.one
  simp only [opnds, List.map_cons, List.map_nil, List.cons.injEq, and_true] at e
  subst e
  obtain ⟨bl, c, hn, he⟩ := hr.fp_inv
  obtain ⟨v', hl, hrv⟩ := loadR_sound k hn hv
  exact ⟨v', by simp [execOp, he, Instr.loadAt, Instr.sureAddr, hl], hrv⟩
 ·-- nilCheck of a pointer
  rename_i a
  obtain ⟨b, e, hr⟩ := ha.one
  simp only [opnds, List.map_cons, List.map_nil, List.cons.injEq, and_true] at e
  cases hv
  have he : ∃ a', b = .pointer (some a') := by
   cases hr with
   | plain h => cases h
   | ptr h => exact ⟨_, rfl⟩
   | fp h => exact ⟨_, rfl⟩
  obtain ⟨a', he⟩ := he
  rw [he] at e hr
  exact ⟨_, by simp only [execOp, e]; rfl, hr⟩
 ·-- nilCheck of a function
  obtain ⟨b, e, hr⟩ := ha.one
  simp only [opnds, List.map_cons, List.map_nil, List.cons.injEq, and_true] at e
  subst e; cases hv
  obtain ⟨a', c', he, _, _⟩ := hr.fn_inv
  exact ⟨_, by simp only [execOp, he]; rfl, by rw [← he]; exact hr⟩
 ·-- binOp
  obtain ⟨x, y, e, h1, h2⟩ := ha.two
  simp only [opnds, List.map_cons, List.map_nil, List.cons.injEq, and_true] at e
  obtain ⟨rfl, rfl⟩ := e
  split at hv
  ·rename_i u hs
   cases hv
   obtain ⟨v', hr, hrv⟩ := symBin_sound (P := P) (w := w) (x := _) (y := _) h1 h2 hs
   exact QuietOk.of rfl hr hrv
  ·obtain ⟨hr, hrv⟩ := binZ_sound k (x := _) (y := _) h1 h2 hv
   exact QuietOk.of rfl hr hrv
 ·-- unOp
  obtain ⟨b, e, hr⟩ := ha.one
  simp only [opnds, List.map_cons, List.map_nil, List.cons.injEq, and_true] at e
  subst e
  have he := hr.int
  obtain ⟨h1, h2⟩ := pureP_sound (σ := σ) (ρ := ρ) (w := w) hv
  exact QuietOk.of (by simp only [execOp, he]) h1 h2
 ·obtain ⟨b, e, hr⟩ := ha.one
  simp only [opnds, List.map_cons, List.map_nil, List.cons.injEq, and_true] at e
  subst e
  have he := hr.bool
  obtain ⟨h1, h2⟩ := pureP_sound (σ := σ) (ρ := ρ) (w := w) hv
  exact QuietOk.of (by simp only [execOp, he]) h1 h2
 ·-- convert of a number
  obtain ⟨b, e, hr⟩ := ha.one
  simp only [opnds, List.map_cons, List.map_nil, List.cons.injEq, and_true] at e
  subst e
  have he := hr.int
  split at hv
  ·obtain ⟨h1, h2⟩ := pureP_sound (σ := σ) (ρ := ρ) (w := w) hv
   exact QuietOk.of (by simp only [execOp, he]) h1 h2
  ·cases hv
 ·-- convert of a symbol
  rename_i src dst' x0 i j
  obtain ⟨b, e, hr⟩ := ha.one
  simp only [opnds, List.map_cons, List.map_nil, List.cons.injEq, and_true] at e
  subst e
  have he := hr.sy_inv
  split at hv
  ·rename_i d q hsrc hdst
   obtain ⟨p, n, hn, hrv⟩ := symConv_sound (σ := σ) (ρ := ρ) hv
   refine QuietOk.of (s := convert src dst' (ev _)) (v' := .int q (q.wrap n)) rfl ?_ hrv
   rw [he, hn]
   simp [convert, run_underlying hsrc, run_underlying hdst, Conv.intToInt]
  ·cases hv
 ·-- of a string
  obtain ⟨b, e, hr⟩ := ha.one
  simp only [opnds, List.map_cons, List.map_nil, List.cons.injEq, and_true] at e
  subst e
  have he := hr.string
  split at hv
  ·obtain ⟨h1, h2⟩ := pureP_sound (σ := σ) (ρ := ρ) (w := w) hv
   exact QuietOk.of (by simp only [execOp, he]) h1 h2
  ·cases hv
 ·-- bytes to a string
  rename_i src dst' _ b len cap
  obtain ⟨b', e, hr⟩ := ha.one
  simp only [opnds, List.map_cons, List.map_nil, List.cons.injEq, and_true] at e
  subst e
  split at hv
  ·rename_i e1 hs hd
   split at hv
   ·rename_i hu
    split at hv
    ·rename_i l hl
     obtain ⟨l', hrl, hf, _⟩ := rowCells_sound (P := P) k hr hl (fun _ _ _ e => by cases e; exact Nat.le_refl _) (fun _ e => by cases e)
     have hkey : ∃ r : List UInt8, l' = (r.map fun b => Value.int .u8 b.toNat) ∧ Rep σ ρ v (.string (ofBytes r)) := by
      split at hv
      ·rename_i r hr8
       cases hv
       have hl8 := u8s_spec hr8
       exact ⟨r, by rw [hrl.of_plain (by rw [hl8]; exact u8_plain r), hl8], .plain rfl⟩
      ·split at hv
       ·rename_i hsy
        cases hv
        obtain ⟨r, e⟩ := symBytes_spec hrl hsy
        subst e
        exact ⟨r, rfl, .str hrl⟩
       ·cases hv
     obtain ⟨r, hll, hrv⟩ := hkey
     refine QuietOk.of (s := convert src dst' (ev _)) (v' := .string (ofBytes r)) rfl ?_ hrv
     generalize ev _ = q at hr hf
     cases hr with
     | plain hp =>
      cases b with
      | none =>
       simp only [rowCells] at hl
       split at hl
       ·cases hl
        have e0 : l' = [] := by cases hrl; rfl
        have e1 : r = [] := by
         rw [e0] at hll
         exact List.map_eq_nil_iff.1 hll.symm
        subst e1
        simp [convert, run_underlying hs, run_underlying hd, run_underlying hu, Conv.bytesToString, ofBytes]
        rfl
       ·cases hl
      | some _ => cases hp
     | sl hn =>
      have hb := run_bytes (P := P) (w := w) r ⟨_, _, none⟩ len cap (by simpa [Builtin.firstCells, hll] using hf)
      simp [convert, run_underlying hs, run_underlying hd, run_underlying hu, hb]
     | @gr _ _ c0 _ _ k0 _ _ hn ho =>
      have hb := run_bytes (P := P) (w := w) r ⟨_, _, none⟩ len (c0 - k0) (by simpa [Builtin.firstCells, hll] using hf)
      simp [convert, run_underlying hs, run_underlying hd, run_underlying hu, hb]
    ·cases hv
   ·cases hv
  ·cases hv
 ·-- makeInterface
  obtain ⟨b, e, hr⟩ := ha.one
  simp only [opnds, List.map_cons, List.map_nil, List.cons.injEq, and_true] at e
  subst e
  split at hv
  ·cases hv
  ·rename_i d hne hd
   cases hv
   refine QuietOk.of rfl (v' := .iface _ (ev _)) ?_ (.iface hr)
   unfold Instr.makeInterface
   rw [Sem.run_bind, run_underlying hd]
   cases d <;> first | rfl | exact absurd rfl (hne _)
  ·cases hv
 ·-- makeFunc
  rename_i f first captured
  cases hv
  simp only [opnds, List.map_append] at ha
  refine ⟨.func (.func f) (first.map ev) (captured.map ev), rfl, ?_⟩
  have h1 := ha.take first.size
  have h2 := ha.drop first.size
  have hl : (first.toList.map ev).length = first.size := by simp
  rw [List.take_left' hl] at h1
  rw [List.drop_left' hl] at h2
  have := Rep.fn (f := f) h1 h2
  have e1 : (first.toList.map ev).toArray = first.map ev := by apply Array.ext'; simp
  have e2 : (captured.toList.map ev).toArray = captured.map ev := by apply Array.ext'; simp
  rw [e1, e2] at this
  exact this
 ·-- slice
  rename_i t x0 lo hi mx x l
  simp only [opnds, List.map_cons] at ha
  obtain ⟨y, kk, e, hrx, hrl⟩ := ha.cons'
  simp only [List.cons.injEq] at e
  obtain ⟨rfl, rfl⟩ := e
  split at hv
  ·rename_i a b c hs
   obtain ⟨r1, r2, r3, r4⟩ := sliceArgs_rep hrl hs
   obtain ⟨v', h1, h2⟩ := sliceZ_sound k hrx r1 r2 r3 r4 hv
   exact QuietOk.of rfl h1 h2
  ·cases hv
 ·-- fieldAddr
  rename_i s x f n off
  obtain ⟨b, e, hr⟩ := ha.one
  simp only [opnds, List.map_cons, List.map_nil, List.cons.injEq, and_true] at e
  subst e
  obtain ⟨bl, c, hn, he⟩ := hr.ptr_inv
  split at hv
  ·rename_i k' hk
   cases hv
   refine QuietOk.of rfl ?_ (.ptr hn)
   rw [he]
   unfold fieldOff at hk
   split at hk
   ·rename_i fs hfs
    split at hk
    ·rename_i x' hx'
     split at hk
     ·cases hk
     ·rename_i z hne hz
      simp only [Option.some.injEq] at hk
      subst hk
      have hz0 : z ≠ 0 := fun e => hne e
      simp [Instr.fieldAt, run_underlying hfs, hx', Instr.sureAddr, fieldPlace, run_sizeOf hz, hz0, add_lit]
     ·cases hk
    ·cases hk
   ·cases hk
  ·cases hv
 ·-- field
  obtain ⟨b, e, hr⟩ := ha.one
  simp only [opnds, List.map_cons, List.map_nil, List.cons.injEq, and_true] at e
  subst e
  obtain ⟨c', he, hc⟩ := hr.agg_inv
  split at hv
  ·rename_i fs hfs
   split at hv
   ·rename_i x hx
    split at hv
    ·rename_i z hz
     split at hv
     ·rename_i hlen
      have hr' := (hc.drop x.offset).take z
      obtain ⟨v', hv', hrv⟩ := asVar_rep hr' hv
      have := part_run (P := P) (w := w) hz (by rw [← hr'.length]; exact Nat.eq_of_beq_eq_true hlen) hv'
      refine QuietOk.of rfl ?_ hrv
      rw [he]
      simp [Instr.field, run_underlying hfs, hx, asAgg, this]
     ·cases hv
    ·cases hv
   ·cases hv
  ·cases hv
 ·-- indexAddr
  obtain ⟨x, y, e, h1, h2⟩ := ha.two
  simp only [opnds, List.map_cons, List.map_nil, List.cons.injEq, and_true] at e
  obtain ⟨rfl, rfl⟩ := e
  obtain ⟨v', h3, h4⟩ := indexAddrZ_sound (w := w) h1 h2 hv
  exact QuietOk.of rfl h3 h4
 ·-- index of a string
  obtain ⟨x, y, e, h1, h2⟩ := ha.two
  simp only [opnds, List.map_cons, List.map_nil, List.cons.injEq, and_true] at e
  obtain ⟨rfl, rfl⟩ := e
  have e1 := h1.string
  have e2 := h2.int
  split at hv
  ·rename_i hu
   split at hv
   ·rename_i b hb
    cases hv
    refine QuietOk.of rfl (v' := .int .u8 b.toNat) ?_ (.plain rfl)
    rw [e1, e2]
    rename_i s kd j _ _
    have hlt := (List.getElem?_eq_some_iff.1 hb).1
    have hs : s[j]? = some b := by
     have hlt' : j < s.size := by rw [size_bytes]; exact hlt
     rw [ByteArray.getElem?_lt' s j hlt']
     congr 1
     have := (List.getElem?_eq_some_iff.1 hb).2
     rw [← this]
     rfl
    simp [Instr.index, asIntOf, run_underlying hu, hs]
   ·cases hv
  ·cases hv
 ·-- lookup
  obtain ⟨x, y, e, h1, h2⟩ := ha.two
  simp only [opnds, List.map_cons, List.map_nil, List.cons.injEq, and_true] at e
  obtain ⟨rfl, rfl⟩ := e
  obtain ⟨v', h3, h4⟩ := lookZ_sound k h1 h2 hv
  exact QuietOk.of rfl h3 h4
 ·-- extract
  obtain ⟨b, e, hr⟩ := ha.one
  simp only [opnds, List.map_cons, List.map_nil, List.cons.injEq, and_true] at e
  subst e
  obtain ⟨c', he, hc⟩ := hr.tup_inv
  obtain ⟨y, hy, hry⟩ := hc.get hv
  refine QuietOk.of rfl ?_ hry
  rw [he]
  have h0 : ∀ i : Nat, c'.toList[i]? = some y → c'[i]? = some y := fun i h => by simpa using h
  simp [Instr.extract, h0 _ hy]
 ·-- build
  rename_i t ps
  split at hv
  ·rename_i z cells hz hb
   cases hv
   simp only [opnds] at ha
   obtain ⟨cells', h1, h2⟩ := buildB_rep (is := ps.toList.map (·.1)) hz ha hb
   refine QuietOk.of rfl ?_ (.agg h2)
   have e1 : (ps.map fun (i, x) => (i, ev x)) = (List.zip (ps.toList.map (·.1)) ((ps.toList.map (·.2)).map ev)).toArray := by
    apply Array.ext'
    simp only [Array.toList_map, List.zip_map', List.map_map]
    rfl
   show (Instr.build t (ps.map fun (i, x) => (i, ev x))).run P w = _
   rw [e1]
   exact Go.X.run_build h1 w
  ·cases hv
 ·-- len of a string
  rename_i cargs ts s
  obtain ⟨p, e, h1⟩ := ha.one
  simp only [opnds] at e
  have e1 : cargs.map ev = #[p] := map_toArray_eq e
  have e2 := h1.string; subst e2
  split at hv
  ·rename_i t ht0
   split at hv
   ·rename_i hu
    cases hv
    exact ⟨_, by simp [execOp, resolve, e1, invoke, builtin, Builtin.len_, ht0, run_underlying hu, size_bytes], .plain rfl⟩
   ·cases hv
  ·cases hv
 ·-- of a slice
  rename_i cargs ts b m c
  obtain ⟨p, e, h1⟩ := ha.one
  simp only [opnds] at e
  have e1 : cargs.map ev = #[p] := map_toArray_eq e
  obtain ⟨a', cap', rfl, _, _⟩ := rep_slice h1
  split at hv
  ·rename_i t ht0
   split at hv
   ·rename_i el hu
    cases hv
    exact ⟨_, by simp [execOp, resolve, e1, invoke, builtin, Builtin.len_, ht0, run_underlying hu], .plain rfl⟩
   ·cases hv
  ·cases hv
 ·-- of a slice that lies somewhere
  rename_i cargs ts b m
  obtain ⟨p, e, h1⟩ := ha.one
  simp only [opnds] at e
  have e1 : cargs.map ev = #[p] := map_toArray_eq e
  obtain ⟨_, _, _, _, _, rfl⟩ := h1.fs_inv
  split at hv
  ·rename_i t ht0
   split at hv
   ·rename_i el hu
    cases hv
    exact ⟨_, by simp [execOp, resolve, e1, invoke, builtin, Builtin.len_, ht0, run_underlying hu], .plain rfl⟩
   ·cases hv
  ·cases hv
 ·-- of a ghost
  rename_i cargs ts n0 g a0
  obtain ⟨p, e, h1⟩ := ha.one
  simp only [opnds] at e
  have e1 : cargs.map ev = #[p] := map_toArray_eq e
  obtain ⟨_, _, rfl, _⟩ := h1.gs_inv
  split at hv
  ·rename_i t ht0
   split at hv
   ·rename_i el hu
    cases hv
    have hgl := ghost_len (σ := σ) g
    refine ⟨σ (gbase g) 4, ?_, .sym (by rw [hgl]; rfl)⟩
    rw [hgl]
    simp [execOp, resolve, e1, invoke, builtin, Builtin.len_, ht0, run_underlying hu, goInt]
   ·cases hv
  ·cases hv
 ·-- of a map
  rename_i cargs ts m
  obtain ⟨p, e, h1⟩ := ha.one
  simp only [opnds] at e
  have e1 : cargs.map ev = #[p] := map_toArray_eq e
  split at hv
  ·rename_i t ht0
   split at hv
   ·rename_i k1 k2 hu
    have := h1.of_plain rfl; subst this
    cases hv
    exact ⟨_, by simp [execOp, resolve, e1, invoke, builtin, Builtin.len_, ht0, run_underlying hu], .plain rfl⟩
   ·rename_i k1 k2 m0 hu
    obtain ⟨bl, c, hn, rfl⟩ := h1.map_inv
    split at hv
    ·rename_i es ho
     cases hv
     obtain ⟨ms, clock, hx, hm, _⟩ := k.rel m0 bl c _ hn ho
     have hget : (getObj bl).run P w = .ok (.map ms clock) w := by simp [getObj, Sem.run, hx]
     have hlen : es.length = ms.size := by have := hm.len; simpa using this
     exact ⟨_, by simp [execOp, resolve, e1, invoke, builtin, Builtin.len_, ht0, run_underlying hu, hget, hlen], .plain rfl⟩
    ·cases hv
   ·cases hv
  ·cases hv
 ·-- len of a channel
  rename_i cargs ts m
  obtain ⟨p, e, h1⟩ := ha.one
  simp only [opnds] at e
  have e1 : cargs.map ev = #[p] := map_toArray_eq e
  split at hv
  ·rename_i t ht0
   split at hv
   ·rename_i k1 k2 hu
    have := h1.of_plain rfl; subst this
    cases hv
    exact ⟨_, by simp [execOp, resolve, e1, invoke, builtin, Builtin.len_, ht0, run_underlying hu], .plain rfl⟩
   ·rename_i k1 k2 m0 hu
    obtain ⟨bl, c, hn, rfl⟩ := h1.chan_inv
    split at hv
    ·rename_i cap buf ho
     cases hv
     obtain ⟨buf', s, r, hx, hb⟩ := k.rel m0 bl c _ hn ho
     have hget : (getObj bl).run P w = .ok (.chan cap buf'.toArray false s r false) w := by simp [getObj, Sem.run, hx]
     have hlen : buf.length = buf'.length := hb.length
     exact ⟨_, by simp [execOp, resolve, e1, invoke, builtin, Builtin.len_, ht0, run_underlying hu, hget, hlen], .plain rfl⟩
    ·cases hv
   ·cases hv
  ·cases hv
 ·-- its capacity
  rename_i cargs ts m
  obtain ⟨p, e, h1⟩ := ha.one
  simp only [opnds] at e
  have e1 : cargs.map ev = #[p] := map_toArray_eq e
  split at hv
  ·rename_i t ht0
   split at hv
   ·rename_i k1 k2 hu
    have := h1.of_plain rfl; subst this
    cases hv
    exact ⟨_, by simp [execOp, resolve, e1, invoke, builtin, Builtin.cap_, ht0, run_underlying hu], .plain rfl⟩
   ·rename_i k1 k2 m0 hu
    obtain ⟨bl, c, hn, rfl⟩ := h1.chan_inv
    split at hv
    ·rename_i cap buf ho
     cases hv
     obtain ⟨buf', s, r, hx, hb⟩ := k.rel m0 bl c _ hn ho
     have hget : (getObj bl).run P w = .ok (.chan cap buf'.toArray false s r false) w := by simp [getObj, Sem.run, hx]
     exact ⟨_, by simp [execOp, resolve, e1, invoke, builtin, Builtin.cap_, ht0, run_underlying hu, hget], .plain rfl⟩
    ·cases hv
   ·cases hv
  ·cases hv
 ·-- cap
  rename_i cargs ts m c
  obtain ⟨p, e, h1⟩ := ha.one
  simp only [opnds] at e
  have e1 : cargs.map ev = #[p] := map_toArray_eq e
  have := h1.of_plain rfl; subst this
  split at hv
  ·rename_i t ht0
   split at hv
   ·rename_i el hu
    cases hv
    exact ⟨_, by simp [execOp, resolve, e1, invoke, builtin, Builtin.cap_, ht0, run_underlying hu], .plain rfl⟩
   ·cases hv
  ·cases hv
 ·rename_i cargs ts b0 o0 m c
  obtain ⟨p, e, h1⟩ := ha.one
  simp only [opnds] at e
  have e1 : cargs.map ev = #[p] := map_toArray_eq e
  obtain ⟨bl, cc, hn, rfl⟩ := h1.sl_inv
  split at hv
  ·rename_i t ht0
   split at hv
   ·rename_i el hu
    cases hv
    exact ⟨_, by simp [execOp, resolve, e1, invoke, builtin, Builtin.cap_, ht0, run_underlying hu], .plain rfl⟩
   ·cases hv
  ·cases hv
 ·-- min, max
  rename_i cargs ts k1 x1 k2 x2
  obtain ⟨p, q, e, h1, h2⟩ := ha.two
  simp only [opnds] at e
  have e1 : cargs.map ev = #[p, q] := map_toArray_eq e
  have := h1.int; subst this
  have := h2.int; subst this
  obtain ⟨h3, h4⟩ := pureP_sound (σ := σ) (ρ := ρ) (w := w) hv
  exact ⟨_, by simp [execOp, resolve, e1, invoke, builtin, h3], h4⟩
 ·rename_i cargs ts k1 x1 k2 x2
  obtain ⟨p, q, e, h1, h2⟩ := ha.two
  simp only [opnds] at e
  have e1 : cargs.map ev = #[p, q] := map_toArray_eq e
  have := h1.int; subst this
  have := h2.int; subst this
  obtain ⟨h3, h4⟩ := pureP_sound (σ := σ) (ρ := ρ) (w := w) hv
  exact ⟨_, by simp [execOp, resolve, e1, invoke, builtin, h3], h4⟩
 ·cases hv
end
end Go.Z
end
