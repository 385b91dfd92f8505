/- One part of a proof: an evaluator of the model, shown right, and contracts that it yields. No condition beyond those that each theorem names. -/
import Derived.Test.YtnhllgedoimhkaaGreatDoorZA
import Derived.Laws.Cover3
import Derived.Laws.MakeOwn
import Derived.LaidEql
import Derived.Laws.Strings
import Derived.Test.YtnhllgedoimhkaaGreatDoorXA
set_option linter.unusedSimpArgs false
set_option linter.unusedVariables false
set_option linter.unusedSectionVars false
set_option linter.deprecated false
section
namespace Go.Z
open Go.X
open Go.RowKit
section
variable {P : Program} {σ : Nat → Nat → Value} {w0 : World} {h : Heap} {ρ : Ren} {w : World}
theorem WI.cellsAt (k : WI σ w0 h ρ w) {n b c : Nat} {o : HO} {l : List Value} (hn : ρ n = some (b, c)) (ho : h.get n = some o) (hl : cellsOf o = some l) :
  ∃ l', RepL σ ρ l l' ∧ ∀ i v, l'[i]? = some v → w.cell? ⟨b, i, none⟩ = some v := by
 have hr := k.rel n b c o hn ho
 cases o with
 | cells t m =>
  simp only [cellsOf, Option.some.injEq] at hl; subst hl
  obtain ⟨l', hx, hl'⟩ := hr
  exact ⟨l', hl', fun i v hv => by simp [World.cell?, hx, hv]⟩
 | grown t z m =>
  simp only [cellsOf, Option.some.injEq] at hl; subst hl
  obtain ⟨l', rest, hx, hl', _⟩ := hr
  refine ⟨l', hl', fun i v hv => ?_⟩
  have hlt := (List.getElem?_eq_some_iff.1 hv).1
  simp [World.cell?, hx, List.getElem?_append_left hlt, hv]
 | ro m => cases hl
 | str m =>
  simp only [cellsOf, Option.some.injEq] at hl; subst hl
  obtain ⟨l', rest, t, fr, hx, hl'⟩ := hr
  refine ⟨l', hl', fun i v hv => ?_⟩
  have hlt := (List.getElem?_eq_some_iff.1 hv).1
  simp [World.cell?, hx, List.getElem?_append_left hlt, hv]
 | map _ => cases hl
 | chan _ _ => cases hl
 | dead => cases hl
 | perm _ _ => cases hl
 | mapI _ _ => cases hl
 | iter _ _ => cases hl
 | iter0 => cases hl
 | mapS _ => cases hl
 | lab _ _ => cases hl
theorem drop_take_get {l : List Value} {off z i : Nat} {x : Value} (h : ((l.drop off).take z)[i]? = some x) : l[off + i]? = some x := by
 rw [List.getElem?_take] at h
 split at h
 ·rwa [List.getElem?_drop] at h
 ·cases h
theorem asVar_rep {t : TypeId} {l l' : List Value} {v : Value} (hl : RepL σ ρ l l') (hv : asVar P t l = some v) : ∃ v', asVar P t l' = some v' ∧ Rep σ ρ v v' := by
 unfold asVar at hv ⊢
 split at hv
 ·cases hv; exact ⟨_, rfl, .agg hl⟩
 ·cases hv; exact ⟨_, rfl, .agg hl⟩
 ·split at hv
  ·cases hv
   cases hl with
   | cons a t => cases t with | nil => exact ⟨_, rfl, a⟩
  ·cases hv
 ·cases hv
theorem loadZ_sound (k : WI σ w0 h ρ w) {t : TypeId} {n off b c : Nat} {v : Value} (hn : ρ n = some (b, c)) (hv : loadZ P h t n off = some v) :
  ∃ v', (loadVar t ⟨b, off, none⟩).run P w = .ok v' w ∧ Rep σ ρ v v' := by
 unfold loadZ at hv
 split at hv
 ·rename_i o ho
  split at hv
  ·rename_i l z hl hz
   split at hv
   ·rename_i hlen
    obtain ⟨l', hr, hc⟩ := k.cellsAt hn ho hl
    have hr' := (hr.drop off).take z
    obtain ⟨v', hv', hrv⟩ := asVar_rep hr' hv
    refine ⟨v', run_loadVar hz (by rw [← hr'.length]; exact Nat.eq_of_beq_eq_true hlen) (fun i x hx => hc _ _ (drop_take_get hx)) hv', hrv⟩
   ·cases hv
  ·cases hv
 ·cases hv
theorem loadR_sound (k : WI σ w0 h ρ w) {t : TypeId} {n off b c : Nat} {v : Value} (hn : ρ n = some (b, c)) (hv : loadR P h t n off = some v) :
  ∃ v', (loadVar t ⟨b, c + off, none⟩).run P w = .ok v' w ∧ Rep σ ρ v v' := by
 unfold loadR at hv
 split at hv
 ·rename_i l ho
  split at hv
  ·rename_i z hz
   split at hv
   ·rename_i hlen
    obtain ⟨l', cs, tt, fr, hx, hr, hc⟩ := k.rel n b c _ hn ho
    have hr' := (hr.drop off).take z
    obtain ⟨v', hv', hrv⟩ := asVar_rep hr' hv
    refine ⟨v', run_loadVar hz (by rw [← hr'.length]; exact Nat.eq_of_beq_eq_true hlen) (fun i x hi => ?_) hv', hrv⟩
    have := hc _ _ (drop_take_get hi)
    simp [World.cell?, hx, Nat.add_assoc, this]
   ·cases hv
  ·cases hv
 ·cases hv
theorem UInt8.eq_of_nat {a b : UInt8} (h : a.toNat = b.toNat) : a = b := UInt8.toNat_inj.1 h
theorem eqBytes_iff : ∀ {x y : List UInt8}, eqBytes x y = true ↔ x = y
 | [], [] => by simp [eqBytes]
 | [], _ :: _ => by simp [eqBytes]
 | _ :: _, [] => by simp [eqBytes]
 | a :: x, b :: y => by
  unfold eqBytes
  cases hb : Nat.beq a.toNat b.toNat with
  | true =>
   have := UInt8.eq_of_nat (Nat.eq_of_beq_eq_true hb)
   subst this
   simp only [List.cons.injEq, true_and]
   exact eqBytes_iff
  | false =>
   have : a ≠ b := fun e => by subst e; rw [Nat.beq_refl] at hb; cases hb
   simp [this]
theorem eqBytes_eq (x y : List UInt8) : eqBytes x y = (x == y) := by
 cases hb : eqBytes x y with
 | true => rw [eqBytes_iff] at hb; simp [hb]
 | false =>
  have : x ≠ y := fun e => by rw [eqBytes_iff.2 e] at hb; cases hb
  simp [this]
theorem ltBytes_eq : ∀ (x y : List UInt8), ltBytes x y = Op.bytesLess x y
 | [], [] => rfl
 | _ :: _, [] => rfl
 | [], _ :: _ => rfl
 | a :: x, b :: y => by
  unfold ltBytes Op.bytesLess
  have h1 : Nat.blt a.toNat b.toNat = decide (a < b) := by
   rw [Bool.eq_iff_iff]
   simp [Nat.blt_eq, UInt8.lt_iff_toNat_lt]
  have h2 : Nat.beq a.toNat b.toNat = (a == b) := by
   rw [Bool.eq_iff_iff]
   rw [beq_iff_eq]
   exact ⟨fun h => UInt8.toNat_inj.1 (Nat.eq_of_beq_eq_true h), fun h => by rw [h]; exact Nat.beq_refl _⟩
  rw [h1, h2, ltBytes_eq x y]
  cases decide (a < b) <;> cases (a == b) <;> simp
theorem bytesOf_eq (s : ByteArray) : s.toList = bytesOf s := ByteArray.toList_eq s
theorem ofBytes_inj {a : ByteArray} {l : List UInt8} (h : a.data.toList = l) : a = ofBytes l := by
 obtain ⟨⟨x⟩⟩ := a
 simp at h
 rw [h]; rfl
theorem bytes_append (x y : ByteArray) : x ++ y = ofBytes (bytesOf x ++ bytesOf y) := ofBytes_inj (by simp [bytesOf])
theorem size_bytes (x : ByteArray) : x.size = (bytesOf x).length := by cases x; rfl
theorem strOp_sound {op : BinOp} {x y : ByteArray} {v : Value} (h : strOp op x y = some v) : (Op.stringOp op x y).run P w = .ok v w ∧ plain v = true := by
 unfold strOp at h
 unfold Op.stringOp
 simp only [bytesOf_eq, ← ltBytes_eq, ← eqBytes_eq]
 split at h
 ·split at h
  ·rename_i hle
   cases h
   have hle := Nat.le_of_ble_eq_true hle
   have : ¬ ((x.size + y.size : Nat) : Int) > IntKind.i64.max := by
    rw [size_bytes, size_bytes]
    have : (IntKind.i64.max : Int) = 9223372036854775807 := by decide
    rw [this]; omega
   simp only [this, if_false, bytes_append]
   exact ⟨rfl, rfl⟩
  ·cases h
 all_goals first | (cases h; exact ⟨rfl, rfl⟩) | cases h
theorem pureP_sound {s : Sem Value} {v : Value} (h : pureP P s = some v) : s.run P w = .ok v w ∧ Rep σ ρ v v := by
 unfold pureP at h
 split at h
 ·rename_i u hu
  split at h
  ·rename_i hp
   cases h
   exact ⟨run_of_pureRun hu w, .plain hp⟩
  ·cases h
 ·cases h
theorem rowB_spec (k : WI σ w0 h ρ w) {n b c : Nat} (hn : ρ n = some (b, c)) (hb : rowB h n = true) : ∃ cs t, w.heap[b]? = some (.cells cs t (0, 0)) ∧ Live h n := by
 unfold rowB at hb
 split at hb
 ·rename_i t l ho
  obtain ⟨l', hx, _⟩ := k.rel n b c _ hn ho
  exact ⟨_, _, hx, _, ho, rfl⟩
 ·rename_i t z l ho
  obtain ⟨l', r, hx, _⟩ := k.rel n b c _ hn ho
  exact ⟨_, _, hx, _, ho, rfl⟩
 ·cases hb
theorem eq_run {op : BinOp} {t : TypeId} {x y : Operand} {a b : Value} {r : Bool} {v : Value} (hv : asEq op r = some v) (hg : eqGuard op t x y a b = pure ())
  (h1 : binOp .eql t a b = (do pure (.bool (← Op.equal t a b)))) (h2 : binOp .neq t a b = (do pure (.bool (!(← Op.equal t a b))))) (hr : (Op.equal t a b).run P w = .ok r w) :
  (do eqGuard op t x y a b; binOp op t a b : Sem Value).run P w = .ok v w ∧ Rep σ ρ v v := by
 rw [hg]
 unfold asEq at hv
 split at hv
 ·cases hv; rw [pure_bind, h1]; exact ⟨by simp [hr], .plain rfl⟩
 ·cases hv; rw [pure_bind, h2]; exact ⟨by simp [hr], .plain rfl⟩
 ·cases hv
theorem equal_unfold (t : TypeId) (a b : Value) : Op.equal t a b = Op.equalIn (9999 + 1) t a b := rfl
set_option maxHeartbeats 4000000 in
theorem binZ_sound (k : WI σ w0 h ρ w) {op : BinOp} {t : TypeId} {x y : Operand} {a b a' b' v : Value} (ha : Rep σ ρ a a') (hb : Rep σ ρ b b') (hv : binZ P h op t a b = some v) :
    (do eqGuard op t x y a' b'; binOp op t a' b' : Sem Value).run P w = .ok v w ∧ Rep σ ρ v v := by
  unfold binZ at hv
  split at hv
  · have := ha.int; subst this
    have := hb.int; subst this
    have hg : ∀ p q i j, eqGuard op t x y (.int p i) (.int q j) = pure () := fun p q i j => by cases op <;> rfl
    rw [hg, pure_bind]
    exact pureP_sound hv
  · have := ha.bool; subst this
    have := hb.bool; subst this
    have hg : ∀ i j, eqGuard op t x y (.bool i) (.bool j) = pure () := fun i j => by cases op <;> rfl
    rw [hg, pure_bind]
    exact pureP_sound hv
  · rename_i s1 s2
    have := ha.string; subst this
    have := hb.string; subst this
    have hg : eqGuard op t x y (.string s1) (.string s2) = pure () := by cases op <;> rfl
    rw [hg, pure_bind]
    have hs := strOp_sound (P := P) (w := w) hv
    have hbin : binOp op t (.string s1) (.string s2) = Op.stringOp op s1 s2 := by cases op <;> rfl
    rw [hbin]
    exact ⟨hs.1, .plain hs.2⟩
  · -- nil, nil
    have := ha.of_plain rfl; subst this
    have := hb.of_plain rfl; subst this
    unfold eqIf at hv
    split at hv
    · rename_i hp
      unfold isPtr at hp
      split at hp
      · rename_i e he
        exact eq_run hv (by cases op <;> rfl) rfl rfl (by rw [equal_unfold]; generalize (9999 : Nat) = fu; simp [Op.equalIn, run_underlying he])
      · cases hp
    · cases hv
  · -- nil, pointer
    rename_i q
    have := ha.of_plain rfl; subst this
    have hb' : ∃ q', b' = .pointer (some q') := by cases hb with | plain h => cases h | ptr h => exact ⟨_, rfl⟩ | fp h => exact ⟨_, rfl⟩
    obtain ⟨q', rfl⟩ := hb'
    unfold eqIf at hv
    split at hv
    · rename_i hp
      unfold isPtr at hp
      split at hp
      · rename_i e he
        exact eq_run hv (by cases op <;> rfl) rfl rfl (by rw [equal_unfold]; generalize (9999 : Nat) = fu; simp [Op.equalIn, run_underlying he])
      · cases hp
    · cases hv
  · rename_i q
    have := hb.of_plain rfl; subst this
    have ha' : ∃ q', a' = .pointer (some q') := by cases ha with | plain h => cases h | ptr h => exact ⟨_, rfl⟩ | fp h => exact ⟨_, rfl⟩
    obtain ⟨q', rfl⟩ := ha'
    unfold eqIf at hv
    split at hv
    · rename_i hp
      unfold isPtr at hp
      split at hp
      · rename_i e he
        exact eq_run hv (by cases op <;> rfl) rfl rfl (by rw [equal_unfold]; generalize (9999 : Nat) = fu; simp [Op.equalIn, run_underlying he])
      · cases hp
    · cases hv
  · -- pointers
    rename_i n o m o'
    obtain ⟨b1, c1, h1, rfl⟩ := ha.ptr_inv
    obtain ⟨b2, c2, h2, rfl⟩ := hb.ptr_inv
    split at hv
    · rename_i e he hr1 hr2
      split at hv
      · rename_i z hz
        obtain ⟨cs1, t1, hx1, l1⟩ := rowB_spec k h1 hr1
        obtain ⟨cs2, t2, hx2, l2⟩ := rowB_spec k h2 hr2
        refine eq_run hv (by cases op <;> rfl) rfl rfl ?_
        rw [equal_unfold]
        generalize (9999 : Nat) = fu
        have hsz := run_sizeOf (P := P) hz w
        simp only [Op.equalIn, Sem.run_bind, run_underlying he, Result.andThen_ok, hsz, ne_eq, Nat.succ_ne_zero, not_false_eq_true, if_true]
        by_cases hnm : n = m
        · subst hnm
          rw [h1, Option.some.injEq, Prod.mk.injEq] at h2
          obtain ⟨rfl, rfl⟩ := h2
          simp only [Nat.beq_refl, Bool.true_and]
          unfold sameAddr
          simp only [beq_self_eq_true, if_true, Sem.run_pure]
          congr 1
          rw [Bool.eq_iff_iff]
          simp [Nat.beq_eq_true_eq]
        · have hbb : b1 ≠ b2 := fun e => hnm (by subst e; exact k.inj n m b1 c1 c2 h1 h2 l1 l2)
          have := run_sameAddr_other (P := P) (w := w) (a := ⟨b1, o, none⟩) (b := ⟨b2, o', none⟩) (by simp [hbb]) hx1 hx2
          rw [this]
          have hf : Nat.beq n m = false := by
            cases hb3 : Nat.beq n m with
            | false => rfl
            | true => exact absurd (Nat.eq_of_beq_eq_true hb3) hnm
          rw [hf]; rfl
      · cases hv
    · cases hv
  all_goals first
    | (-- slices, maps, functions
      unfold eqIf at hv
      split at hv
      · rename_i hp
        first
          | (unfold isSlice at hp
             split at hp
             · rename_i e he
               have hA := ha
               have hB := hb
               cases ha <;> cases hb <;>
                 first
                   | (rename_i h1 h2; cases h1; done)
                   | exact eq_run hv (by cases op <;> rfl) rfl rfl (by rw [equal_unfold]; generalize (9999 : Nat) = fu; simp [Op.equalIn, run_underlying he])
                   | (rename_i h1 h2; cases h1)
                   | (rename_i h1 h2; cases h2)
                   | (rename_i h1; cases h1)
             · cases hp)
          | (unfold isMap at hp
             split at hp
             · rename_i e1 e2 he
               cases ha <;> cases hb <;>
                 first
                   | exact eq_run hv (by cases op <;> rfl) rfl rfl (by rw [equal_unfold]; generalize (9999 : Nat) = fu; simp [Op.equalIn, run_underlying he])
                   | (rename_i h1 h2; cases h1)
                   | (rename_i h1 h2; cases h2)
                   | (rename_i h1; cases h1)
             · cases hp)
          | (unfold isFunc at hp
             split at hp
             · rename_i e1 e2 e3 he
               cases ha <;> cases hb <;>
                 first
                   | exact eq_run hv (by cases op <;> rfl) rfl rfl (by rw [equal_unfold]; generalize (9999 : Nat) = fu; simp [Op.equalIn, run_underlying he])
                   | (rename_i h1 h2; cases h1)
                   | (rename_i h1 h2; cases h2)
                   | (rename_i h1; cases h1)
             · cases hp)
      · cases hv)
    | cases hv
end
section
variable {P : Program} {σ : Nat → Nat → Value} [SigOk σ] {ρ : Ren} {w : World}
theorem Rep.sy_inv {i j : Nat} {v : Value} (h : Rep σ ρ (.complex .f64 i j) v) : v = σ i j := by
 cases h with
 | plain h => cases h
 | sym _ => rfl
theorem sval_int (t : Nat) (k : Int) (j : Nat) : ∃ q n, sval t k j = .int q n := by
 unfold sval
 split <;> exact ⟨_, _, rfl⟩
theorem sval1 (t : Nat) (k : Int) : ∀ (s : Nat), s < 8 → sval t k (8 + s) = .int .u64 (xkN k / 256 ^ s : Nat)
 | 0, _ => rfl
 | 1, _ => rfl
 | 2, _ => rfl
 | 3, _ => rfl
 | 4, _ => rfl
 | 5, _ => rfl
 | 6, _ => rfl
 | 7, _ => rfl
 | n + 8, h => absurd h (by omega)
theorem sval2 (t : Nat) (k : Int) : ∀ (s : Nat), s < 8 → sval t k (16 + s) = .int .u8 (xkN k / 256 ^ s % 256 : Nat)
 | 0, _ => rfl
 | 1, _ => rfl
 | 2, _ => rfl
 | 3, _ => rfl
 | 4, _ => rfl
 | 5, _ => rfl
 | 6, _ => rfl
 | 7, _ => rfl
 | n + 8, h => absurd h (by omega)
theorem sval3 (t : Nat) (k : Int) : ∀ (s : Nat), s < 8 → sval t k (24 + s) = .int .u64 (xkN k / 256 ^ s % 256 : Nat)
 | 0, _ => rfl
 | 1, _ => rfl
 | 2, _ => rfl
 | 3, _ => rfl
 | 4, _ => rfl
 | 5, _ => rfl
 | 6, _ => rfl
 | 7, _ => rfl
 | n + 8, h => absurd h (by omega)
theorem sval4 (t : Nat) (k : Int) : ∀ (s : Nat), s < 8 → sval t k (32 + s) = .int .u64 (xkN k / 256 ^ s * 256 % 18446744073709551616 : Nat)
 | 0, _ => rfl
 | 1, _ => rfl
 | 2, _ => rfl
 | 3, _ => rfl
 | 4, _ => rfl
 | 5, _ => rfl
 | 6, _ => rfl
 | 7, _ => rfl
 | n + 8, h => absurd h (by omega)
theorem sval5 (t : Nat) (k : Int) : ∀ (s : Nat), s < 9 → sval t k (40 + s) = .int .u8 (9 * (k.toNat % 29) + s : Nat)
 | 0, _ => rfl
 | 1, _ => rfl
 | 2, _ => rfl
 | 3, _ => rfl
 | 4, _ => rfl
 | 5, _ => rfl
 | 6, _ => rfl
 | 7, _ => rfl
 | 8, _ => rfl
 | n + 9, h => absurd h (by omega)
theorem sval6 (t : Nat) (k : Int) {j : Nat} (h : 56 ≤ j) : sval t k j = .int .u8 (j / 32 % 32 * (k.toNat % 86) + j % 32 : Nat) := by
 unfold sval
 split <;> first | rfl | (exfalso; omega)
theorem rep_sy (i j : Nat) : Rep σ ρ (sy i j) (σ i j) := by
 refine .sym ?_
 obtain ⟨T, K, _, _, h, _⟩ := SigOk.ex (σ := σ)
 rw [h]
 obtain ⟨q, n, e⟩ := sval_int (T i) (K i) j
 rw [e]; rfl
theorem guard_int {op : BinOp} {t : TypeId} {x y : Operand} {p q : IntKind} {i j : Int} : eqGuard op t x y (.int p i) (.int q j) = pure () := by cases op <;> rfl
theorem bin_ints {op : BinOp} {t : TypeId} {x y : Operand} {p q : IntKind} {i j : Int} {v : Value} (h : pureRun P (binOp op t (.int p i) (.int q j)) = some v) : (do eqGuard op t x y (.int p i) (.int q j); binOp op t (.int p i) (.int q j) : Sem Value).run P w = .ok v w := by
 rw [guard_int, pure_bind]
 exact run_of_pureRun h w
theorem u64_lt (k : Int) : u64N k < 18446744073709551616 := by unfold u64N; omega
theorem xk_lt (k : Int) : xkN k < 18446744073709551616 := Nat.xor_lt_two_pow (n := 64) (u64_lt k) (by decide)
theorem ifB_some {b : Bool} {u v : Value} (h : ifB b u = some v) : b = true ∧ v = u := by
 cases b with
 | true => cases h; exact ⟨rfl, rfl⟩
 | false => cases h
theorem xor_one (n : Nat) : n ^^^ 1 = if n % 2 = 0 then n + 1 else n - 1 := by
 have h1 : (n ^^^ 1) / 2 = n / 2 := by rw [Nat.xor_div_two]; simp
 have h2 : (n ^^^ 1) % 2 = (n + 1) % 2 := by
  have := Nat.xor_mod_two_pow (a := n) (b := 1) (n := 1)
  rw [show (2 : Nat) ^ 1 = 2 from rfl] at this
  rw [this]
  rcases Nat.mod_two_eq_zero_or_one n with h | h
  ·rw [h]; show 0 ^^^ 1 = _; rw [show (0 ^^^ 1 : Nat) = 1 from rfl]; omega
  ·rw [h]; show 1 ^^^ 1 = _; rw [show (1 ^^^ 1 : Nat) = 0 from rfl]; omega
 split <;> omega
theorem cmpSym_spec {i j k l c : Nat} (h : cmpSym i j k l = some c) : ∃ q n m, σ i j = .int q n ∧ σ k l = .int q m ∧ ((c = 0 ∧ n < m) ∨ (c = 1 ∧ n = m) ∨ (c = 2 ∧ m < n)) := by
 obtain ⟨T, K, hT, hK, hs, hord, _⟩ := SigOk.ex (σ := σ)
 unfold cmpSym at h
 split at h
 ·rename_i h1 h2
  cases h
  have h1 := Nat.eq_of_beq_eq_true h1
  have h2 := Nat.eq_of_beq_eq_true h2
  subst h1; subst h2
  rw [hs]
  obtain ⟨q, n, e⟩ := sval_int (T i) (K i) j
  rw [e]
  exact ⟨q, n, n, rfl, rfl, .inr (.inl ⟨rfl, rfl⟩)⟩
 ·rename_i h1 h2
  have h2 := Nat.eq_of_beq_eq_true h2
  subst h2
  split at h
  ·rename_i hj hg hi hk
   have hg := Nat.eq_of_beq_eq_true hg
   have hi := Nat.le_of_ble_eq_true hi
   have hk := Nat.le_of_ble_eq_true hk
   have hj : j = 0 ∨ j = 4 := by simpa [Nat.beq_eq] using hj
   split at h
   ·rename_i hlt
    cases h
    have := hord i k hg (Nat.le_of_ble_eq_true hlt) hk
    rcases hj with rfl | rfl
    ·refine ⟨.u16, (T i : Int), (T k : Int), by rw [hs]; rfl, by rw [hs]; rfl, .inl ⟨rfl, by omega⟩⟩
    ·refine ⟨.i64, K i, K k, by rw [hs]; rfl, by rw [hs]; rfl, .inl ⟨rfl, by omega⟩⟩
   ·rename_i hlt _
    cases h
    have := hord k i hg.symm (Nat.le_of_ble_eq_true hlt) (by rw [← hg]; exact hi)
    rcases hj with rfl | rfl
    ·refine ⟨.u16, (T i : Int), (T k : Int), by rw [hs]; rfl, by rw [hs]; rfl, .inr (.inr ⟨rfl, by omega⟩)⟩
    ·refine ⟨.i64, K i, K k, by rw [hs]; rfl, by rw [hs]; rfl, .inr (.inr ⟨rfl, by omega⟩)⟩
   ·cases h
  ·cases h
 ·cases h
theorem or_parts (Y : Nat) : (Y / 256 * 256) ||| (Y % 256) = Y := by
 have := Nat.shiftLeft_add_eq_or_of_lt (b := Y % 256) (i := 8) (by omega) (Y / 256)
 rw [Nat.shiftLeft_eq] at this
 have e : Y / 256 * 2 ^ 8 = Y / 256 * 256 := by rw [show (2 : Nat) ^ 8 = 256 from rfl]
 rw [e] at this
 rw [← this]; exact Nat.div_add_mod' Y 256
theorem bits64 (a : Nat) (h : a < 18446744073709551616) : (BitVec.ofInt 64 (a : Int)).toNat = a := by simp; omega
theorem wrap64 {a : Nat} (h : a < 18446744073709551616) : IntKind.u64.wrap (a : Int) = a := by simp [IntKind.wrap, IntKind.bits, IntKind.signed]; omega
theorem shr_u64 {t : TypeId} {q : IntKind} (X : Nat) : ∀ (s : Nat), s < 8 → pureRun P (binOp .shr t (.int .u64 (X : Nat)) (.int q (Int.ofNat (8 * s)))) = some (.int .u64 ((X / 256 ^ s : Nat) : Int))
 | 0, _ => by
  show pureRun P (Op.shift .shr .u64 (X : Int) q (Int.ofNat 0)) = _
  simp [Op.shift, IntKind.bits]
  rfl
 | 1, _ => by
  show pureRun P (Op.shift .shr .u64 (X : Int) q (Int.ofNat 8)) = _
  simp [Op.shift, IntKind.bits]
  show some (Value.int .u64 ((X : Int).fdiv 256)) = some (Value.int .u64 ((X / 256 : Nat) : Int))
  rw [Int.fdiv_eq_ediv_of_nonneg _ (by decide)]
  rfl
 | 2, _ => by
  show pureRun P (Op.shift .shr .u64 (X : Int) q (Int.ofNat 16)) = _
  simp [Op.shift, IntKind.bits]
  show some (Value.int .u64 ((X : Int).fdiv 65536)) = some (Value.int .u64 ((X / 65536 : Nat) : Int))
  rw [Int.fdiv_eq_ediv_of_nonneg _ (by decide)]
  rfl
 | 3, _ => by
  show pureRun P (Op.shift .shr .u64 (X : Int) q (Int.ofNat 24)) = _
  simp [Op.shift, IntKind.bits]
  show some (Value.int .u64 ((X : Int).fdiv 16777216)) = some (Value.int .u64 ((X / 16777216 : Nat) : Int))
  rw [Int.fdiv_eq_ediv_of_nonneg _ (by decide)]
  rfl
 | 4, _ => by
  show pureRun P (Op.shift .shr .u64 (X : Int) q (Int.ofNat 32)) = _
  simp [Op.shift, IntKind.bits]
  show some (Value.int .u64 ((X : Int).fdiv 4294967296)) = some (Value.int .u64 ((X / 4294967296 : Nat) : Int))
  rw [Int.fdiv_eq_ediv_of_nonneg _ (by decide)]
  rfl
 | 5, _ => by
  show pureRun P (Op.shift .shr .u64 (X : Int) q (Int.ofNat 40)) = _
  simp [Op.shift, IntKind.bits]
  show some (Value.int .u64 ((X : Int).fdiv 1099511627776)) = some (Value.int .u64 ((X / 1099511627776 : Nat) : Int))
  rw [Int.fdiv_eq_ediv_of_nonneg _ (by decide)]
  rfl
 | 6, _ => by
  show pureRun P (Op.shift .shr .u64 (X : Int) q (Int.ofNat 48)) = _
  simp [Op.shift, IntKind.bits]
  show some (Value.int .u64 ((X : Int).fdiv 281474976710656)) = some (Value.int .u64 ((X / 281474976710656 : Nat) : Int))
  rw [Int.fdiv_eq_ediv_of_nonneg _ (by decide)]
  rfl
 | 7, _ => by
  show pureRun P (Op.shift .shr .u64 (X : Int) q (Int.ofNat 56)) = _
  simp [Op.shift, IntKind.bits]
  show some (Value.int .u64 ((X : Int).fdiv 72057594037927936)) = some (Value.int .u64 ((X / 72057594037927936 : Nat) : Int))
  rw [Int.fdiv_eq_ediv_of_nonneg _ (by decide)]
  rfl
 | n + 8, h => absurd h (by omega)
theorem mate_num (k : Int) (h1 : -9223372036854775808 ≤ k) (h2 : k < 9223372036854775808) : IntKind.i64.wrap ((if u64N k % 2 = 0 then u64N k + 1 else u64N k - 1 : Nat) : Int) = xor1 k := by
 have hu : (u64N k : Int) = k % 18446744073709551616 := by unfold u64N; omega
 generalize u64N k = u at hu
 have w : ∀ n : Int, IntKind.i64.wrap n = if n % 18446744073709551616 ≥ 9223372036854775808 then n % 18446744073709551616 - 18446744073709551616 else n % 18446744073709551616 := fun n => by
  simp [IntKind.wrap, IntKind.bits, IntKind.signed]
 rw [w]
 unfold xor1
 by_cases he : u % 2 = 0
 ·rw [if_pos he]
  push_cast
  split <;> split <;> omega
 ·rw [if_neg he]
  have : ((u - 1 : Nat) : Int) = (u : Int) - 1 := by omega
  rw [this]
  split <;> split <;> omega
theorem ghost_len (g : Nat) : σ (gbase g) 4 = .int .i64 (glen σ g : Nat) := by
 obtain ⟨T, K, hT, hK, hs, hord, hmate, hgh⟩ := SigOk.ex (σ := σ)
 have hk := (hgh g).1
 have e : σ (gbase g) 4 = .int .i64 (K (gbase g)) := hs _ _
 have e2 : glen σ g = (K (gbase g)).toNat := by rw [glen, e]
 rw [e, e2, Int.toNat_of_nonneg hk]
theorem symBin_sound {op : BinOp} {t : TypeId} {x y : Operand} {a b a' b' v : Value} (ha : Rep σ ρ a a') (hb : Rep σ ρ b b') (hv : symBin op a b = some v) :
    ∃ v', (do eqGuard op t x y a' b'; binOp op t a' b' : Sem Value).run P w = .ok v' w ∧ Rep σ ρ v v' := by
  obtain ⟨T, K, hT, hK, hs, hord, hmate, hgh⟩ := SigOk.ex (σ := σ)
  have pw : ∀ s : Nat, 0 < 256 ^ s := fun s => Nat.pow_pos (by decide)
  unfold symBin at hv
  split at hv
  · rename_i i j k l
    have := ha.sy_inv; subst this
    have := hb.sy_inv; subst this
    unfold symSS at hv
    have cmp : ∀ {op : BinOp} {c : Nat} {r : Bool}, cmpSym i j k l = some c → v = .bool r → (∀ q n m, σ i j = .int q n → σ k l = .int q m → ((c = 0 ∧ n < m) ∨ (c = 1 ∧ n = m) ∨ (c = 2 ∧ m < n)) → pureRun P (binOp op t (.int q n) (.int q m)) = some (.bool r)) → ∃ v', (do eqGuard op t x y (σ i j) (σ k l); binOp op t (σ i j) (σ k l) : Sem Value).run P w = .ok v' w ∧ Rep σ ρ v v' := by
      intro op c r hc hvr hrun
      obtain ⟨q, n, m, h1, h2, h3⟩ := cmpSym_spec (σ := σ) hc
      rw [h1, h2]
      exact ⟨_, bin_ints (hrun q n m h1 h2 h3), by rw [hvr]; exact .plain rfl⟩
    split at hv
    · rename_i c hc; cases hv
      exact cmp hc rfl fun q n m _ _ h => by
        simp only [binOp, ne_eq, not_true_eq_false, if_false, Op.intCmp]
        show some (Value.bool _) = some (Value.bool _)
        congr 2
        rw [Bool.eq_iff_iff]
        rcases h with ⟨rfl, h⟩ | ⟨rfl, h⟩ | ⟨rfl, h⟩ <;> simp <;> omega
    · rename_i c hc; cases hv
      exact cmp hc rfl fun q n m _ _ h => by
        simp only [binOp, ne_eq, not_true_eq_false, if_false, Op.intCmp]
        show some (Value.bool _) = some (Value.bool _)
        congr 2
        rw [Bool.eq_iff_iff]
        rcases h with ⟨rfl, h⟩ | ⟨rfl, h⟩ | ⟨rfl, h⟩
        · exact ⟨fun _ => rfl, fun _ => bne_iff_ne.2 (by omega)⟩
        · subst h; simp
        · exact ⟨fun _ => rfl, fun _ => bne_iff_ne.2 (by omega)⟩
    · rename_i c hc; cases hv
      exact cmp hc rfl fun q n m _ _ h => by
        simp only [binOp, ne_eq, not_true_eq_false, if_false, Op.intCmp]
        show some (Value.bool _) = some (Value.bool _)
        congr 2
        rw [Bool.eq_iff_iff]
        rcases h with ⟨rfl, h⟩ | ⟨rfl, h⟩ | ⟨rfl, h⟩ <;> simp <;> omega
    · rename_i c hc; cases hv
      exact cmp hc rfl fun q n m _ _ h => by
        simp only [binOp, ne_eq, not_true_eq_false, if_false, Op.intCmp]
        show some (Value.bool _) = some (Value.bool _)
        congr 2
        rw [Bool.eq_iff_iff]
        rcases h with ⟨rfl, h⟩ | ⟨rfl, h⟩ | ⟨rfl, h⟩ <;> simp <;> omega
    · rename_i c hc; cases hv
      exact cmp hc rfl fun q n m _ _ h => by
        simp only [binOp, ne_eq, not_true_eq_false, if_false, Op.intCmp]
        show some (Value.bool _) = some (Value.bool _)
        congr 2
        rw [Bool.eq_iff_iff]
        rcases h with ⟨rfl, h⟩ | ⟨rfl, h⟩ | ⟨rfl, h⟩ <;> simp <;> omega
    · rename_i c hc; cases hv
      exact cmp hc rfl fun q n m _ _ h => by
        simp only [binOp, ne_eq, not_true_eq_false, if_false, Op.intCmp]
        show some (Value.bool _) = some (Value.bool _)
        congr 2
        rw [Bool.eq_iff_iff]
        rcases h with ⟨rfl, h⟩ | ⟨rfl, h⟩ | ⟨rfl, h⟩ <;> simp <;> omega
    · -- or
      obtain ⟨hc, rfl⟩ := ifB_some hv
      simp only [Bool.and_eq_true] at hc
      obtain ⟨⟨⟨h1, h2⟩, h3⟩, h4⟩ := hc
      have h1 := Nat.eq_of_beq_eq_true h1
      have h2 := Nat.eq_of_beq_eq_true h2
      have h3 : 0 < j % 8 := Nat.le_of_ble_eq_true h3
      have h4 := Nat.eq_of_beq_eq_true h4
      subst h1
      obtain ⟨s, hsj⟩ : ∃ s, j = 33 + s := ⟨j - 33, by omega⟩
      subst hsj
      have hl : l = 24 + s := by omega
      subst hl
      have hs8 : s < 7 := by omega
      have e1 : σ i (33 + s) = .int .u64 (xkN (K i) / 256 ^ (s + 1) * 256 % 18446744073709551616 : Nat) := by
        rw [hs, show 33 + s = 32 + (s + 1) by omega]; exact sval4 _ _ _ (by omega)
      have e2 : σ i (24 + s) = .int .u64 (xkN (K i) / 256 ^ s % 256 : Nat) := by
        rw [hs]; exact sval3 _ _ _ (by omega)
      have e3 : σ i (8 + s) = .int .u64 (xkN (K i) / 256 ^ s : Nat) := by
        rw [hs]; exact sval1 _ _ _ (by omega)
      refine ⟨σ i (8 + s), ?_, by rw [show 33 + s - 25 = 8 + s by omega]; exact rep_sy _ _⟩
      rw [e1, e2, e3]
      refine bin_ints ?_
      have hx := xk_lt (K i)
      generalize xkN (K i) = X at hx
      have hle : X / 256 ^ s ≤ X := Nat.div_le_self _ _
      have hpow : X / 256 ^ (s + 1) = X / 256 ^ s / 256 := by rw [Nat.pow_succ, Nat.div_div_eq_div_mul]
      have hA : X / 256 ^ (s + 1) * 256 % 18446744073709551616 = X / 256 ^ s / 256 * 256 := by rw [hpow]; omega
      rw [hA]
      generalize X / 256 ^ s = Y at hle
      have hor := or_parts Y
      simp only [binOp, ne_eq, not_true_eq_false, if_false, Op.intBits]
      show some (Value.int .u64 (IntKind.u64.wrap _)) = _
      congr 2
      show IntKind.u64.wrap (((BitVec.ofInt 64 ((Y / 256 * 256 : Nat) : Int)) ||| (BitVec.ofInt 64 ((Y % 256 : Nat) : Int))).toNat : Int) = _
      rw [BitVec.toNat_or, bits64 _ (by omega), bits64 _ (by omega), hor, wrap64 (by omega)]
    · cases hv
  · rename_i i j q n
    have := ha.sy_inv; subst this
    have := hb.int; subst this
    unfold symSI at hv
    split at hv
    · -- a tag's upper byte
      obtain ⟨hc, rfl⟩ := ifB_some hv
      have hc := Nat.eq_of_beq_eq_true hc
      subst hc
      refine ⟨σ i 1, ?_, rep_sy _ _⟩
      rw [hs, hs]
      refine bin_ints ?_
      show pureRun P (Op.shift .shr .u16 (T i : Int) q (Int.ofNat 8)) = _
      simp [Op.shift, IntKind.bits]
      show some (Value.int .u16 ((T i : Int).fdiv 256)) = some (Value.int .u16 ((T i / 256 : Nat) : Int))
      rw [Int.fdiv_eq_ediv_of_nonneg _ (by decide)]
      rfl
    · -- a number's bytes
      obtain ⟨hc, rfl⟩ := ifB_some hv
      simp only [Bool.and_eq_true] at hc
      have h1 := Nat.eq_of_beq_eq_true hc.1
      have h2 : n < 64 := Nat.le_of_ble_eq_true hc.2
      obtain ⟨s, rfl⟩ : ∃ s, n = 8 * s := ⟨n / 8, by omega⟩
      have e : 8 * s / 8 = s := by omega
      rw [e]
      refine ⟨σ i (8 + s), ?_, rep_sy _ _⟩
      rw [hs, hs, sval1 _ _ _ (by omega), show sval (T i) (K i) 8 = .int .u64 (xkN (K i) : Nat) by
        have := sval1 (T i) (K i) 0 (by decide); simpa using this]
      refine bin_ints ?_
      exact shr_u64 _ s (by omega)
    · -- shifted back
      obtain ⟨hc, rfl⟩ := ifB_some hv
      simp only [Bool.and_eq_true] at hc
      have h1 := Nat.eq_of_beq_eq_true hc.1.1
      have h2 := Nat.eq_of_beq_eq_true hc.1.2
      have h3 : 0 < j % 8 := Nat.le_of_ble_eq_true hc.2
      subst h1
      obtain ⟨s, rfl⟩ : ∃ s, j = 8 + s := ⟨j - 8, by omega⟩
      have hs8 : s < 8 := by omega
      refine ⟨σ i (32 + s), ?_, by rw [show 8 + s + 24 = 32 + s by omega]; exact rep_sy _ _⟩
      rw [hs, hs, sval1 _ _ _ hs8, sval4 _ _ _ hs8]
      refine bin_ints ?_
      generalize xkN (K i) / 256 ^ s = Y
      show pureRun P (Op.shift .shl .u64 (Y : Int) q (Int.ofNat 8)) = _
      simp [Op.shift, IntKind.bits]
      show some (Value.int .u64 (IntKind.u64.wrap ((Y : Int) * 256))) = _
      congr 2
    · -- turned over
      obtain ⟨hc, rfl⟩ := ifB_some hv
      have hc := Nat.eq_of_beq_eq_true hc
      subst hc
      refine ⟨σ i 8, ?_, rep_sy _ _⟩
      rw [hs, hs, show sval (T i) (K i) 8 = .int .u64 (xkN (K i) : Nat) by
        have := sval1 (T i) (K i) 0 (by decide); simpa using this]
      show (do eqGuard .xor t x y (.int .u64 (u64N (K i) : Nat)) _; binOp .xor t (.int .u64 (u64N (K i) : Nat)) _ : Sem Value).run P w = _
      refine bin_ints ?_
      simp only [binOp, ne_eq, not_true_eq_false, if_false, Op.intBits]
      show some (Value.int .u64 (IntKind.u64.wrap (((BitVec.ofInt 64 ((u64N (K i) : Nat) : Int)) ^^^ (BitVec.ofInt 64 ((9223372036854775808 : Nat) : Int))).toNat : Int))) = _
      rw [BitVec.toNat_xor, bits64 _ (u64_lt _), bits64 _ (by decide)]
      show some (Value.int .u64 (IntKind.u64.wrap ((xkN (K i) : Nat) : Int))) = _
      rw [wrap64 (xk_lt _)]
    · obtain ⟨hc, rfl⟩ := ifB_some hv
      have hc := Nat.eq_of_beq_eq_true hc
      subst hc
      refine ⟨σ i 5, ?_, rep_sy _ _⟩
      rw [hs, hs, show sval (T i) (K i) 8 = .int .u64 (xkN (K i) : Nat) by
        have := sval1 (T i) (K i) 0 (by decide); simpa using this]
      refine bin_ints ?_
      simp only [binOp, ne_eq, not_true_eq_false, if_false, Op.intBits]
      show some (Value.int .u64 (IntKind.u64.wrap (((BitVec.ofInt 64 ((xkN (K i) : Nat) : Int)) ^^^ (BitVec.ofInt 64 ((9223372036854775808 : Nat) : Int))).toNat : Int))) = _
      rw [BitVec.toNat_xor, bits64 _ (xk_lt _), bits64 _ (by decide)]
      have : xkN (K i) ^^^ 9223372036854775808 = u64N (K i) := by unfold xkN; rw [Nat.xor_assoc, Nat.xor_self, Nat.xor_zero]
      rw [this, wrap64 (u64_lt _)]
      rfl
    · -- the mate
      obtain ⟨hc, rfl⟩ := ifB_some hv
      simp only [Bool.and_eq_true, Bool.or_eq_true] at hc
      have h1 := Nat.eq_of_beq_eq_true hc.1.1
      have h2 : i % 16 < 2 := Nat.le_of_ble_eq_true hc.1.2
      have h3 : i / 16 = 242 ∨ i / 16 = 226 := by rcases hc.2 with h | h; exact .inl (Nat.eq_of_beq_eq_true h); exact .inr (Nat.eq_of_beq_eq_true h)
      subst h1
      refine ⟨σ (mate i) 4, ?_, rep_sy _ _⟩
      rw [hs, hs]
      show (do eqGuard .xor t x y (.int .i64 (K i)) _; binOp .xor t (.int .i64 (K i)) _ : Sem Value).run P w = .ok (.int .i64 (K (mate i))) w
      rw [hmate i h3 h2]
      refine bin_ints ?_
      simp only [binOp, ne_eq, not_true_eq_false, if_false, Op.intBits]
      show some (Value.int .i64 (IntKind.i64.wrap (((BitVec.ofInt 64 (K i)) ^^^ (BitVec.ofInt 64 ((1 : Nat) : Int))).toNat : Int))) = _
      have e1 : (BitVec.ofInt 64 (K i)).toNat = u64N (K i) := by simp [u64N]
      rw [BitVec.toNat_xor, e1, bits64 _ (by decide), xor_one]
      congr 2
      have hk := hK i
      generalize K i = k at hk
      exact mate_num k hk.1 hk.2
    · -- a ghost's length
      obtain ⟨hc, rfl⟩ := ifB_some hv
      simp only [Bool.and_eq_true] at hc
      have h1 := Nat.eq_of_beq_eq_true hc.1.1
      have h2 := Nat.le_of_ble_eq_true hc.1.2
      have h3 := Nat.le_of_ble_eq_true hc.2
      obtain ⟨g, rfl⟩ : ∃ g, i = gbase g := ⟨i / 16384 - 1, by unfold gbase; omega⟩
      refine ⟨.bool false, ?_, .plain rfl⟩
      have hk := (hgh g).2
      rw [hs, show ∀ t k, sval t k 4 = .int .i64 k from fun _ _ => rfl]
      generalize K (gbase g) = k at hk
      have h4 : decide ((k : Int) > (Int.ofNat n)) = false := decide_eq_false (by have : (40 : Int) ≤ (n : Int) := by omega
                                                                                  show ¬ (n : Int) < k
                                                                                  omega)
      refine bin_ints ?_
      simp only [binOp, ne_eq, not_true_eq_false, if_false, Op.intCmp]
      rw [h4]
      rfl
    · -- the rest by nine
      split at hv
      · rename_i hc
        cases hv
        simp only [Bool.and_eq_true] at hc
        have h1 := Nat.eq_of_beq_eq_true hc.1.1
        have h2 := Nat.le_of_ble_eq_true hc.1.2
        have h3 : j < 49 := Nat.le_of_ble_eq_true hc.2
        subst h1
        obtain ⟨s, rfl⟩ : ∃ s, j = 40 + s := ⟨j - 40, by omega⟩
        refine ⟨.int .u8 (.ofNat s), ?_, ?_⟩
        rotate_left
        · rw [show 40 + s - 40 = s by omega]
          exact .plain rfl
        rw [hs, sval5 _ _ _ (by omega)]
        refine bin_ints ?_
        generalize (K i).toNat % 29 = Q
        have e9 : ((9 * Q + s : Nat) : Int).tmod 9 = (s : Int) := by
          rw [Int.tmod_eq_emod_of_nonneg (by omega)]
          omega
        simp only [binOp, ne_eq, not_true_eq_false, if_false]
        show pureRun P (Op.intDiv .rem .u8 ((9 * Q + s : Nat) : Int) 9) = some (Value.int .u8 (s : Int))
        rw [← e9]
        simp [Op.intDiv]
        rfl
      · split at hv
        · rename_i hc
          cases hv
          simp only [Bool.and_eq_true] at hc
          have h1 := Nat.le_of_ble_eq_true hc.1.1
          have h2 := Nat.eq_of_beq_eq_true hc.1.2
          have h3 : j % 32 < n := Nat.le_of_ble_eq_true hc.2
          refine ⟨.int .u8 (.ofNat (j % 32)), ?_, .plain rfl⟩
          rw [hs, sval6 _ _ h1]
          refine bin_ints ?_
          generalize (K i).toNat % 86 = Q
          rw [← h2]
          generalize j % 32 = r at h3
          have e9 : ((n * Q + r : Nat) : Int).tmod (n : Int) = (r : Int) := by
            rw [Int.tmod_eq_emod_of_nonneg (by omega), ← Int.natCast_emod, Nat.mul_add_mod, Nat.mod_eq_of_lt h3]
          have hn : (n : Int) ≠ 0 := by omega
          simp only [binOp, ne_eq, not_true_eq_false, if_false]
          show pureRun P (Op.intDiv .rem .u8 ((n * Q + r : Nat) : Int) (Int.ofNat n)) = some (Value.int .u8 (Int.ofNat r))
          have e10 : Int.ofNat r = ((n * Q + r : Nat) : Int).tmod (n : Int) := e9.symm
          rw [e10]
          have hn' : ¬ (Int.ofNat n = 0) := hn
          simp only [Op.intDiv, hn', if_false]
          rfl
        · cases hv
    · cases hv
  · rename_i q n i j
    have := ha.int; subst this
    have := hb.sy_inv; subst this
    unfold symIS at hv
    split at hv
    · cases hv
      refine ⟨σ i 15, ?_, rep_sy _ _⟩
      rw [hs, hs, show sval (T i) (K i) 31 = .int .u64 (xkN (K i) / 256 ^ 7 % 256 : Nat) from sval3 (T i) (K i) 7 (by decide), show sval (T i) (K i) 15 = .int .u64 (xkN (K i) / 256 ^ 7 : Nat) from sval1 (T i) (K i) 7 (by decide)]
      refine bin_ints ?_
      have hx := xk_lt (K i)
      generalize xkN (K i) = X at hx
      have hlt : X / 256 ^ 7 < 256 := by
        rw [Nat.div_lt_iff_lt_mul (by decide)]
        exact Nat.lt_of_lt_of_le hx (by decide)
      simp only [binOp, ne_eq, not_true_eq_false, if_false, Op.intBits]
      show some (Value.int .u64 (IntKind.u64.wrap (((BitVec.ofInt 64 ((0 : Nat) : Int)) ||| (BitVec.ofInt 64 ((X / 256 ^ 7 % 256 : Nat) : Int))).toNat : Int))) = _
      rw [Nat.mod_eq_of_lt hlt, BitVec.toNat_or, bits64 _ (by decide), bits64 _ (by omega), Nat.zero_or, wrap64 (by omega)]
    · cases hv
  · cases hv
theorem symConv_sound {q : IntKind} {i j : Nat} {v : Value} (hv : symConv q i j = some v) : ∃ p n, σ i j = .int p n ∧ Rep σ ρ v (.int q (q.wrap n)) := by
 obtain ⟨T, K, hT, hK, hs, hord, hmate, hgh⟩ := SigOk.ex (σ := σ)
 have out : ∀ {i' j' : Nat} {p : IntKind} {n : Int} {z : Int}, σ i j = .int p n → σ i' j' = .int q z → q.wrap n = z → v = sy i' j' → ∃ p n, σ i j = .int p n ∧ Rep σ ρ v (.int q (q.wrap n)) := fun h1 h2 h3 h4 => by
  refine ⟨_, _, h1, ?_⟩
  rw [h3, h4, ← h2]
  exact rep_sy _ _
 have ht := hT i
 have hk := hK i
 unfold symConv at hv
 split at hv
 ·split at hv
  ·cases hv
   exact out (i' := i) (j' := 2) (by rw [hs]; rfl) (by rw [hs]; rfl) (by simp [IntKind.wrap, IntKind.bits, IntKind.signed]; omega) rfl
  ·cases hv
   exact out (i' := i) (j' := 3) (by rw [hs]; rfl) (by rw [hs]; rfl) (by simp [IntKind.wrap, IntKind.bits, IntKind.signed]) rfl
  ·obtain ⟨hc, rfl⟩ := ifB_some hv
   have hc := Nat.eq_of_beq_eq_true hc
   obtain ⟨s, rfl⟩ : ∃ s, j = 8 + s := ⟨j - 8, by omega⟩
   exact out (i' := i) (j' := 8 + s + 8) (by rw [hs]; exact sval1 _ _ _ (by omega)) (by rw [hs, show 8 + s + 8 = 16 + s by omega]; exact sval2 _ _ _ (by omega)) (by simp [IntKind.wrap, IntKind.bits, IntKind.signed]) rfl
 ·split at hv
  ·cases hv
   exact out (i' := i) (j' := 5) (by rw [hs]; rfl) (by rw [hs]; rfl) (by simp [IntKind.wrap, IntKind.bits, IntKind.signed, u64N]; omega) rfl
  ·obtain ⟨hc, rfl⟩ := ifB_some hv
   have hc := Nat.eq_of_beq_eq_true hc
   obtain ⟨s, rfl⟩ : ∃ s, j = 16 + s := ⟨j - 16, by omega⟩
   exact out (i' := i) (j' := 16 + s + 8) (by rw [hs]; exact sval2 _ _ _ (by omega)) (by rw [hs, show 16 + s + 8 = 24 + s by omega]; exact sval3 _ _ _ (by omega)) (by simp [IntKind.wrap, IntKind.bits, IntKind.signed]; omega) rfl
 ·obtain ⟨hc, rfl⟩ := ifB_some hv
  have hc := Nat.eq_of_beq_eq_true hc
  subst hc
  exact out (i' := i) (j' := 4) (by rw [hs]; rfl) (by rw [hs]; rfl) (by simp [IntKind.wrap, IntKind.bits, IntKind.signed, u64N]; split <;> omega) rfl
 ·cases hv
end
section
variable {P : Program} {σ : Nat → Nat → Value} {w0 : World} {h : Heap} {ρ : Ren} {w : World}
theorem RepL.one {a : Value} {l : List Value} (h : RepL σ ρ [a] l) : ∃ b, l = [b] ∧ Rep σ ρ a b := by
 cases h with | cons a t => cases t with | nil => exact ⟨_, rfl, a⟩
theorem RepL.two {a b : Value} {l : List Value} (h : RepL σ ρ [a, b] l) : ∃ c d, l = [c, d] ∧ Rep σ ρ a c ∧ Rep σ ρ b d := by
 cases h with | cons a t => obtain ⟨d, rfl, hd⟩ := t.one; exact ⟨_, d, rfl, a, hd⟩
theorem RepL.three {a b c : Value} {l : List Value} (h : RepL σ ρ [a, b, c] l) : ∃ x y z, l = [x, y, z] ∧ Rep σ ρ a x ∧ Rep σ ρ b y ∧ Rep σ ρ c z := by
 cases h with | cons a t => obtain ⟨d, e, rfl, hd, he⟩ := t.two; exact ⟨_, d, e, rfl, a, hd, he⟩
theorem RepL.cons' {x : Value} {m l : List Value} (h : RepL σ ρ (x :: m) l) : ∃ y k, l = y :: k ∧ Rep σ ρ x y ∧ RepL σ ρ m k := by
 cases h with | cons a t => exact ⟨_, _, rfl, a, t⟩
inductive RepP (σ : Nat → Nat → Value) (ρ : Ren) : List (Nat × Value) → List (Nat × Value) → Prop
 | nil : RepP σ ρ [] []
 | cons {i : Nat} {x y : Value} {l m : List (Nat × Value)} : Rep σ ρ x y → RepP σ ρ l m → RepP σ ρ ((i, x) :: l) ((i, y) :: m)
theorem RepP.zip : ∀ (is : List Nat) {l m : List Value}, RepL σ ρ l m → RepP σ ρ (List.zip is l) (List.zip is m)
 | [], _, _, _ => by simp; exact .nil
 | i :: is, _, _, .nil => by simp; exact .nil
 | i :: is, _, _, .cons a t => by simp only [List.zip_cons_cons]; exact .cons a (RepP.zip is t)
theorem fillB_rep {place : Nat → Option (Nat × Nat)} : ∀ {l m : List (Nat × Value)}, RepP σ ρ l m → ∀ {c c' r : List Value}, RepL σ ρ c c' → fillB place c l = some r → ∃ r', fillB place c' m = some r' ∧ RepL σ ρ r r'
 | _, _, .nil, c, c', r, hc, h => by
  simp only [fillB, Option.some.injEq] at h; subst h
  exact ⟨c', rfl, hc⟩
 | _, _, .cons (i := i) (x := x) (y := y) a t, c, c', r, hc, h => by
  unfold fillB at h ⊢
  split at h
  ·cases h
  ·rename_i off size hp
   have hcs := a.cells
   have hl1 : x.cells.size = y.cells.size := by simpa using hcs.length
   have hl2 := hc.length
   rw [hl1, hl2] at h
   split at h
   ·exact fillB_rep t (hc.setAt off hcs) h
   ·cases h
theorem zero_rep {z : Value} (h : allPlainB z = true) : RepL σ ρ z.cells.toList z.cells.toList := by
 refine .plain fun x hx => ?_
 unfold allPlainB at h
 exact List.all_eq_true.1 h x hx
theorem repB_plain {z : List Value} (h : ∀ x ∈ z, plain x = true) : ∀ n, ∀ x ∈ repB z n, plain x = true
 | 0, x, hx => by simp [repB] at hx
 | n + 1, x, hx => by
  rcases List.mem_append.1 hx with h1 | h1
  ·exact h x h1
  ·exact repB_plain h n x h1
theorem zeroZ_spec {t : TypeId} {z : Value} (h : zeroZ P t = some z) : ∃ i, P.info? t = some i ∧ i.zero = some z ∧ allPlainB z = true := by
 unfold zeroZ at h
 split at h
 ·rename_i i hi
  split at h
  ·rename_i u hu
   split at h
   ·rename_i hp; cases h; exact ⟨i, hi, hu, hp⟩
   ·cases h
  ·cases h
 ·cases h
theorem rep_of_cells {z : Value} (h : allPlainB z = true) : Rep σ ρ z z := by
 unfold allPlainB at h
 cases z with
 | agg c => exact .agg_mk (.plain fun x hx => List.all_eq_true.1 h x hx)
 | _ => exact .plain (by simpa [Value.cells] using h)
theorem buildB_rep {t : TypeId} {is : List Nat} {l m cells : List Value} {z : Value} (hz : zeroZ P t = some z) (hl : RepL σ ρ l m) (h : buildB P t (List.zip is l) = some cells) :
  ∃ cells', buildB P t (List.zip is m) = some cells' ∧ RepL σ ρ cells cells' := by
 obtain ⟨i, hi, hzi, hp⟩ := zeroZ_spec hz
 unfold buildB at h ⊢
 simp only [hi, hzi] at h ⊢
 split at h
 ·split at h
  ·exact fillB_rep (.zip is hl) (zero_rep hp) h
  ·cases h
 ·split at h
  ·exact fillB_rep (.zip is hl) (zero_rep hp) h
  ·cases h
 ·cases h
theorem litB_rep {t e e' : TypeId} {len : Nat} {is : List Nat} {l m cells : List Value} {z : Value} (ht : P.underlying t = some (.slice e')) (hz : zeroZ P e' = some z) (hl : RepL σ ρ l m)
  (h : litB P t len (List.zip is l) = some (e, cells)) : ∃ cells', litB P t len (List.zip is m) = some (e, cells') ∧ RepL σ ρ cells cells' := by
 obtain ⟨i, hi, hzi, hp⟩ := zeroZ_spec hz
 unfold litB at h ⊢
 simp only [ht, hi, hzi] at h ⊢
 split at h
 ·rename_i h1 h2
  split at h
  ·rename_i r hr
   cases h
   obtain ⟨r', hr', hrr⟩ := fillB_rep (.zip is hl) (RepL.plain (σ := σ) (ρ := ρ) (repB_plain (fun x hx => List.all_eq_true.1 hp x hx) len)) hr
   exact ⟨r', by simp only [h1, h2, hr'], hrr⟩
  ·cases h
 ·cases h
theorem bnd_spec {v : Value} {m n : Nat} (h : bnd v m = some n) : ∃ k, v = .int k (.ofNat n) ∧ n ≤ m := by
 unfold bnd at h
 split at h
 ·rename_i j i
  split at h
  ·rename_i hle; cases h; exact ⟨j, rfl, Nat.le_of_ble_eq_true hle⟩
  ·cases h
 ·cases h
theorem run_bound {v v' : Value} {m n : Nat} {code : BoundsCode} (hr : Rep σ ρ v v') (h : bnd v m = some n) : (Instr.sliceBound v' m code).run P w = .ok n w := by
 obtain ⟨k, rfl, hle⟩ := bnd_spec h
 have := hr.int; subst this
 have h0 : (0 : Int) ≤ Int.ofNat n ∧ Int.ofNat n ≤ (m : Int) := ⟨Int.natCast_nonneg n, by simpa using hle⟩
 simp [Instr.sliceBound, asIntOf, h0.2, hle]
def RepO (σ : Nat → Nat → Value) (ρ : Ren) : Option Value → Option Value → Prop
 | none, none => True
 | some x, some y => Rep σ ρ x y
 | _, _ => False
theorem bounds_spec {len cap l k m : Nat} {lo hi mx : Option Value} (h : bounds len cap lo hi mx = some (l, k, m)) : bndO mx cap cap = some m ∧ bndO hi m len = some k ∧ bndO lo k 0 = some l := by
 unfold bounds at h
 split at h
 ·rename_i m' h1
  split at h
  ·rename_i k' h2
   split at h
   ·rename_i l' h3
    simp only [Option.some.injEq, Prod.mk.injEq] at h
    obtain ⟨rfl, rfl, rfl⟩ := h
    exact ⟨h1, h2, h3⟩
   ·cases h
  ·cases h
 ·cases h
def mxOr : Option Value → Nat → Nat → Nat
 | some _, m, _ => m
 | none, _, c => c
@[simp] theorem mxOr_some (v : Value) (m c : Nat) : mxOr (some v) m c = m := rfl
@[simp] theorem mxOr_none (m c : Nat) : mxOr none m c = c := rfl
theorem run_bounds {isS : Bool} {len cap cap' l k m : Nat} {lo hi mx lo' hi' mx' : Option Value} (h : bounds len cap lo hi mx = some (l, k, m)) (rl : RepO σ ρ lo lo') (rh : RepO σ ρ hi hi') (rm : RepO σ ρ mx mx')
  (hm : mx ≠ none → hi ≠ none) (hcap : cap ≤ cap') : (Instr.sliceBounds isS len cap' lo' hi' mx').run P w = .ok (l, k, mxOr mx m cap') w := by
 obtain ⟨h1, h2, h3⟩ := bounds_spec h
 have up : ∀ {v : Value} {n c c' : Nat}, bnd v c = some n → c ≤ c' → bnd v c' = some n := fun {v n c c'} hb hc => by
  obtain ⟨j, rfl, hle⟩ := bnd_spec hb
  simp only [bnd]
  rw [Nat.ble_eq_true_of_le (Nat.le_trans hle hc)]
 cases mx with
 | none =>
  cases mx' with
  | some _ => exact rm.elim
  | none =>
   simp only [bndO, Option.some.injEq] at h1
   subst h1
   cases hi with
   | none =>
    cases hi' with
    | some _ => exact rh.elim
    | none =>
     simp only [bndO, Option.some.injEq] at h2
     subst h2
     cases lo with
     | none =>
      cases lo' with
      | some _ => exact rl.elim
      | none => simp only [bndO, Option.some.injEq] at h3; subst h3; rfl
     | some v =>
      cases lo' with
      | none => exact rl.elim
      | some v' =>
       simp only [bndO] at h3
       have := run_bound (P := P) (w := w) (code := .sliceB) rl h3
       simp [Instr.sliceBounds, this]
   | some u =>
    cases hi' with
    | none => exact rh.elim
    | some u' =>
     simp only [bndO] at h2
     have hu := fun c => run_bound (P := P) (w := w) (code := c) rh (up h2 hcap)
     cases lo with
     | none =>
      cases lo' with
      | some _ => exact rl.elim
      | none => simp only [bndO, Option.some.injEq] at h3; subst h3; simp [Instr.sliceBounds, hu]
     | some v =>
      cases lo' with
      | none => exact rl.elim
      | some v' =>
       simp only [bndO] at h3
       have := fun c => run_bound (P := P) (w := w) (code := c) rl h3
       simp [Instr.sliceBounds, hu, this]
 | some x =>
  cases mx' with
  | none => exact rm.elim
  | some x' =>
   simp only [bndO] at h1
   have hx := fun c => run_bound (P := P) (w := w) (code := c) rm (up h1 hcap)
   cases hi with
   | none => exact absurd rfl (hm (by simp))
   | some u =>
    cases hi' with
    | none => exact rh.elim
    | some u' =>
     simp only [bndO] at h2
     have hu := fun c => run_bound (P := P) (w := w) (code := c) rh h2
     cases lo with
     | none =>
      cases lo' with
      | some _ => exact rl.elim
      | none => simp only [bndO, Option.some.injEq] at h3; subst h3; simp [Instr.sliceBounds, hx, hu]
     | some v =>
      cases lo' with
      | none => exact rl.elim
      | some v' =>
       simp only [bndO] at h3
       have := fun c => run_bound (P := P) (w := w) (code := c) rl h3
       simp [Instr.sliceBounds, hx, hu, this]
theorem knownE_le (k : WI σ w0 h ρ w) {n z b c : Nat} (hn : ρ n = some (b, c)) : knownE h n z ≤ c := by
 unfold knownE
 split
 ·rename_i t z' l ho
  split
  ·rename_i hz
   have hz := Nat.eq_of_beq_eq_true hz
   subst hz
   obtain ⟨l', rest, hx, hl, hlen, hc, h0⟩ := k.rel n b c _ hn ho
   have h1 := hl.length
   have h2 : l.length ≤ c * z' := by rw [← hlen, h1, List.length_append]; omega
   exact Nat.div_le_of_le_mul (by rw [Nat.mul_comm]; exact h2)
  ·omega
 ·omega
theorem sliceArgs_rep {lo hi mx : Option Operand} {ev : Operand → Value} {l : List Value} {a b c : Option Value} (hr : RepL σ ρ l ((lo.toList ++ (hi.toList ++ mx.toList)).map ev)) (h : sliceArgs lo hi mx l = some (a, b, c)) :
    RepO σ ρ a (lo.map ev) ∧ RepO σ ρ b (hi.map ev) ∧ RepO σ ρ c (mx.map ev) ∧ (c ≠ none → b ≠ none) := by
  unfold sliceArgs at h
  split at h
  all_goals first
    | (cases h; done)
    | (simp only [Option.some.injEq, Prod.mk.injEq] at h
       obtain ⟨rfl, rfl, rfl⟩ := h
       simp only [Option.toList_some, Option.toList_none, List.nil_append, List.append_nil, List.singleton_append, List.cons_append, List.map_cons, List.map_nil] at hr
       first
         | exact ⟨trivial, trivial, trivial, by simp⟩
         | (obtain ⟨p, e, h1⟩ := hr.one
            simp only [List.cons.injEq, and_true] at e
            subst e
            exact ⟨by first | trivial | exact h1, by first | trivial | exact h1, trivial, by simp⟩)
         | (obtain ⟨p, q, e, h1, h2⟩ := hr.two
            simp only [List.cons.injEq, and_true] at e
            obtain ⟨rfl, rfl⟩ := e
            exact ⟨by first | trivial | exact h1, by first | exact h1 | exact h2, by first | trivial | exact h2, by simp⟩)
         | (obtain ⟨p, q, r, e, h1, h2, h3⟩ := hr.three
            simp only [List.cons.injEq, and_true] at e
            obtain ⟨rfl, rfl, rfl⟩ := e
            exact ⟨h1, h2, h3, by simp⟩))
theorem extract_bytes (s : ByteArray) (l k : Nat) (hk : k ≤ (bytesOf s).length) : s.extract l k = ofBytes (((bytesOf s).take k).drop l) := by
 refine ofBytes_inj ?_
 rw [ByteArray.data_extract, Array.toList_extract]
 rw [List.extract_eq_drop_take, ← List.drop_take]
 rfl
theorem sliceZ_sound (k : WI σ w0 h ρ w) {t : TypeId} {x x' v : Value} {lo hi mx lo' hi' mx' : Option Value} (rx : Rep σ ρ x x') (rl : RepO σ ρ lo lo') (rh : RepO σ ρ hi hi') (rm : RepO σ ρ mx mx')
  (hm : mx ≠ none → hi ≠ none) (hv : sliceZ P h t x lo hi mx = some v) : ∃ v', (Instr.sliceAt t x' lo' hi' mx').run P w = .ok v' w ∧ Rep σ ρ v v' := by
 unfold sliceZ at hv
 split at hv
 ·rename_i e he
  have hat : Instr.sliceAt t x' lo' hi' mx' = Instr.sliceAt t x' lo' hi' mx' := rfl
  have hS : ∀ (a : Option Addr) (len cap : Nat), (Instr.sliceAt t (.slice a len cap) lo' hi' mx').run P w = ((Instr.sliceBounds true len cap lo' hi' mx').run P w).andThen (fun r w' => ((sizeOf e).run P w').andThen fun size w'' => .ok (.slice (if r.2.2 = r.1 then a else a.map (·.add (r.1 * size))) (r.2.1 - r.1) (r.2.2 - r.1)) w'') := by
   intro a len cap
   simp [Instr.sliceAt, Instr.slice, run_underlying he]
  split at hv
  ·-- the empty slice
   rename_i len cap z hz
   have := rx.of_plain rfl; subst this
   split at hv
   ·rename_i l k' m hb
    cases hv
    rw [hS, run_bounds hb rl rh rm hm (Nat.le_refl _)]
    simp only [Result.andThen_ok, run_sizeOf hz]
    have e1 : mxOr mx m cap = m := by
     cases mx with
     | some _ => rfl
     | none => have := (bounds_spec hb).1; simp only [bndO, Option.some.injEq] at this; exact this
    rw [e1]
    refine ⟨_, rfl, ?_⟩
    have e2 : (if m = l then (none : Option Addr) else Option.map (fun x : Addr => x.add (l * z)) none) = none := by split <;> rfl
    rw [e2]
    exact .plain rfl
   ·cases hv
  ·-- a slice whose capacity is known
   rename_i n off len cap z hz
   obtain ⟨b, c, hn, rfl⟩ := rx.sl_inv
   split at hv
   ·rename_i l k' m hb
    rw [hS, run_bounds hb rl rh rm hm (Nat.le_refl _)]
    simp only [Result.andThen_ok, run_sizeOf hz]
    have e1 : mxOr mx m cap = m := by
     cases mx with
     | some _ => rfl
     | none => have := (bounds_spec hb).1; simp only [bndO, Option.some.injEq] at this; exact this
    rw [e1]
    refine ⟨_, rfl, ?_⟩
    split at hv
    ·rename_i hml
     have := Nat.eq_of_beq_eq_true hml
     subst this
     cases hv
     rw [if_pos rfl]
     exact .sl hn
    ·rename_i hml
     cases hv
     rw [if_neg (fun e => by subst e; rw [Nat.beq_refl] at hml; cases hml)]
     simp only [Option.map_some, add_lit]
     exact .sl hn
   ·cases hv
  ·-- a slice whose capacity is not known
   rename_i n off g len zz z hz
   obtain ⟨b, c, off', hn, hoff, rfl⟩ := rx.gr_inv
   have hkn := knownE_le (z := z) k hn
   split at hv
   ·split at hv
    ·rename_i l k' m hb
     split at hv
     ·rename_i hkk
      have hkk := Nat.le_of_ble_eq_true hkk
      cases hv
      rw [hS, run_bounds hb rl rh rm hm (by omega : knownE h n z - g ≤ c - g)]
      simp only [Result.andThen_ok, run_sizeOf hz, mxOr_some, mxOr_none]
      refine ⟨_, rfl, ?_⟩
      have hlk : l ≤ k' := by
       have h3 := (bounds_spec hb).2.2
       cases lo with
       | none => simp only [bndO, Option.some.injEq] at h3; omega
       | some v => exact (bnd_spec h3).choose_spec.2
      have e3 : c - g - l = c - (g + l) := by omega
      by_cases hcl : c - g = l
      ·rw [if_pos hcl, e3]
       refine .gr hn (.inr ⟨by omega, by omega⟩)
      ·rw [if_neg hcl, e3]
       simp only [Option.map_some, add_lit]
       refine .gr hn ?_
       rcases hoff with rfl | ⟨h1, h2⟩
       ·exact .inl rfl
       ·exact .inr ⟨by omega, by omega⟩
     ·cases hv
    ·cases hv
   ·rename_i u
    split at hv
    ·rename_i l k' m hb
     split at hv
     ·cases hv
     ·rename_i hml
      cases hv
      have hml : m ≠ l := fun e => by subst e; rw [Nat.beq_refl] at hml; cases hml
      rw [hS, run_bounds hb rl rh rm hm (by omega : knownE h n z - g ≤ c - g)]
      simp only [Result.andThen_ok, run_sizeOf hz, mxOr_some, mxOr_none]
      refine ⟨_, rfl, ?_⟩
      have h1 := (bnd_spec (bounds_spec hb).1).choose_spec.2
      have hlk : l ≤ k' := by
       have h3 := (bounds_spec hb).2.2
       cases lo with
       | none => simp only [bndO, Option.some.injEq] at h3; omega
       | some v => exact (bnd_spec h3).choose_spec.2
      have hkm : k' ≤ m := by
       have h2 := (bounds_spec hb).2.1
       cases hi with
       | none => exact absurd rfl (hm (by simp))
       | some v => exact (bnd_spec h2).choose_spec.2
      have : off' = off := by
       rcases hoff with h | ⟨h, _⟩
       ·exact h
       ·omega
      subst this
      rw [if_neg hml]
      simp only [Option.map_some, add_lit]
      exact .sl hn
    ·cases hv
  ·cases hv
 ·rename_i hu
  split at hv
  ·rename_i s
   have := rx.string; subst this
   split at hv
   ·rename_i l k' m hb
    cases hv
    cases mx' with
    | some _ => exact rm.elim
    | none =>
     have hb' := run_bounds (P := P) (w := w) (isS := false) hb rl rh rm (by simp) (Nat.le_refl _)
     have hk : k' ≤ (bytesOf s).length := by
      have h2 := (bounds_spec hb).2.1
      have h1 := (bounds_spec hb).1
      simp only [bndO, Option.some.injEq] at h1
      cases hi with
      | none => simp only [bndO, Option.some.injEq] at h2; omega
      | some v => have := (bnd_spec h2).choose_spec.2; omega
     refine ⟨.string (s.extract l k'), ?_, by rw [extract_bytes s l k' hk]; exact .plain rfl⟩
     simp only [← size_bytes] at hb'
     simp [Instr.sliceAt, Instr.slice, run_underlying hu, hb']
   ·cases hv
  ·cases hv
 ·cases hv
end
section
variable {P : Program} {σ : Nat → Nat → Value} {w0 : World} {h : Heap} {ρ : Ren} {w : World}
theorem byteVals_eq : ∀ (l : List UInt8), byteVals l = l.map fun b => Value.int .u8 b.toNat
 | [] => rfl
 | b :: l => by simp [byteVals, byteVals_eq l]
theorem byteVals_plain : ∀ (l : List UInt8), ∀ x ∈ byteVals l, plain x = true
 | b :: l, x, hx => by
  rcases List.mem_cons.1 hx with rfl | h
  ·rfl
  ·exact byteVals_plain l x h
theorem rowCells_sound (k : WI σ w0 h ρ w) {x x' : Value} {z m : Nat} {l : List Value} (hr : Rep σ ρ x x') (hl : rowCells h z m x = some l) (hm : ∀ a len cap, x = .slice a len cap → m ≤ len) (hz : ∀ s, x = .string s → z = 1 ∧ m ≤ (bytesOf s).length) :
  ∃ l', RepL σ ρ l l' ∧ (Builtin.firstCells z m x').run P w = .ok l'.toArray w ∧ (Builtin.firstCells z m x').run P w.drew = .ok l'.toArray w.drew := by
 unfold rowCells at hl
 split at hl
 ·rename_i len cap
  have := hr.of_plain rfl; subst this
  split at hl
  ·cases hl; exact ⟨[], .nil, run_firstCells_none w _ _ _ _, run_firstCells_none w.drew _ _ _ _⟩
  ·cases hl
 ·rename_i n off s len cap
  have hx : ∃ b c off', ρ n = some (b, c) ∧ (0 < m → off' = off) ∧ ∃ cap', x' = .slice (some ⟨b, off', none⟩) len cap' := by
   cases s with
   | none => obtain ⟨b, c, hn, rfl⟩ := hr.sl_inv; exact ⟨b, c, off, hn, fun _ => rfl, _, rfl⟩
   | some g =>
    obtain ⟨b, c, off', hn, ho, rfl⟩ := hr.gr_inv
    refine ⟨b, c, off', hn, fun h0 => ?_, _, rfl⟩
    have := hm _ _ _ rfl
    rcases ho with h1 | ⟨_, h1⟩
    ·exact h1
    ·omega
  obtain ⟨b, c, off', hn, hoff, cap', rfl⟩ := hx
  split at hl
  ·cases hl
   exact ⟨[], .nil, run_firstCells_some w _ _ _ _ _ [] (by simp) (by simp), run_firstCells_some w.drew _ _ _ _ _ [] (by simp) (by simp)⟩
  ·rename_i hm0
   have := hoff (by cases m with | zero => exact absurd rfl hm0 | succ _ => omega)
   subst this
   split at hl
   ·rename_i o ho
    split at hl
    ·rename_i cs hcs
     split at hl
     ·rename_i hlen
      cases hl
      have hlen := Nat.eq_of_beq_eq_true hlen
      obtain ⟨l', hr', hc⟩ := k.cellsAt hn ho hcs
      have hrr := (hr'.drop off').take (m * z)
      refine ⟨_, hrr, run_firstCells_some w _ _ _ _ _ _ (by rw [← hrr.length]; exact hlen) fun j v hj => ?_, run_firstCells_some w.drew _ _ _ _ _ _ (by rw [← hrr.length]; exact hlen) fun j v hj => ?_⟩
      ·rw [add_lit]; exact hc _ _ (drop_take_get hj)
      ·rw [add_lit]; exact hc _ _ (drop_take_get hj)
     ·cases hl
    ·cases hl
   ·cases hl
 ·rename_i s
  have := hr.string; subst this
  cases hl
  obtain ⟨rfl, hle⟩ := hz s rfl
  refine ⟨_, .plain (byteVals_plain _), ?_, ?_⟩
  all_goals
   simp [Builtin.firstCells]
   apply Array.ext'
   simp [byteVals_eq, bytesOf]
   try rw [ByteArray.data_extract, Array.toList_extract, List.extract_eq_drop_take]
   try simp
 ·rename_i n len
  obtain ⟨b, c, off, hn, hn1, rfl⟩ := hr.fs_inv
  split at hl
  ·cases hl
   exact ⟨[], .nil, run_firstCells_some w _ _ _ _ _ [] (by simp) (by simp), run_firstCells_some w.drew _ _ _ _ _ [] (by simp) (by simp)⟩
  ·split at hl
   ·rename_i cs ho
    split at hl
    ·rename_i hlen
     cases hl
     have hlen := Nat.eq_of_beq_eq_true hlen
     obtain ⟨l', cs', tt, fr, hx, hr', hc⟩ := k.rel _ b off _ hn1 ho
     have hrr := hr'.take (m * z)
     have go : ∀ (j : Nat) (v : Value), (l'.take (m * z))[j]? = some v → cs'[off + j]? = some v := fun j v hj => by
      rw [List.getElem?_take] at hj
      split at hj
      ·exact hc j v hj
      ·cases hj
     refine ⟨_, hrr, run_firstCells_some w _ _ _ _ _ _ (by rw [← hrr.length]; exact hlen) fun j v hj => ?_, run_firstCells_some w.drew _ _ _ _ _ _ (by rw [← hrr.length]; exact hlen) fun j v hj => ?_⟩
     ·rw [add_lit]
      have := go j v hj
      simp [World.cell?, hx, this]
     ·rw [add_lit]
      have := go j v hj
      have hx' : w.drew.heap[b]? = some (.cells cs' tt fr) := hx
      simp [World.cell?, hx', this]
    ·cases hl
   ·cases hl
 ·cases hl
theorem keyOk_plain {kt : TypeId} {k : Value} (h : keyOk P kt k = true) : plain k = true := by
 unfold keyOk at h
 split at h
 ·rfl
 ·rfl
 ·cases h
theorem run_checkKey {kt : TypeId} {k : Value} {e : Bool} (h : keyOk P kt k = true) : (Instr.checkKey e 10000 kt k).run P w = .ok () w := by
 unfold keyOk at h
 split at h
 ·rename_i hu; rw [show (10000 : Nat) = 9999 + 1 from rfl]; generalize (9999 : Nat) = fu; simp [Instr.checkKey, run_underlying hu]
 ·rename_i hu; rw [show (10000 : Nat) = 9999 + 1 from rfl]; generalize (9999 : Nat) = fu; simp [Instr.checkKey, run_underlying hu]
 ·cases h
theorem bytes_inj {a b : ByteArray} (h : bytesOf a = bytesOf b) : a = b := by
 obtain ⟨⟨x⟩⟩ := a
 obtain ⟨⟨y⟩⟩ := b
 have : x = y := h
 rw [this]
theorem beq_bytes {a b : ByteArray} : (a == b) = true ↔ bytesOf a = bytesOf b := by
 obtain ⟨⟨x⟩⟩ := a
 obtain ⟨⟨y⟩⟩ := b
 show ((⟨x⟩ : Array UInt8) == ⟨y⟩) = true ↔ _
 simp [bytesOf]
theorem keyEq_now {kt : TypeId} {d : TypeDesc} {k k' : Value} {b : Bool} (hd : P.underlying kt = some d) (ho : keyOk P kt k = true) (h : keyEq k k' = some b) : Instr.sameNow d k k' = some b ∧ (b = true ↔ k = k') := by
 unfold keyOk at ho
 rw [hd] at ho
 unfold keyEq at h
 split at h
 ·rename_i j a i c
  split at h
  ·rename_i hj
   subst hj
   cases h
   split at ho
   ·rename_i hdd _
    cases hdd
    exact ⟨by simp [Instr.sameNow], by simp⟩
   ·rename_i hh; cases hh
   ·cases ho
  ·cases h
 ·rename_i a c
  cases h
  split at ho
  ·rename_i hh; cases hh
  ·rename_i hdd _
   cases hdd
   refine ⟨?_, ?_⟩
   ·simp only [Instr.sameNow, Option.some.injEq]
    rw [Bool.eq_iff_iff, eqBytes_iff]
    exact beq_bytes
   ·rw [eqBytes_iff]
    simp only [Value.string.injEq]
    exact ⟨fun h => bytes_inj (by simpa [bytesOf] using h), fun h => by rw [h]⟩
  ·cases ho
 ·cases h
theorem findZ_all {k : Value} : ∀ {es : List (Value × Value)} {r : Option Value}, findZ k es = some r → ∀ x ∈ es, ∃ b, keyEq k x.1 = some b
 | [], _, _, x, hx => by cases hx
 | (k', v) :: l, r, h, x, hx => by
  unfold findZ at h
  split at h
  ·rename_i u h1 h2
   rcases List.mem_cons.1 hx with rfl | hx
   ·exact ⟨_, h1⟩
   ·exact findZ_all h2 x hx
  ·rename_i u h1 h2
   rcases List.mem_cons.1 hx with rfl | hx
   ·exact ⟨_, h1⟩
   ·exact findZ_all h2 x hx
  ·cases h
theorem findZ_some {k : Value} (hk : ∀ k' b, keyEq k k' = some b → (b = true ↔ k = k')) : ∀ {es : List (Value × Value)} {r : Option Value}, findZ k es = some r →
  match r with | some v => ∃ x ∈ es, x.1 = k ∧ (x.2 = v) | none => ∀ x ∈ es, x.1 ≠ k
 | [], r, h => by simp only [findZ, Option.some.injEq] at h; subst h; simp
 | (k', v) :: l, r, h => by
  unfold findZ at h
  split at h
  ·rename_i u h1 h2
   cases h
   exact ⟨(k', v), by simp, ((hk _ _ h1).1 rfl).symm, rfl⟩
  ·rename_i u h1 h2
   cases h
   have ih := findZ_some hk h2
   cases r with
   | some v' => obtain ⟨x, hx, h3, h4⟩ := ih; exact ⟨x, by simp [hx], h3, h4⟩
   | none =>
    intro x hx
    rcases List.mem_cons.1 hx with rfl | hx
    ·intro e
     have := (hk _ _ h1).2 e.symm
     cases this
    ·exact ih x hx
  ·cases h
theorem findNow_spec {d : TypeDesc} {k : Value} : ∀ {ms : List MapEntry} (i : Nat), (∀ e ∈ ms, ∃ b, Instr.sameNow d k e.key = some b ∧ (b = true ↔ k = e.key)) →
  (Instr.findNow d k ms i = some none ∧ ∀ e ∈ ms, e.key ≠ k) ∨ ∃ j e, Instr.findNow d k ms i = some (some (i + j, e.val)) ∧ ms[j]? = some e ∧ e.key = k
 | [], i, _ => .inl ⟨rfl, by simp⟩
 | e :: ms, i, h => by
  obtain ⟨b, hb, hbk⟩ := h e (by simp)
  unfold Instr.findNow
  rw [hb]
  cases b with
  | true => exact .inr ⟨0, e, rfl, rfl, (hbk.1 rfl).symm⟩
  | false =>
   have hne : e.key ≠ k := fun he => by have := hbk.2 he.symm; cases this
   rcases findNow_spec (ms := ms) (i + 1) (fun e he => h e (by simp [he])) with ⟨h1, h2⟩ | ⟨j, e', h1, h2, h3⟩
   ·refine .inl ⟨h1, fun x hx => ?_⟩
    rcases List.mem_cons.1 hx with rfl | hx
    ·exact hne
    ·exact h2 x hx
   ·exact .inr ⟨j + 1, e', by rw [h1, show i + 1 + j = i + (j + 1) by omega], by simpa using h2, h3⟩
theorem MapRel.uniq {es : List (Value × Value)} {ms : List MapEntry} (h : MapRel σ ρ es ms) {e e' : MapEntry} (he : e ∈ ms) (he' : e' ∈ ms) (hk : e.key = e'.key) : e = e' := by
 obtain ⟨i, hi⟩ := List.mem_iff_getElem?.1 he
 obtain ⟨j, hj⟩ := List.mem_iff_getElem?.1 he'
 have h1 : (ms.map (·.key))[i]? = some e.key := by simp [hi]
 have h2 : (ms.map (·.key))[j]? = some e'.key := by simp [hj]
 have : i = j := (List.getElem?_inj (List.getElem?_eq_some_iff.1 h1).1 h.nodupM).1 (by rw [h1, h2, hk])
 subst this
 rw [hi] at hj
 exact Option.some.inj hj
theorem run_find {kt : TypeId} {k : Value} {es : List (Value × Value)} {ms : List MapEntry} {r : Option Value} (hm : MapRel σ ρ es ms) (ho : keyOk P kt k = true) (hf : findZ k es = some r) :
  match r with
  | some v => ∃ j e, (Instr.findKey kt k ms).run P w = .ok (some (j, e.val)) w ∧ ms[j]? = some e ∧ e.key = k ∧ Rep σ ρ v e.val ∧ (k, v) ∈ es
  | none => (Instr.findKey kt k ms).run P w = .ok none w ∧ (∀ e ∈ ms, e.key ≠ k) ∧ ∀ x ∈ es, x.1 ≠ k := by
 have hd : ∃ d, P.underlying kt = some d := by
  unfold keyOk at ho
  split at ho
  ·exact ⟨_, by assumption⟩
  ·exact ⟨_, by assumption⟩
  ·cases ho
 obtain ⟨d, hd⟩ := hd
 have hkey : ∀ k' b, keyEq k k' = some b → (b = true ↔ k = k') := fun k' b hb => (keyEq_now hd ho hb).2
 have hall : ∀ e ∈ ms, ∃ b, Instr.sameNow d k e.key = some b ∧ (b = true ↔ k = e.key) := fun e he => by
  obtain ⟨v, hv⟩ := hm.back e he
  obtain ⟨b, hb⟩ := findZ_all hf _ hv
  exact ⟨b, keyEq_now hd ho hb⟩
 have hrun : ∀ x, Instr.findNow d k ms 0 = some x → (Instr.findKey kt k ms).run P w = .ok x w := fun x hx => by
  simp [Instr.findKey, run_underlying hd, hx]
 have hs := findZ_some hkey hf
 cases r with
 | none =>
  simp only at hs ⊢
  have hno : ∀ e ∈ ms, e.key ≠ k := fun e he hk => by
   obtain ⟨v, hv⟩ := hm.back e he
   exact hs _ hv hk
  rcases findNow_spec 0 hall with ⟨h1, _⟩ | ⟨j, e, _, h2, h3⟩
  ·exact ⟨hrun _ h1, hno, hs⟩
  ·exact absurd h3 (hno e (List.mem_of_getElem? h2))
 | some v =>
  simp only at hs ⊢
  obtain ⟨x, hx, hxk, hxv⟩ := hs
  obtain ⟨e0, he0, hk0, hr0⟩ := hm.fwd x hx
  rcases findNow_spec 0 hall with ⟨_, h2⟩ | ⟨j, e, h1, h2, h3⟩
  ·exact absurd (hk0.trans hxk) (h2 e0 he0)
  ·have := hm.uniq (List.mem_of_getElem? h2) he0 (by rw [h3, hk0, hxk])
   subst this
   refine ⟨j, e, by rw [← Nat.zero_add j]; exact hrun _ h1, h2, h3, by rw [← hxv]; exact hr0, ?_⟩
   rw [← hxk, ← hxv]; exact hx
end
end Go.Z
end
