/- One part of a proof: an evaluator of the model, shown right, and contracts that it yields. No condition beyond those that each theorem names. -/
import Derived.Test.YtnhllgedoimhkaaGreatDoorFA
set_option linter.unusedSimpArgs false
set_option linter.unusedVariables false
set_option linter.unusedSectionVars false
set_option linter.deprecated false
section
namespace Go.Proofs.LB
open Go.X
set_option maxRecDepth 100000
def noText : ByteArray := ⟨#[]⟩
def textOf (l : List UInt8) : ByteArray := ⟨⟨l⟩⟩
def step1 : List UInt8 → Option (Val × Nat)
 | [] => none
 | k :: r => if k.toNat % 8 < 5 then some (⟨2, (k.toNat / 8 % 8 : Nat), noText⟩, 1) else match r with
  | [] => none
  | n :: r' => if n.toNat ≤ r'.length then some (⟨1, (k.toNat / 8 % 8 : Nat), textOf (r'.take n.toNat)⟩, 2 + n.toNat) else none
theorem step1_len {l : List UInt8} {x : Val} {n : Nat} (h : step1 l = some (x, n)) : 1 ≤ n ∧ n ≤ l.length := by
 unfold step1 at h
 split at h
 ·cases h
 ·split at h
  ·cases h; simp
  ·split at h
   ·cases h
   ·split at h
    ·cases h; simp; omega
    ·cases h
theorem step1_pick {k : UInt8} {r : List UInt8} (h : k.toNat % 8 < 5) : step1 (k :: r) = some (⟨2, (k.toNat / 8 % 8 : Nat), noText⟩, 1) := by
 unfold step1
 exact if_pos h
theorem step1_end {k : UInt8} (h : ¬ k.toNat % 8 < 5) : step1 [k] = none := by
 unfold step1
 simp only [if_neg h]
theorem step1_long {k n : UInt8} {r : List UInt8} (h : ¬ k.toNat % 8 < 5) (h2 : ¬ n.toNat ≤ r.length) : step1 (k :: n :: r) = none := by
 unfold step1
 simp only [if_neg h, if_neg h2]
theorem step1_say {k n : UInt8} {r : List UInt8} (h : ¬ k.toNat % 8 < 5) (h2 : n.toNat ≤ r.length) : step1 (k :: n :: r) = some (⟨1, (k.toNat / 8 % 8 : Nat), textOf (r.take n.toNat)⟩, 2 + n.toNat) := by
 unfold step1
 simp only [if_neg h, if_pos h2]
def decS (l : List UInt8) : List Val := match h : step1 l with
 | none => []
 | some (x, n) => x :: decS (l.drop n)
termination_by l.length
decreasing_by have := step1_len h; rw [List.length_drop]; omega
theorem decS_none {l : List UInt8} (h : step1 l = none) : decS l = [] := by
 rw [decS]
 split
 ·rfl
 ·rename_i h2; rw [h] at h2; cases h2
theorem decS_some {l : List UInt8} {x : Val} {n : Nat} (h : step1 l = some (x, n)) : decS l = x :: decS (l.drop n) := by
 rw [decS]
 split
 ·rename_i h2; rw [h] at h2; cases h2
 ·rename_i h2; rw [h] at h2; cases h2; rfl
def octS (x : Val) : List UInt8 :=
 if x.n < 0 ∨ 8 ≤ x.n then [] else
 if x.k = 2 ∧ x.t.size = 0 then [UInt8.ofNat (x.n.toNat * 8)] else
 if x.k = 1 ∧ x.t.size ≤ 255 then UInt8.ofNat (x.n.toNat * 8 + 5) :: UInt8.ofNat x.t.size :: x.t.data.toList else []
def encS (l : List Val) : List UInt8 := l.flatMap octS
theorem ofNat_toNat {n : Nat} (h : n < 256) : (UInt8.ofNat n).toNat = n := by simp; omega
theorem plain_cells {V : View} {base : Option Addr} {len cap : Nat} {l : List Value} (h : V.cells (.slice base len cap) l) : Plain base := by
 unfold View.cells at h
 split at h
 ·rename_i heq
  simp only [Value.slice.injEq] at heq
  exact .inr ⟨_, _, heq.1⟩
 ·rename_i heq
  simp only [Value.slice.injEq] at heq
  exact .inl heq.1
 ·rename_i heq; cases heq
 ·exact h.elim
theorem slice_hiP (t : TypeId) (base : Option Addr) (hp : Plain base) (n cap k : Nat) (ht : Tryz.prog.underlying t = some (.slice (Tryz.prog.elem t))) (hz : ∀ w, (sizeOf (Tryz.prog.elem t)).run Tryz.prog w = .ok 1 w) (h : k ≤ cap) (w : World) :
  (Instr.sliceAt t (.slice base n cap) none (some (.int .i64 k)) none).run Tryz.prog w = .ok (.slice base k cap) w := by
 rw [run_sliceAt_slice (h := ht), run_slice_h (ht := ht) (h0 := by omega) (h2 := by omega), hz]
 rcases hp with rfl | ⟨p, off, rfl⟩
 ·simp [sliced]
 ·simp [sliced, add_lit]
def cutB (base : Option Addr) (k cap : Nat) : Option Addr := match base with
 | some ⟨p, off, sp⟩ => some ⟨p, if cap = k then off else off + k, sp⟩
 | none => none
theorem slice_loP (t : TypeId) (base : Option Addr) (hp : Plain base) (n cap k : Nat) (ht : Tryz.prog.underlying t = some (.slice (Tryz.prog.elem t))) (hz : ∀ w, (sizeOf (Tryz.prog.elem t)).run Tryz.prog w = .ok 1 w) (h : k ≤ n) (w : World) :
  (Instr.sliceAt t (.slice base n cap) (some (.int .i64 k)) none none).run Tryz.prog w = .ok (.slice (cutB base k cap) (n - k) (cap - k)) w := by
 rw [run_sliceAt_slice (h := ht), run_slice_l (ht := ht) (h0 := by omega) (h1 := by omega), hz]
 rcases hp with rfl | ⟨p, off, rfl⟩
 ·simp [sliced, cutB]
 ·simp only [Result.andThen_ok, sliced, Int.toNat_natCast, Nat.mul_one, Option.map_some, add_lit, cutB]
  by_cases hk : cap = k
  ·simp [hk]
  ·simp [hk]
theorem cells_take {V : View} {base : Option Addr} {n cap n' cap' : Nat} {l : List Value} (h : V.cells (.slice base n cap) l) (hp : Plain base) (k : Nat) : V.cells (.slice base n' cap') (l.take k) := by
 rcases hp with rfl | ⟨p, off, rfl⟩
 ·have : l = [] := h
  subst this; simp; rfl
 ·have h : V.has p off l := h
  show V.has p off (l.take k)
  intro i v hi
  rw [List.getElem?_take] at hi
  split at hi
  ·exact h i v hi
  ·cases hi
theorem cells_drop {V : View} {base : Option Addr} {n cap n' cap' : Nat} {l : List Value} (h : V.cells (.slice base n cap) l) (hp : Plain base) (k : Nat) (hl : l.length ≤ cap) : V.cells (.slice (cutB base k cap) n' cap') (l.drop k) := by
 rcases hp with rfl | ⟨p, off, rfl⟩
 ·have : l = [] := h
  subst this; simp; rfl
 ·have h : V.has p off l := h
  show V.has p (if cap = k then off else off + k) (l.drop k)
  intro i v hi
  rw [List.getElem?_drop] at hi
  have hlt := (List.getElem?_eq_some_iff.1 hi).1
  rw [if_neg (by omega), Nat.add_assoc]
  exact h (k + i) v hi
theorem slice_lhP (t : TypeId) (base : Option Addr) (hp : Plain base) (n cap a b : Nat) (ht : Tryz.prog.underlying t = some (.slice (Tryz.prog.elem t))) (hz : ∀ w, (sizeOf (Tryz.prog.elem t)).run Tryz.prog w = .ok 1 w) (hab : a ≤ b) (h : b ≤ cap) (w : World) :
  (Instr.sliceAt t (.slice base n cap) (some (.int .i64 a)) (some (.int .i64 b)) none).run Tryz.prog w = .ok (.slice (cutB base a cap) (b - a) (cap - a)) w := by
 rw [run_sliceAt_slice (h := ht), run_slice_lh (ht := ht) (h0 := by omega) (h1 := by omega) (h2 := by omega), hz]
 rcases hp with rfl | ⟨p, off, rfl⟩
 ·simp [sliced, cutB]
 ·simp only [Result.andThen_ok, sliced, Int.toNat_natCast, Nat.mul_one, Option.map_some, add_lit, cutB]
  by_cases hk : cap = a
  ·simp [hk]
  ·simp [hk]
theorem underB : Tryz.prog.underlying 37 = some (.slice (Tryz.prog.elem 37)) := by kernel_rfl
theorem sizeB1 (w : World) : (sizeOf (Tryz.prog.elem 37)).run Tryz.prog w = .ok 1 w := run_of_pureRun (by kernel_rfl) w
theorem u8L_len (l : List UInt8) : (u8L l).length = l.length := List.length_map ..
theorem u8L_drop (l : List UInt8) (n : Nat) : (u8L l).drop n = u8L (l.drop n) := List.map_drop .. |>.symm
theorem u8L_take (l : List UInt8) (n : Nat) : (u8L l).take n = u8L (l.take n) := List.map_take .. |>.symm
theorem ValsAt.of_cells {V : View} {l : List Val} {base : Option Addr} {len cap : Nat} (hc : V.cells (.slice base len cap) (l.flatMap vcells)) (hl : l.length ≤ 9223372036854775807) : ValsAt V l base :=
 ⟨fun hn => cells_some hc (fun e => hn (List.eq_nil_of_length_eq_zero (by have := congrArg List.length e; rw [flat_len (f := vcells) (n := 3) (fun _ => rfl)] at this; simp only [List.length_nil] at this; omega))), hl⟩
theorem flat_vals (l : List Val) : (l.flatMap vcells).length = l.length * 3 := flat_len (f := vcells) (n := 3) (fun _ => rfl) l
theorem bytes_lo {V : View} {p off cap : Nat} {l : List UInt8} (h : V.cells (.slice (some ⟨p, off, none⟩) l.length cap) (u8L l)) (hc : l.length ≤ cap) (i : Int) (a : Nat) (hi : i = (a : Int)) (ha : a ≤ l.length) :
  ∃ o2, (∀ w, (Instr.sliceAt 37 (.slice (some ⟨p, off, none⟩) l.length cap) (some (.int .i64 i)) none none).run Tryz.prog w = .ok (.slice (some ⟨p, o2, none⟩) (l.drop a).length (cap - a)) w) ∧
   V.cells (.slice (some ⟨p, o2, none⟩) (l.drop a).length (cap - a)) (u8L (l.drop a)) ∧ (l.drop a).length ≤ cap - a := by
 subst hi
 have hd := cells_drop (n' := (l.drop a).length) (cap' := cap - a) h (plain_cells h) a (by rw [u8L_len]; exact hc)
 rw [u8L_drop] at hd
 refine ⟨_, fun w => ?_, hd, by rw [List.length_drop]; omega⟩
 rw [slice_loP _ _ (plain_cells h) l.length cap a underB sizeB1 ha w, List.length_drop]
 rfl
theorem bytes_lh {V : View} {p off cap : Nat} {l : List UInt8} (h : V.cells (.slice (some ⟨p, off, none⟩) l.length cap) (u8L l)) (hc : l.length ≤ cap) (i j : Int) (a b : Nat) (hi : i = (a : Int)) (hj : j = (b : Int)) (hab : a ≤ b) (hb : b ≤ l.length) :
  ∃ o2, (∀ w, (Instr.sliceAt 37 (.slice (some ⟨p, off, none⟩) l.length cap) (some (.int .i64 i)) (some (.int .i64 j)) none).run Tryz.prog w = .ok (.slice (some ⟨p, o2, none⟩) (b - a) (cap - a)) w) ∧
   V.has p o2 (u8L ((l.drop a).take (b - a))) ∧ ((l.drop a).take (b - a)).length = b - a := by
 subst hi; subst hj
 have hd := cells_drop (n' := (l.drop a).length) (cap' := cap - a) h (plain_cells h) a (by rw [u8L_len]; exact hc)
 rw [u8L_drop] at hd
 have hd2 := cells_take (n' := b - a) (cap' := cap - a) hd (plain_cells hd) (b - a)
 rw [u8L_take] at hd2
 refine ⟨_, fun w => ?_, hd2, by rw [List.length_take, List.length_drop]; omega⟩
 rw [slice_lhP _ _ (plain_cells h) l.length cap a b underB sizeB1 hab (by omega) w]
 rfl
theorem LoadN.str {V : View} {mem : Nat → Option Res} {b off n : Nat} {K : List Value → Prop} (r : List UInt8) (h : V.has b off (u8L r)) (hn : r.length = n) (hK : K (u8L r)) : LoadN V mem b off n K := ⟨⟨u8L r, by rw [u8L_len]; exact hn, .inl h, hK⟩⟩
theorem wrap_u8 (k : UInt8) : IntKind.i64.wrap (k.toNat : Int) = (k.toNat : Int) := by have := UInt8.toNat_lt k; rw [wrapE]; omega
theorem tdiv8 (n : Nat) : (n : Int).tdiv 8 = ((n / 8 : Nat) : Int) := by rw [Int.tdiv_eq_ediv_of_nonneg (by omega)]; rfl
theorem tmod8 (n : Nat) : (n : Int).tmod 8 = ((n % 8 : Nat) : Int) := by rw [Int.tmod_eq_emod_of_nonneg (by omega)]; rfl
theorem sess_eq (k : UInt8) : (IntKind.i64.wrap ((IntKind.i64.wrap (k.toNat : Int)).tdiv 8)).tmod 8 = ((k.toNat / 8 % 8 : Nat) : Int) := by
 have := UInt8.toNat_lt k
 rw [wrap_u8, tdiv8, wrapE, show (((k.toNat / 8 : Nat) : Int) + 9223372036854775808) % 18446744073709551616 - 9223372036854775808 = ((k.toNat / 8 : Nat) : Int) by omega, tmod8]
theorem sessR_eq (k : UInt8) : IntKind.i64.wrap ((IntKind.u8.wrap ((k.toNat : Int).tdiv 8)).tmod 8) = ((k.toNat / 8 % 8 : Nat) : Int) := by
 have := UInt8.toNat_lt k
 have e : IntKind.u8.wrap ((k.toNat / 8 : Nat) : Int) = ((k.toNat / 8 : Nat) : Int) := by rw [IntKind.wrap_u8]; omega
 rw [tdiv8, e, tmod8, wrapE]
 omega
theorem kind_eq (k : UInt8) : (IntKind.i64.wrap (k.toNat : Int)).tmod 8 = ((k.toNat % 8 : Nat) : Int) := by rw [wrap_u8, tmod8]
def StepsV (l : List Val) (v : Value) (V : View) : Prop := ∃ b c, v = .slice b l.length c ∧ ValsAt V l b
set_option maxHeartbeats 1000000 in
theorem decode_spec (bs : List UInt8) (base : Option Addr) (cap : Nat) (V : View) (h : bs.length = 0 ∨ V.cells (.slice base bs.length cap) (u8L bs)) (hc : bs.length ≤ cap) (hl : bs.length ≤ 1000) :
  PSpec 16 [.slice base bs.length cap] V (fun v V' => StepsV (decS bs) v V') := by
 refine does_of_zfun [(9, [(0, []), (1, []), (2, []), (3, []), (4, []), (5, []), (6, []), (7, []), (8, [])])] mixed (args := [.v _]) (ms := []) Tryz.func16 (by kernel_rfl) rfl ?_; conv => whnf
 repeat' ((first | refine br_t rfl ?_ | refine br_f rfl ?_ | refine IdxN.lit rfl rfl ?_ | intro _); conv => whnf)
 refine loopz (σ := (List UInt8 × Option Addr × Nat) × List Val × Option Addr × Nat) (fun z => [(0, .v (.slice z.1.2.1 z.1.1.length z.1.2.2)), (3, .row 53)]) (fun z => [(53, .row (.slice z.2.2.1 z.2.1.length z.2.2.2) 56 3 z.2.1.length)])
  (fun j z V' => V.le V' ∧ (z.1.1.length = 0 ∨ V'.cells (.slice z.1.2.1 z.1.1.length z.1.2.2) (u8L z.1.1)) ∧ z.1.1.length ≤ z.1.2.2 ∧ z.1.1.length = j ∧ z.2.1.length + z.1.1.length ≤ 1000 ∧ decS bs = z.2.1 ++ decS z.1.1 ∧ V'.cells (.slice z.2.2.1 z.2.1.length z.2.2.2) (z.2.1.flatMap vcells)) bs.length ((bs, base, cap), [], none, 0) ?_ ?_ ?_ ?_
 ·repeat' (first | exact sees_nil | refine sees_cons rfl rfl rfl ?_)
 ·repeat' (first | exact keeps_nil | refine keeps_cons rfl ?_ | refine keeps_free ?_)
 ·exact ⟨View.le_refl _, h, hc, rfl, by simpa using hl, rfl, rfl⟩
 rintro j ⟨⟨r, b1, c1⟩, out, b0, k0⟩ V' ⟨hV, hr, hrc, hj, hn, hd, hxs⟩
 simp only at hr hrc hj hn hd hxs
 conv => whnf
 apply br <;> intro h3 <;> conv => whnf
 ·have h3 : 0 < r.length := by simpa using h3
  obtain ⟨k, r1, rfl⟩ : ∃ k r1, r = k :: r1 := by
   cases r with
   | nil => simp at h3
   | cons k r1 => exact ⟨k, r1, rfl⟩
  have hr := hr.resolve_left (by simp)
  have hpl := plain_cells hr
  obtain ⟨p, off, hb, hh⟩ := cells_some hr (by simp [u8L])
  subst hb
  refine IdxN.of (by simp) (by simp) ?_; conv => whnf
  refine LoadN.of (hh.mono le_auto) 0 rfl rfl ?_; conv => whnf
  repeat' ((first | refine br_t rfl ?_ | refine br_f rfl ?_ | refine IdxN.lit rfl rfl ?_ | intro _); conv => whnf)
  obtain ⟨o2, hs1, hc2, hl2⟩ := bytes_lo hr hrc 1 1 rfl (by simp)
  refine ⟨⟨_, hs1, ?_⟩⟩
  conv => whnf
  replace hc2 : V'.cells (.slice (some ⟨p, o2, none⟩) r1.length (c1 - 1)) (u8L r1) := hc2
  replace hl2 : r1.length ≤ c1 - 1 := hl2
  replace hn : out.length + (r1.length + 1) ≤ 1000 := hn
  repeat' ((first | refine br_t rfl ?_ | refine br_f rfl ?_ | refine IdxN.lit rfl rfl ?_ | intro _); conv => whnf)
  have e1 := sess_eq k
  generalize (IntKind.i64.wrap ((IntKind.i64.wrap (k.toNat : Int)).tdiv 8)).tmod 8 = q at e1 ⊢
  have e2 := kind_eq k
  apply br <;> intro h4 <;> conv => whnf
  ·have h4 : ¬ k.toNat % 8 < 5 := by have := of_decide_eq_true h4; omega
   apply br <;> intro h5 <;> conv => whnf
   ·have h5 : r1 = [] := List.eq_nil_of_length_eq_zero (by simpa using h5)
    subst h5
    have hd : decS bs = out := by rw [hd, decS_none (step1_end h4), List.append_nil]
    repeat' ((first | refine br_t rfl ?_ | refine br_f rfl ?_ | refine IdxN.lit rfl rfl ?_ | intro _); conv => whnf)
    rw [hd]
    exact ret_pure ⟨_, _, rfl, ValsAt.of_cells hxs (by omega)⟩
   have h5 : r1 ≠ [] := by rintro rfl; simp at h5
   obtain ⟨n, r2, rfl⟩ := List.exists_cons_of_ne_nil h5
   have hh2 : V'.has p o2 (u8L (n :: r2)) := hc2
   have hn8 := UInt8.toNat_lt n
   refine IdxN.of (by simp) (by simp) ?_; conv => whnf
   refine LoadN.of (hh2.mono le_auto) 0 rfl rfl ?_; conv => whnf
   repeat' ((first | refine br_t rfl ?_ | refine br_f rfl ?_ | refine IdxN.lit rfl rfl ?_ | intro _); conv => whnf)
   rw [wrap_u8 n]
   apply br <;> intro h6 <;> conv => whnf
   ·have h6 : ¬ n.toNat ≤ r2.length := by have := of_decide_eq_true h6; simp at this; omega
    have hd : decS bs = out := by rw [hd, decS_none (step1_long h4 h6), List.append_nil]
    repeat' ((first | refine br_t rfl ?_ | refine br_f rfl ?_ | refine IdxN.lit rfl rfl ?_ | intro _); conv => whnf)
    rw [hd]
    exact ret_pure ⟨_, _, rfl, ValsAt.of_cells hxs (by omega)⟩
   have h6 : n.toNat ≤ r2.length := by have := of_decide_eq_false h6; simp at this; omega
   repeat' ((first | refine br_t rfl ?_ | refine br_f rfl ?_ | refine IdxN.lit rfl rfl ?_ | intro _); conv => whnf)
   refine IdxN.of (by simp) (by simp) ?_; conv => whnf
   refine LoadN.of (hh2.mono le_auto) 0 rfl rfl ?_; conv => whnf
   repeat' ((first | refine br_t rfl ?_ | refine br_f rfl ?_ | refine IdxN.lit rfl rfl ?_ | intro _); conv => whnf)
   rw [wrap_u8 n]
   have w1 : IntKind.i64.wrap (1 + (n.toNat : Int)) = ((1 + n.toNat : Nat) : Int) := by rw [wrapE]; omega
   obtain ⟨o3, hs3, hc3, hl3⟩ := bytes_lh hc2 hl2 1 (IntKind.i64.wrap (1 + (n.toNat : Int))) 1 (1 + n.toNat) rfl w1 (by omega) (by simp; omega)
   have e5 : List.take (1 + n.toNat - 1) (List.drop 1 (n :: r2)) = r2.take n.toNat := by rw [Nat.add_sub_cancel_left]; rfl
   rw [e5] at hc3 hl3
   refine ⟨⟨_, hs3, ?_⟩⟩
   conv => whnf
   refine LoadN.str _ hc3 hl3 ?_
   rw [strOf_of]
   conv => whnf
   repeat' ((first | refine br_t rfl ?_ | refine br_f rfl ?_ | refine IdxN.lit rfl rfl ?_ | intro _); conv => whnf)
   obtain ⟨o4, hs4, hc4, hl4⟩ := bytes_lo hc2 hl2 (IntKind.i64.wrap (1 + (n.toNat : Int))) (1 + n.toNat) w1 (by simp; omega)
   refine ⟨⟨_, hs4, ?_⟩⟩
   conv => whnf
   have e6 : List.drop (1 + n.toNat) (n :: r2) = r2.drop n.toNat := by rw [Nat.add_comm]; rfl
   rw [e6] at hc4 hl4
   rw [e6]
   have hs : step1 (k :: n :: r2) = some (⟨1, q, textOf (r2.take n.toNat)⟩, 2 + n.toNat) := by rw [step1_say h4 h6, e1]
   have hdl : (r2.drop n.toNat).length + n.toNat = r2.length := by rw [List.length_drop]; omega
   repeat' ((first | refine br_t rfl ?_ | refine br_f rfl ?_ | refine IdxN.lit rfl rfl ?_ | intro _); conv => whnf)
   rename_i b5 V2 hV2 h2
   refine AppN.to (out.length + 1) rfl (out.flatMap vcells) (vcells ⟨1, q, textOf (r2.take n.toNat)⟩) (hxs.mono le_auto) (flat_vals _) h2 rfl rfl (by omega) (by decide) fun base' cap' V3 hV3 hc5 => ?_; conv => whnf
   repeat' ((first | refine br_t rfl ?_ | refine br_f rfl ?_ | refine IdxN.lit rfl rfl ?_ | intro _); conv => whnf)
   replace hn : out.length + (r2.length + 2) ≤ 1000 := hn
   replace hj : r2.length + 2 = j := hj
   refine ⟨(r2.drop n.toNat).length, ((r2.drop n.toNat, some ⟨p, o4, none⟩, c1 - 1 - (1 + n.toNat)), out ++ [⟨1, q, textOf (r2.take n.toNat)⟩], base', cap'), by omega, ?_, ?_, le_auto, .inr (hc4.mono le_auto), hl4, rfl, ?_, ?_, ?_⟩
   ·simp only [List.length_append]
    repeat' (first | exact sees_nil | refine sees_cons rfl rfl rfl ?_)
   ·simp only [List.length_append]
    repeat' (first | exact keeps_nil | refine keeps_cons rfl ?_ | refine keeps_free ?_)
   ·show (out ++ [_]).length + (r2.drop n.toNat).length ≤ 1000
    rw [List.length_append]
    show out.length + 1 + _ ≤ 1000
    omega
   ·show decS bs = (out ++ [_]) ++ decS (r2.drop n.toNat)
    rw [hd, decS_some hs, show (k :: n :: r2).drop (2 + n.toNat) = r2.drop n.toNat by rw [Nat.add_comm]; rfl]
    simp
   ·show V3.cells (.slice base' (out ++ [_]).length cap') ((out ++ [_]).flatMap vcells)
    rw [List.flatMap_append, List.length_append]; simpa using hc5
  ·have h4 : k.toNat % 8 < 5 := by have := of_decide_eq_false h4; omega
   have hs : step1 (k :: r1) = some (⟨2, q, noText⟩, 1) := by rw [step1_pick h4, e1]
   repeat' ((first | refine br_t rfl ?_ | refine br_f rfl ?_ | refine IdxN.lit rfl rfl ?_ | intro _); conv => whnf)
   rename_i b5 V2 hV2 h2
   refine AppN.to (out.length + 1) rfl (out.flatMap vcells) (vcells ⟨2, q, noText⟩) (hxs.mono le_auto) (flat_vals _) h2 rfl rfl (by omega) (by decide) fun base' cap' V3 hV3 hc3 => ?_; conv => whnf
   repeat' ((first | refine br_t rfl ?_ | refine br_f rfl ?_ | refine IdxN.lit rfl rfl ?_ | intro _); conv => whnf)
   refine ⟨j - 1, ((r1, some ⟨p, o2, none⟩, c1 - 1), out ++ [⟨2, q, noText⟩], base', cap'), by subst hj; simp, ?_, ?_, le_auto, .inr (hc2.mono le_auto), hl2, by subst hj; simp, by simp; omega, ?_, ?_⟩
   ·simp only [List.length_append]
    repeat' (first | exact sees_nil | refine sees_cons rfl rfl rfl ?_)
   ·simp only [List.length_append]
    repeat' (first | exact keeps_nil | refine keeps_cons rfl ?_ | refine keeps_free ?_)
   ·show decS bs = (out ++ [_]) ++ decS r1
    rw [hd, decS_some hs]; simp
   ·show V3.cells (.slice base' (out ++ [_]).length cap') ((out ++ [_]).flatMap vcells)
    rw [List.flatMap_append, List.length_append]; simpa using hc3
 ·have h3 : r = [] := List.eq_nil_of_length_eq_zero (by simpa using h3)
  subst h3
  have hd : decS bs = out := by rw [hd, decS_none rfl, List.append_nil]
  repeat' ((first | refine br_t rfl ?_ | refine br_f rfl ?_ | refine IdxN.lit rfl rfl ?_ | intro _); conv => whnf)
  rw [hd]
  exact ret_pure ⟨_, _, rfl, ValsAt.of_cells hxs (by omega)⟩
theorem fieldsS : (Tryz.prog.fieldsOf 56).toList.map (fun f => (f.name != "_", f.type, f.offset)) = [(true, 3, 0), (true, 3, 1), (true, 9, 2)] := by kernel_rfl
theorem eqvS_run (o1 o2 : Operand) (x y : Val) (w : World) : Sem.run Tryz.prog (do
      eqGuard .eql 56 o1 o2 (vv x) (vv y)
      binOp .eql 56 (vv x) (vv y)) w = .ok (.bool (sameV x y)) w := by
  unfold vv
  rw [Sem.run_bind, run_eqGuard_agg w .eql 56 o1 o2 _ _ (by kernel_rfl)]
  simp only [Result.andThen_ok]
  rw [run_eql_struct, run_equalIn_struct w 9999 56 _ _ (by kernel_rfl) (by kernel_rfl)]
  have h := fieldsS
  generalize (Tryz.prog.fieldsOf 56).toList = l at h
  rcases l with _ | ⟨f, _ | ⟨g, _ | ⟨i, _ | ⟨j, l⟩⟩⟩⟩ <;> simp only [List.map_cons, List.map_nil, List.cons.injEq, List.cons_ne_nil, List.ne_cons_self, reduceCtorEq, and_false, false_and] at h
  simp only [List.map_cons, List.map_nil, List.cons.injEq, Prod.mk.injEq, and_true, bne_iff_ne, ne_eq] at h
  obtain ⟨⟨hf1, hf2, hf3⟩, ⟨hg1, hg2, hg3⟩, hi1, hi2, hi3⟩ := h
  have u3 : Tryz.prog.underlying 3 = some (.int .i64) := by kernel_rfl
  have u9 : Tryz.prog.underlying 9 = some .string := by kernel_rfl
  simp [Op.eqFields, hf1, hf2, hf3, hg1, hg2, hg3, hi1, hi2, hi3, part, run_underlying u3, run_underlying u9, run_equalIn_int w 9998 3 .i64 .i64 _ _ u3, run_equalIn_string w 9998 9 _ _ u9]
  unfold sameV
  by_cases h1 : x.k = y.k <;> by_cases h2 : x.n = y.n <;> by_cases h3 : x.t.toList = y.t.toList <;> simp [h1, h2, h3]
theorem eqlS_of (o1 o2 : Operand) (x y : Val) (w : World) : Sem.run Tryz.prog (binOp .eql 56 (vv x) (vv y)) w = .ok (.bool (sameV x y)) w := by
 have h := eqvS_run o1 o2 x y w
 unfold vv at h ⊢
 rw [Sem.run_bind, run_eqGuard_agg w .eql 56 o1 o2 _ _ (by kernel_rfl)] at h
 simpa only [Result.andThen_ok] using h
theorem nevS_run (o1 o2 : Operand) (x y : Val) (w : World) : Sem.run Tryz.prog (do
      eqGuard .neq 56 o1 o2 (vv x) (vv y)
      binOp .neq 56 (vv x) (vv y)) w = .ok (.bool (!sameV x y)) w := by
  have h := eqlS_of o1 o2 x y w
  unfold vv at h ⊢
  rw [Sem.run_bind, run_eqGuard_agg w .neq 56 o1 o2 _ _ (by kernel_rfl)]
  simp only [Result.andThen_ok]
  unfold binOp at h ⊢
  simp only [Sem.run_bind] at h ⊢
  cases hr : Sem.run Tryz.prog (Op.equal 56 (Value.agg #[Value.int IntKind.i64 x.k, Value.int IntKind.i64 x.n, Value.string x.t]) (Value.agg #[Value.int IntKind.i64 y.k, Value.int IntKind.i64 y.n, Value.string y.t])) w with
  | ok b w' =>
    rw [hr] at h
    simp only [Result.andThen_ok, Sem.run_pure, Result.ok.injEq, Value.bool.injEq] at h
    obtain ⟨rfl, rfl⟩ := h
    simp
  | _ => rw [hr] at h; simp [Result.andThen] at h
theorem samesteps_spec (r : List Val) (b1 b2 : Option Addr) (c1 c2 : Nat) (V : View) (h1 : ValsAt V r b1) (h2 : ValsAt V r b2) :
  PSpec 19 [.slice b1 r.length c1, .slice b2 r.length c2] V (fun v _ => v = .bool true) := by
 have hlen := h1.len
 refine does_of_zfun [(6, [(0, []), (1, []), (2, []), (3, []), (4, []), (5, []), (6, []), (7, []), (8, [])])] mixed (args := [.v _, .v _]) (ms := []) Tryz.func19 (by kernel_rfl) rfl ?_; conv => whnf
 refine br_f (by simp) ?_; conv => whnf
 refine loopz (σ := Nat) (fun i => [(0, .v (.slice b1 r.length c1)), (1, .v (.slice b2 r.length c2)), (5, .v (.int .i64 i))]) (fun _ => []) (fun j i V' => V.le V' ∧ i ≤ r.length ∧ r.length - i = j) r.length 0 ?_ ?_ ?_ ?_
 ·repeat' (first | exact sees_nil | refine sees_cons rfl rfl rfl ?_)
 ·exact keeps_nil
 ·exact ⟨View.le_refl _, Nat.zero_le _, rfl⟩
 rintro j i V' ⟨hV, hi, hj⟩
 conv => whnf
 apply br <;> intro h3 <;> conv => whnf
 ·have hi1 : i < r.length := by simpa using h3
  obtain ⟨x, hx⟩ : ∃ x, r[i]? = some x := ⟨_, List.getElem?_eq_getElem hi1⟩
  obtain ⟨p, off, hb, hh⟩ := h1.at hx
  obtain ⟨q, off2, hb2, hh2⟩ := h2.at hx
  subst hb; subst hb2
  refine IdxN.of (by omega) (by omega) ?_; conv => whnf
  refine LoadN.of (hh.mono le_auto) 0 rfl rfl ?_; conv => whnf
  refine IdxN.of (by omega) (by omega) ?_; conv => whnf
  refine LoadN.of (hh2.mono le_auto) 0 rfl rfl ?_; conv => whnf
  refine ⟨⟨_, nevS_run _ _ x x, ?_⟩⟩
  conv => whnf
  have hsame : (!sameV x x) = false := by rw [sameV_self]; rfl
  refine br_f hsame ?_; conv => whnf
  refine ⟨j - 1, i + 1, by omega, ?_, keeps_nil, hV, hi1, by omega⟩
  have hw := wrap_big hi1 hlen
  repeat' (first | exact sees_nil | refine sees_cons rfl rfl rfl ?_ | refine sees_cons rfl rfl (by rw [← hw]; rfl) ?_)
 ·repeat' ((first | refine br_t rfl ?_ | refine br_f rfl ?_ | refine IdxN.lit rfl rfl ?_ | intro _); conv => whnf)
  exact ret_pure rfl
set_option maxHeartbeats 400000 in
theorem light_spec (l : List Val) (base : Option Addr) (cap m : Nat) (V : View) (h : ValsAt V l base) (hm : m ≤ 1000) :
  PSpec 14 [.slice base l.length cap, .int .i64 m] V (fun v _ => ∃ b, v = .bool b ∧ (b = true → l.length ≤ m ∧ ∀ x ∈ l, x.t.size ≤ 500)) := by
 refine does_of_zfun [] mixed (args := [.v _, .v _]) (ms := []) Tryz.func14 (by kernel_rfl) rfl ?_; conv => whnf
 apply br <;> intro h3 <;> conv => whnf
 ·repeat' ((first | refine br_t rfl ?_ | refine br_f rfl ?_ | refine IdxN.lit rfl rfl ?_ | intro _); conv => whnf)
  exact ret_pure ⟨false, rfl, fun h => by cases h⟩
 have h3 : l.length ≤ m := by have := of_decide_eq_false h3; omega
 refine loopz (σ := Nat) (fun i => [(0, .v (.slice base l.length cap)), (5, .v (.int .i64 i))]) (fun _ => []) (fun j i V' => V.le V' ∧ i ≤ l.length ∧ l.length - i = j ∧ ∀ (k : Nat) (x : Val), k < i → l[k]? = some x → x.t.size ≤ 500) l.length 0 ?_ ?_ ?_ ?_
 ·repeat' (first | exact sees_nil | refine sees_cons rfl rfl rfl ?_)
 ·exact keeps_nil
 ·exact ⟨View.le_refl _, Nat.zero_le _, rfl, fun k r hk => absurd hk (Nat.not_lt_zero _)⟩
 rintro j i V' ⟨hV, hi, hj, hall⟩
 conv => whnf
 apply br <;> intro h5 <;> conv => whnf
 ·have h5 : i < l.length := by have := of_decide_eq_true h5; omega
  obtain ⟨x, hx⟩ : ∃ x, l[i]? = some x := ⟨_, List.getElem?_eq_getElem h5⟩
  obtain ⟨p, off, hb, hh⟩ := h.at hx
  subst hb
  refine IdxN.of (by omega) (by omega) ?_; conv => whnf
  refine LoadN.of (hh.mono le_auto) 2 rfl rfl ?_; conv => whnf
  apply br <;> intro h6 <;> conv => whnf
  ·repeat' ((first | refine br_t rfl ?_ | refine br_f rfl ?_ | refine IdxN.lit rfl rfl ?_ | intro _); conv => whnf)
   exact ret_pure ⟨false, rfl, fun h => by cases h⟩
  have h6 : x.t.size ≤ 500 := by have := of_decide_eq_false h6; omega
  repeat' ((first | refine br_t rfl ?_ | refine br_f rfl ?_ | refine IdxN.lit rfl rfl ?_ | intro _); conv => whnf)
  have hw := wrap_nat (i := i) (by omega)
  refine ⟨j - 1, i + 1, by omega, ?_, keeps_nil, hV, h5, by omega, fun k y hk hy => ?_⟩
  ·repeat' (first | exact sees_nil | refine sees_cons rfl rfl rfl ?_ | refine sees_cons rfl rfl (by rw [← hw]; rfl) ?_)
  ·by_cases hki : k < i
   ·exact hall k y hki hy
   ·obtain rfl : k = i := by omega
    rw [hx] at hy
    cases hy
    exact h6
 ·have h5 : ¬ i < l.length := by have := of_decide_eq_false h5; omega
  repeat' ((first | refine br_t rfl ?_ | refine br_f rfl ?_ | refine IdxN.lit rfl rfl ?_ | intro _); conv => whnf)
  refine ret_pure ⟨true, rfl, fun _ => ⟨h3, fun x hx => ?_⟩⟩
  obtain ⟨k, hk⟩ := List.mem_iff_getElem?.1 hx
  exact hall k x (by have := (List.getElem?_eq_some_iff.1 hk).1; omega) hk
set_option maxHeartbeats 1000000 in
theorem rdecode_spec (bs : List UInt8) (base : Option Addr) (cap : Nat) (V : View) (h : bs.length = 0 ∨ V.cells (.slice base bs.length cap) (u8L bs)) (hc : bs.length ≤ cap) (hl : bs.length ≤ 1000) :
  PSpec 20 [.slice base bs.length cap] V (fun v V' => StepsV (decS bs) v V') := by
 refine does_of_zfun [(5, [(0, []), (1, []), (4, []), (5, []), (2, []), (3, []), (6, []), (7, [])]), (9, [(0, []), (1, []), (2, []), (3, []), (4, []), (5, []), (6, []), (7, [])]), (10, [(0, []), (1, []), (4, []), (5, []), (6, []), (2, []), (3, []), (7, []), (8, [])])] mixed (args := [.v _]) (ms := []) Tryz.func20 (by kernel_rfl) rfl ?_; conv => whnf
 repeat' ((first | refine br_t rfl ?_ | refine br_f rfl ?_ | refine IdxN.lit rfl rfl ?_ | intro _); conv => whnf)
 refine loopz (σ := (List UInt8 × Option Addr × Nat) × List Val × Option Addr × Nat × Bool) (fun z => [(0, .v (.slice z.1.2.1 z.1.1.length z.1.2.2)), (3, .row (cond z.2.2.2.2 24 55))]) (fun z => [(cond z.2.2.2.2 24 55, .row (.slice z.2.2.1 z.2.1.length z.2.2.2.1) 56 3 z.2.1.length)])
  (fun j z V' => V.le V' ∧ (z.1.1.length = 0 ∨ V'.cells (.slice z.1.2.1 z.1.1.length z.1.2.2) (u8L z.1.1)) ∧ z.1.1.length ≤ z.1.2.2 ∧ z.1.1.length = j ∧ z.2.1.length + z.1.1.length ≤ 1000 ∧ decS bs = z.2.1 ++ decS z.1.1 ∧ V'.cells (.slice z.2.2.1 z.2.1.length z.2.2.2.1) (z.2.1.flatMap vcells)) bs.length ((bs, base, cap), [], none, 0, true) ?_ ?_ ?_ ?_
 ·repeat' (first | exact sees_nil | refine sees_cons rfl rfl rfl ?_)
 ·repeat' (first | exact keeps_nil | refine keeps_cons rfl ?_ | refine keeps_free ?_)
 ·exact ⟨View.le_refl _, h, hc, rfl, by simpa using hl, rfl, rfl⟩
 rintro j ⟨⟨r, b1, c1⟩, out, b0, k0, fl⟩ V' ⟨hV, hr, hrc, hj, hn, hd, hxs⟩
 simp only at hr hrc hj hn hd hxs
 cases fl with
 | true =>
  conv => whnf
  apply br <;> intro h3 <;> conv => whnf
  ·have h3 : 0 < r.length := by simpa using h3
   obtain ⟨k, r1, rfl⟩ : ∃ k r1, r = k :: r1 := by
    cases r with
    | nil => simp at h3
    | cons k r1 => exact ⟨k, r1, rfl⟩
   have hr := hr.resolve_left (by simp)
   have hpl := plain_cells hr
   obtain ⟨p, off, hb, hh⟩ := cells_some hr (by simp [u8L])
   subst hb
   refine IdxN.of (by simp) (by simp) ?_; conv => whnf
   refine LoadN.of (hh.mono le_auto) 0 rfl rfl ?_; conv => whnf
   repeat' ((first | refine br_t rfl ?_ | refine br_f rfl ?_ | refine IdxN.lit rfl rfl ?_ | intro _); conv => whnf)
   refine IdxN.of (by simp) (by simp) ?_; conv => whnf
   refine LoadN.of (hh.mono le_auto) 0 rfl rfl ?_; conv => whnf
   repeat' ((first | refine br_t rfl ?_ | refine br_f rfl ?_ | refine IdxN.lit rfl rfl ?_ | intro _); conv => whnf)
   replace hn : out.length + (r1.length + 1) ≤ 1000 := hn
   replace hj : r1.length + 1 = j := hj
   have e1 := sessR_eq k
   generalize IntKind.i64.wrap ((IntKind.u8.wrap ((k.toNat : Int).tdiv 8)).tmod 8) = q at e1 ⊢
   have e2 := tmod8 k.toNat
   apply br <;> intro h4 <;> conv => whnf
   ·have h4 : k.toNat % 8 < 5 := by have := of_decide_eq_true h4; omega
    have hs : step1 (k :: r1) = some (⟨2, q, noText⟩, 1) := by rw [step1_pick h4, e1]
    obtain ⟨o2, hs1, hc2, hl2⟩ := bytes_lo hr hrc 1 1 rfl (by simp)
    refine ⟨⟨_, hs1, ?_⟩⟩
    conv => whnf
    replace hc2 : V'.cells (.slice (some ⟨p, o2, none⟩) r1.length (c1 - 1)) (u8L r1) := hc2
    replace hl2 : r1.length ≤ c1 - 1 := hl2
    repeat' ((first | refine br_t rfl ?_ | refine br_f rfl ?_ | refine IdxN.lit rfl rfl ?_ | intro _); conv => whnf)
    rename_i b5 l5
    refine AppN.to (out.length + 1) rfl (out.flatMap vcells) (vcells ⟨2, q, noText⟩) (hxs.mono le_auto) (flat_vals _) l5.has rfl rfl (by omega) (by decide) fun base' cap' V3 hV3 hc3 => ?_; conv => whnf
    repeat' ((first | refine br_t rfl ?_ | refine br_f rfl ?_ | refine IdxN.lit rfl rfl ?_ | intro _); conv => whnf)
    refine ⟨j - 1, ((r1, some ⟨p, o2, none⟩, c1 - 1), out ++ [⟨2, q, noText⟩], base', cap', true), by subst hj; simp, ?_, ?_, le_auto, .inr (hc2.mono le_auto), hl2, by subst hj; simp, by simp; omega, ?_, ?_⟩
    ·simp only [List.length_append]
     repeat' (first | exact sees_nil | refine sees_cons rfl rfl rfl ?_)
    ·simp only [List.length_append]
     repeat' (first | exact keeps_nil | refine keeps_cons rfl ?_ | refine keeps_free ?_)
    ·show decS bs = (out ++ [_]) ++ decS r1
     rw [hd, decS_some hs]; simp
    ·show V3.cells (.slice base' (out ++ [_]).length cap') ((out ++ [_]).flatMap vcells)
     rw [List.flatMap_append, List.length_append]; simpa using hc3
   ·have h4 : ¬ k.toNat % 8 < 5 := by have := of_decide_eq_false h4; omega
    apply br <;> intro h5 <;> conv => whnf
    ·have h5 : r1 = [] := List.eq_nil_of_length_eq_zero (by have := of_decide_eq_true h5; simp at this; omega)
     subst h5
     have hd : decS bs = out := by rw [hd, decS_none (step1_end h4), List.append_nil]
     repeat' ((first | refine br_t rfl ?_ | refine br_f rfl ?_ | refine IdxN.lit rfl rfl ?_ | intro _); conv => whnf)
     rw [hd]
     exact ret_pure ⟨_, _, rfl, ValsAt.of_cells hxs (by omega)⟩
    have h5 : r1 ≠ [] := by rintro rfl; simp at h5
    obtain ⟨n, r2, rfl⟩ := List.exists_cons_of_ne_nil h5
    have hn8 := UInt8.toNat_lt n
    refine IdxN.of (by simp) (by simp; omega) ?_; conv => whnf
    refine LoadN.of (hh.mono le_auto) 1 rfl rfl ?_; conv => whnf
    repeat' ((first | refine br_t rfl ?_ | refine br_f rfl ?_ | refine IdxN.lit rfl rfl ?_ | intro _); conv => whnf)
    rw [wrap_u8 n]
    have w1 : IntKind.i64.wrap (2 + (n.toNat : Int)) = ((2 + n.toNat : Nat) : Int) := by rw [wrapE]; omega
    rw [w1]
    apply br <;> intro h6 <;> conv => whnf
    ·have h6 : ¬ n.toNat ≤ r2.length := by have := of_decide_eq_true h6; simp at this; omega
     have hd : decS bs = out := by rw [hd, decS_none (step1_long h4 h6), List.append_nil]
     repeat' ((first | refine br_t rfl ?_ | refine br_f rfl ?_ | refine IdxN.lit rfl rfl ?_ | intro _); conv => whnf)
     rw [hd]
     exact ret_pure ⟨_, _, rfl, ValsAt.of_cells hxs (by omega)⟩
    have h6 : n.toNat ≤ r2.length := by have := of_decide_eq_false h6; simp at this; omega
    repeat' ((first | refine br_t rfl ?_ | refine br_f rfl ?_ | refine IdxN.lit rfl rfl ?_ | intro _); conv => whnf)
    refine IdxN.of (by simp) (by simp; omega) ?_; conv => whnf
    refine LoadN.of (hh.mono le_auto) 1 rfl rfl ?_; conv => whnf
    repeat' ((first | refine br_t rfl ?_ | refine br_f rfl ?_ | refine IdxN.lit rfl rfl ?_ | intro _); conv => whnf)
    rw [wrap_u8 n]
    rw [w1]
    obtain ⟨o3, hs3, hc3, hl3⟩ := bytes_lh hr hrc 2 ((2 + n.toNat : Nat) : Int) 2 (2 + n.toNat) rfl rfl (by omega) (by simp; omega)
    have e5 : List.take (2 + n.toNat - 2) (List.drop 2 (k :: n :: r2)) = r2.take n.toNat := by rw [Nat.add_sub_cancel_left]; rfl
    rw [e5] at hc3 hl3
    refine ⟨⟨_, hs3, ?_⟩⟩
    conv => whnf
    refine LoadN.str _ hc3 hl3 ?_
    rw [strOf_of]
    conv => whnf
    repeat' ((first | refine br_t rfl ?_ | refine br_f rfl ?_ | refine IdxN.lit rfl rfl ?_ | intro _); conv => whnf)
    obtain ⟨o4, hs4, hc4, hl4⟩ := bytes_lo hr hrc ((2 + n.toNat : Nat) : Int) (2 + n.toNat) rfl (by simp; omega)
    refine ⟨⟨_, hs4, ?_⟩⟩
    conv => whnf
    have e6 : List.drop (2 + n.toNat) (k :: n :: r2) = r2.drop n.toNat := by rw [Nat.add_comm]; rfl
    rw [e6] at hc4 hl4
    rw [e6]
    have hs : step1 (k :: n :: r2) = some (⟨1, q, textOf (r2.take n.toNat)⟩, 2 + n.toNat) := by rw [step1_say h4 h6, e1]
    have hdl : (r2.drop n.toNat).length + n.toNat = r2.length := by rw [List.length_drop]; omega
    repeat' ((first | refine br_t rfl ?_ | refine br_f rfl ?_ | refine IdxN.lit rfl rfl ?_ | intro _); conv => whnf)
    replace hn : out.length + (r2.length + 2) ≤ 1000 := hn
    replace hj : r2.length + 2 = j := hj
    rename_i b5 l5
    refine AppN.to (out.length + 1) rfl (out.flatMap vcells) (vcells ⟨1, q, textOf (r2.take n.toNat)⟩) (hxs.mono le_auto) (flat_vals _) l5.has rfl rfl (by omega) (by decide) fun base' cap' V3 hV3 hc5 => ?_; conv => whnf
    repeat' ((first | refine br_t rfl ?_ | refine br_f rfl ?_ | refine IdxN.lit rfl rfl ?_ | intro _); conv => whnf)
    refine ⟨(r2.drop n.toNat).length, ((r2.drop n.toNat, some ⟨p, o4, none⟩, c1 - (2 + n.toNat)), out ++ [⟨1, q, textOf (r2.take n.toNat)⟩], base', cap', false), by omega, ?_, ?_, le_auto, .inr (hc4.mono le_auto), hl4, rfl, ?_, ?_, ?_⟩
    ·simp only [List.length_append]
     repeat' (first | exact sees_nil | refine sees_cons rfl rfl rfl ?_)
    ·simp only [List.length_append]
     repeat' (first | exact keeps_nil | refine keeps_cons rfl ?_ | refine keeps_free ?_)
    ·show (out ++ [_]).length + (r2.drop n.toNat).length ≤ 1000
     rw [List.length_append]
     show out.length + 1 + _ ≤ 1000
     omega
    ·show decS bs = (out ++ [_]) ++ decS (r2.drop n.toNat)
     rw [hd, decS_some hs, e6]
     simp
    ·show V3.cells (.slice base' (out ++ [_]).length cap') ((out ++ [_]).flatMap vcells)
     rw [List.flatMap_append, List.length_append]; simpa using hc5
  ·have h3 : r = [] := List.eq_nil_of_length_eq_zero (by simpa using h3)
   subst h3
   have hd : decS bs = out := by rw [hd, decS_none rfl, List.append_nil]
   repeat' ((first | refine br_t rfl ?_ | refine br_f rfl ?_ | refine IdxN.lit rfl rfl ?_ | intro _); conv => whnf)
   rw [hd]
   exact ret_pure ⟨_, _, rfl, ValsAt.of_cells hxs (by omega)⟩
 | false =>
  conv => whnf
  apply br <;> intro h3 <;> conv => whnf
  ·have h3 : 0 < r.length := by simpa using h3
   obtain ⟨k, r1, rfl⟩ : ∃ k r1, r = k :: r1 := by
    cases r with
    | nil => simp at h3
    | cons k r1 => exact ⟨k, r1, rfl⟩
   have hr := hr.resolve_left (by simp)
   have hpl := plain_cells hr
   obtain ⟨p, off, hb, hh⟩ := cells_some hr (by simp [u8L])
   subst hb
   refine IdxN.of (by simp) (by simp) ?_; conv => whnf
   refine LoadN.of (hh.mono le_auto) 0 rfl rfl ?_; conv => whnf
   repeat' ((first | refine br_t rfl ?_ | refine br_f rfl ?_ | refine IdxN.lit rfl rfl ?_ | intro _); conv => whnf)
   refine IdxN.of (by simp) (by simp) ?_; conv => whnf
   refine LoadN.of (hh.mono le_auto) 0 rfl rfl ?_; conv => whnf
   repeat' ((first | refine br_t rfl ?_ | refine br_f rfl ?_ | refine IdxN.lit rfl rfl ?_ | intro _); conv => whnf)
   replace hn : out.length + (r1.length + 1) ≤ 1000 := hn
   replace hj : r1.length + 1 = j := hj
   have e1 := sessR_eq k
   generalize IntKind.i64.wrap ((IntKind.u8.wrap ((k.toNat : Int).tdiv 8)).tmod 8) = q at e1 ⊢
   have e2 := tmod8 k.toNat
   apply br <;> intro h4 <;> conv => whnf
   ·have h4 : k.toNat % 8 < 5 := by have := of_decide_eq_true h4; omega
    have hs : step1 (k :: r1) = some (⟨2, q, noText⟩, 1) := by rw [step1_pick h4, e1]
    obtain ⟨o2, hs1, hc2, hl2⟩ := bytes_lo hr hrc 1 1 rfl (by simp)
    refine ⟨⟨_, hs1, ?_⟩⟩
    conv => whnf
    replace hc2 : V'.cells (.slice (some ⟨p, o2, none⟩) r1.length (c1 - 1)) (u8L r1) := hc2
    replace hl2 : r1.length ≤ c1 - 1 := hl2
    repeat' ((first | refine br_t rfl ?_ | refine br_f rfl ?_ | refine IdxN.lit rfl rfl ?_ | intro _); conv => whnf)
    rename_i b5 l5
    refine AppN.to (out.length + 1) rfl (out.flatMap vcells) (vcells ⟨2, q, noText⟩) (hxs.mono le_auto) (flat_vals _) l5.has rfl rfl (by omega) (by decide) fun base' cap' V3 hV3 hc3 => ?_; conv => whnf
    repeat' ((first | refine br_t rfl ?_ | refine br_f rfl ?_ | refine IdxN.lit rfl rfl ?_ | intro _); conv => whnf)
    refine ⟨j - 1, ((r1, some ⟨p, o2, none⟩, c1 - 1), out ++ [⟨2, q, noText⟩], base', cap', true), by subst hj; simp, ?_, ?_, le_auto, .inr (hc2.mono le_auto), hl2, by subst hj; simp, by simp; omega, ?_, ?_⟩
    ·simp only [List.length_append]
     repeat' (first | exact sees_nil | refine sees_cons rfl rfl rfl ?_)
    ·simp only [List.length_append]
     repeat' (first | exact keeps_nil | refine keeps_cons rfl ?_ | refine keeps_free ?_)
    ·show decS bs = (out ++ [_]) ++ decS r1
     rw [hd, decS_some hs]; simp
    ·show V3.cells (.slice base' (out ++ [_]).length cap') ((out ++ [_]).flatMap vcells)
     rw [List.flatMap_append, List.length_append]; simpa using hc3
   ·have h4 : ¬ k.toNat % 8 < 5 := by have := of_decide_eq_false h4; omega
    apply br <;> intro h5 <;> conv => whnf
    ·have h5 : r1 = [] := List.eq_nil_of_length_eq_zero (by have := of_decide_eq_true h5; simp at this; omega)
     subst h5
     have hd : decS bs = out := by rw [hd, decS_none (step1_end h4), List.append_nil]
     repeat' ((first | refine br_t rfl ?_ | refine br_f rfl ?_ | refine IdxN.lit rfl rfl ?_ | intro _); conv => whnf)
     rw [hd]
     exact ret_pure ⟨_, _, rfl, ValsAt.of_cells hxs (by omega)⟩
    have h5 : r1 ≠ [] := by rintro rfl; simp at h5
    obtain ⟨n, r2, rfl⟩ := List.exists_cons_of_ne_nil h5
    have hn8 := UInt8.toNat_lt n
    refine IdxN.of (by simp) (by simp; omega) ?_; conv => whnf
    refine LoadN.of (hh.mono le_auto) 1 rfl rfl ?_; conv => whnf
    repeat' ((first | refine br_t rfl ?_ | refine br_f rfl ?_ | refine IdxN.lit rfl rfl ?_ | intro _); conv => whnf)
    rw [wrap_u8 n]
    have w1 : IntKind.i64.wrap (2 + (n.toNat : Int)) = ((2 + n.toNat : Nat) : Int) := by rw [wrapE]; omega
    rw [w1]
    apply br <;> intro h6 <;> conv => whnf
    ·have h6 : ¬ n.toNat ≤ r2.length := by have := of_decide_eq_true h6; simp at this; omega
     have hd : decS bs = out := by rw [hd, decS_none (step1_long h4 h6), List.append_nil]
     repeat' ((first | refine br_t rfl ?_ | refine br_f rfl ?_ | refine IdxN.lit rfl rfl ?_ | intro _); conv => whnf)
     rw [hd]
     exact ret_pure ⟨_, _, rfl, ValsAt.of_cells hxs (by omega)⟩
    have h6 : n.toNat ≤ r2.length := by have := of_decide_eq_false h6; simp at this; omega
    repeat' ((first | refine br_t rfl ?_ | refine br_f rfl ?_ | refine IdxN.lit rfl rfl ?_ | intro _); conv => whnf)
    refine IdxN.of (by simp) (by simp; omega) ?_; conv => whnf
    refine LoadN.of (hh.mono le_auto) 1 rfl rfl ?_; conv => whnf
    repeat' ((first | refine br_t rfl ?_ | refine br_f rfl ?_ | refine IdxN.lit rfl rfl ?_ | intro _); conv => whnf)
    rw [wrap_u8 n]
    rw [w1]
    obtain ⟨o3, hs3, hc3, hl3⟩ := bytes_lh hr hrc 2 ((2 + n.toNat : Nat) : Int) 2 (2 + n.toNat) rfl rfl (by omega) (by simp; omega)
    have e5 : List.take (2 + n.toNat - 2) (List.drop 2 (k :: n :: r2)) = r2.take n.toNat := by rw [Nat.add_sub_cancel_left]; rfl
    rw [e5] at hc3 hl3
    refine ⟨⟨_, hs3, ?_⟩⟩
    conv => whnf
    refine LoadN.str _ hc3 hl3 ?_
    rw [strOf_of]
    conv => whnf
    repeat' ((first | refine br_t rfl ?_ | refine br_f rfl ?_ | refine IdxN.lit rfl rfl ?_ | intro _); conv => whnf)
    obtain ⟨o4, hs4, hc4, hl4⟩ := bytes_lo hr hrc ((2 + n.toNat : Nat) : Int) (2 + n.toNat) rfl (by simp; omega)
    refine ⟨⟨_, hs4, ?_⟩⟩
    conv => whnf
    have e6 : List.drop (2 + n.toNat) (k :: n :: r2) = r2.drop n.toNat := by rw [Nat.add_comm]; rfl
    rw [e6] at hc4 hl4
    rw [e6]
    have hs : step1 (k :: n :: r2) = some (⟨1, q, textOf (r2.take n.toNat)⟩, 2 + n.toNat) := by rw [step1_say h4 h6, e1]
    have hdl : (r2.drop n.toNat).length + n.toNat = r2.length := by rw [List.length_drop]; omega
    repeat' ((first | refine br_t rfl ?_ | refine br_f rfl ?_ | refine IdxN.lit rfl rfl ?_ | intro _); conv => whnf)
    replace hn : out.length + (r2.length + 2) ≤ 1000 := hn
    replace hj : r2.length + 2 = j := hj
    rename_i b5 l5
    refine AppN.to (out.length + 1) rfl (out.flatMap vcells) (vcells ⟨1, q, textOf (r2.take n.toNat)⟩) (hxs.mono le_auto) (flat_vals _) l5.has rfl rfl (by omega) (by decide) fun base' cap' V3 hV3 hc5 => ?_; conv => whnf
    repeat' ((first | refine br_t rfl ?_ | refine br_f rfl ?_ | refine IdxN.lit rfl rfl ?_ | intro _); conv => whnf)
    refine ⟨(r2.drop n.toNat).length, ((r2.drop n.toNat, some ⟨p, o4, none⟩, c1 - (2 + n.toNat)), out ++ [⟨1, q, textOf (r2.take n.toNat)⟩], base', cap', false), by omega, ?_, ?_, le_auto, .inr (hc4.mono le_auto), hl4, rfl, ?_, ?_, ?_⟩
    ·simp only [List.length_append]
     repeat' (first | exact sees_nil | refine sees_cons rfl rfl rfl ?_)
    ·simp only [List.length_append]
     repeat' (first | exact keeps_nil | refine keeps_cons rfl ?_ | refine keeps_free ?_)
    ·show (out ++ [_]).length + (r2.drop n.toNat).length ≤ 1000
     rw [List.length_append]
     show out.length + 1 + _ ≤ 1000
     omega
    ·show decS bs = (out ++ [_]) ++ decS (r2.drop n.toNat)
     rw [hd, decS_some hs, e6]
     simp
    ·show V3.cells (.slice base' (out ++ [_]).length cap') ((out ++ [_]).flatMap vcells)
     rw [List.flatMap_append, List.length_append]; simpa using hc5
  ·have h3 : r = [] := List.eq_nil_of_length_eq_zero (by simpa using h3)
   subst h3
   have hd : decS bs = out := by rw [hd, decS_none rfl, List.append_nil]
   repeat' ((first | refine br_t rfl ?_ | refine br_f rfl ?_ | refine IdxN.lit rfl rfl ?_ | intro _); conv => whnf)
   rw [hd]
   exact ret_pure ⟨_, _, rfl, ValsAt.of_cells hxs (by omega)⟩
end Go.Proofs.LB
end
