/- One part of a proof: an evaluator of the model, shown right, and contracts that it yields. No condition beyond those that each theorem names. -/
import Derived.Test.YtenpginanhnkbaaB2
namespace Go.Proofs.Ytenpginanhnkbaa
open Go.X
set_option maxRecDepth 100000
set_option linter.unusedSimpArgs false

/-! ## expressions, as they lie -/
structure XC where
  op : Int
  v : Val
  tb : ByteArray
  nm : ByteArray
  base : Option Addr
  len : Nat
  cap : Nat
def xcells (x : XC) : List Value := [.int .i64 x.op, .int .i64 x.v.k, .int .i64 x.v.n, .string x.v.t, .string x.tb, .string x.nm, .slice x.base x.len x.cap]
def xagg (x : XC) : Value := .agg #[.int .i64 x.op, .int .i64 x.v.k, .int .i64 x.v.n, .string x.v.t, .string x.tb, .string x.nm, .slice x.base x.len x.cap]
def closure (sc : Value) : Value := .func (.func 42) #[sc] #[]
theorem cells_cut {V : View} {base : Option Addr} {len cap : Nat} {x : Value} {l : List Value} (h : V.cells (.slice base len cap) (x :: l)) : ∃ p off, base = some ⟨p, off, none⟩ ∧ V.has p off (x :: l) := by
  unfold View.cells at h
  split at h
  · rename_i b off _ _ he
    simp only [Value.slice.injEq] at he
    obtain ⟨rfl, rfl, rfl⟩ := he
    exact ⟨b, off, rfl, h⟩
  · cases h
  · exact h.elim
theorem AppN.of {V : View} {mem : Nat → Option Res} {g : Option Nat} {v : Value} {n size bytes m cap : Nat} {base : Option Addr} {K : Value → Nat → View → Prop} (xs news : List Value) (hx : V.cells v xs) (hxl : xs.length = n * size)
    (hn : V.cells (.slice base m cap) news) (hnl : news.length = m * size) (h1 : allOne news = true) (hm : n + m ≤ 100000) (hb : bytes ≤ 100000)
    (k : ∀ base cap V', V.le V' → V'.cells (.slice base (n + m) cap) (xs ++ news) → K (.slice base (n + m) cap) (n + m) V') : AppN V mem g v n size bytes (.slice base m cap) K := by
  refine ⟨⟨xs, news, m, hx, hxl, ⟨_, _, rfl⟩, hn, hnl, allOne_spec h1, Nat.le_trans hm (by decide), ?_, fun v' V' hle hc hv' _ => ?_⟩⟩
  · exact Nat.le_trans (Nat.mul_le_mul hm hb) (by decide)
  · obtain ⟨base', cap', rfl, _⟩ := hv'
    exact k base' cap' V' hle hc

/-- what 'each' hands back, of one -/
def Each1 (r : Val × Int) (v : Value) (V : View) : Prop :=
  if r.2 = 0 then ∃ p off cap, v = .tuple #[.slice (some ⟨p, off, none⟩) 1 cap, .int .i64 0] ∧ V.has p off (vcells r.1) else v = .tuple #[.slice none 0 0, .int .i64 r.2]
theorem each1_spec (sc : Value) (x : XC) (r : Val × Int) (p off cap : Nat) (V : View) (hs : V.has p off (xcells x)) (h : ∀ V', V.le V' → PSpec 42 [sc, xagg x] V' (fun v _ => v = pairX r)) :
    PSpec 47 [.slice (some ⟨p, off, none⟩) 1 cap, closure sc] V (Each1 r) := by
  refine pspec [] (args := [.v _, .v _]) Try.func47 (by kernel_rfl) rfl ?_
  conv => whnf
  refine LoopN.unroll 2 ?_
  conv => whnf
  refine br_t rfl ?_
  conv => whnf
  refine IdxN.of (by decide) (by decide) ?_
  conv => whnf
  refine LoadN.of hs 0 rfl rfl ?_
  conv => whnf
  intro b1
  conv => whnf
  refine CallN.pure (h _ (View.le_refl _)) fun v V1 _ hV hv => ?_
  subst hv
  conv => whnf
  intro b2
  conv => whnf
  apply br <;> intro he <;> conv => whnf
  · refine ret_pure ?_
    have : r.2 ≠ 0 := by simpa using he
    unfold Each1
    rw [if_neg this]
    rfl
  intro b3 V2 hV2 h3
  conv => whnf
  refine AppN.of [] (vcells r.1) rfl rfl h3 rfl rfl (by decide) (by decide) fun base cap V3 hV3 hc => ?_
  obtain ⟨p3, off3, rfl, hc⟩ := cells_cut hc
  conv => whnf
  refine br_f rfl ?_
  conv => whnf
  refine ret_pure ?_
  have : r.2 = 0 := by simpa using he
  unfold Each1
  rw [if_pos this]
  exact ⟨_, _, _, rfl, hc⟩
/-- what 'each' hands back, of two -/
def Each2 (r s : Val × Int) (v : Value) (V : View) : Prop :=
  if r.2 = 0 then (if s.2 = 0 then ∃ p off cap, v = .tuple #[.slice (some ⟨p, off, none⟩) 2 cap, .int .i64 0] ∧ V.has p off (vcells r.1 ++ vcells s.1) else v = .tuple #[.slice none 0 0, .int .i64 s.2]) else v = .tuple #[.slice none 0 0, .int .i64 r.2]
theorem each2_spec (sc : Value) (x y : XC) (r s : Val × Int) (p off cap : Nat) (V : View) (hs : V.has p off (xcells x ++ xcells y)) (h : ∀ V', V.le V' → PSpec 42 [sc, xagg x] V' (fun v _ => v = pairX r))
    (h' : ∀ V', V.le V' → PSpec 42 [sc, xagg y] V' (fun v _ => v = pairX s)) :
    PSpec 47 [.slice (some ⟨p, off, none⟩) 2 cap, closure sc] V (Each2 r s) := by
  refine pspec [] (args := [.v _, .v _]) Try.func47 (by kernel_rfl) rfl ?_
  conv => whnf
  refine LoopN.unroll 3 ?_
  conv => whnf
  refine br_t rfl ?_
  conv => whnf
  refine IdxN.of (by decide) (by decide) ?_
  conv => whnf
  refine LoadN.of hs 0 rfl rfl ?_
  conv => whnf
  intro b1
  conv => whnf
  refine CallN.pure (h _ (View.le_refl _)) fun v V1 _ hV hv => ?_
  subst hv
  conv => whnf
  intro b2
  conv => whnf
  apply br <;> intro he <;> conv => whnf
  · refine ret_pure ?_
    have : r.2 ≠ 0 := by simpa using he
    unfold Each2
    rw [if_neg this]
    rfl
  intro b3 V2 hV2 h3
  conv => whnf
  refine AppN.of [] (vcells r.1) rfl rfl h3 rfl rfl (by decide) (by decide) fun base cap V3 hV3 hc => ?_
  obtain ⟨p3, off3, rfl, hc⟩ := cells_cut hc
  have hle := View.le_trans hV (View.le_trans hV2 hV3)
  conv => whnf
  refine br_t rfl ?_
  conv => whnf
  refine IdxN.of (by decide) (by decide) ?_
  conv => whnf
  refine LoadN.of (hs.mono hle) 7 rfl rfl ?_
  conv => whnf
  intro b4
  conv => whnf
  refine CallN.pure (h' _ hle) fun v V4 _ hV4 hv => ?_
  subst hv
  conv => whnf
  intro b5
  conv => whnf
  apply br <;> intro he2 <;> conv => whnf
  · refine ret_pure ?_
    have h1 : r.2 = 0 := by simpa using he
    have h2 : s.2 ≠ 0 := by simpa using he2
    unfold Each2
    rw [if_pos h1, if_neg h2]
    rfl
  intro b6 V5 hV5 h6
  conv => whnf
  refine AppN.of (vcells r.1) (vcells s.1) (hc.mono (View.le_trans hV4 hV5)) rfl h6 rfl rfl (by decide) (by decide) fun base cap V6 hV6 hc => ?_
  obtain ⟨p6, off6, rfl, hc⟩ := cells_cut hc
  conv => whnf
  refine br_f rfl ?_
  conv => whnf
  refine ret_pure ?_
  have h1 : r.2 = 0 := by simpa using he
  have h2 : s.2 = 0 := by simpa using he2
  unfold Each2
  rw [if_pos h1, if_pos h2]
  exact ⟨_, _, _, rfl, hc⟩
end Go.Proofs.Ytenpginanhnkbaa
