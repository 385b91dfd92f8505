/-
  EvalCompares answers true at every input, and its arguments read afterwards as they did. Conditions: none beyond the row's own.
-/
import Derived.Test.YtenpginanhnkbaaB8
import Derived.Test.YtenpginanhnkbaaXF1
import Derived.Test.YtenpginanhnkbaaRows
import Derived.WalkKit
import Derived.ProofKit
import Derived.OpenShut
import Derived.Lib.SmallJoins
import Derived.ChangeMaps5
namespace Go.Proofs.Ytenpginanhnkbaa.evalCompares
open Go.ChangeShapes Go.WideShapes Go.ChangeAt Go.RowKit Go.X Go.Deep Go.ChangeMaps Go.Joins
set_option linter.unusedVariables false

theorem cells38 : Try.prog.cellsOf 38 = 3 := by kernel_rfl
theorem cells3 : Try.prog.cellsOf 3 = 1 := by kernel_rfl
theorem cells2 : Try.prog.cellsOf 2 = 1 := by kernel_rfl
theorem cells9 : Try.prog.cellsOf 9 = 1 := by kernel_rfl
theorem own : ownKnob Try.prog.godebug = none := by kernel_rfl

theorem inR {a : Int} (h : (Lit.int .i64 a).wf = true) : InR a := by
  simp only [Lit.wf, Bool.and_eq_true, decide_eq_true_eq] at h
  have e1 : IntKind.i64.min = -9223372036854775808 := by decide +kernel
  have e2 : IntKind.i64.max = 9223372036854775807 := by decide +kernel
  rw [e1, e2] at h
  exact h

section
variable {H : Type} {enc : TypeId × Value → H} {w : World} {base : Nat} {sp : Nat → Bool} {held : Bool}
def valD (x : Val) : DataW H := .agg [.lit (.int .i64 x.k), .lit (.int .i64 x.n), .lit (.string x.t.data.toList)]
structure FitV (x : Val) : Prop where
  k : (Lit.int .i64 x.k).wf = true
  n : (Lit.int .i64 x.n).wf = true
  t : x.t.size ≤ maxLen
set_option maxRecDepth 100000 in
theorem open_val {r : Reach} {b0 : Nat} {v : Value} {d : DataW H} {p : List MemPlace} (hv : Value.okWide Try.prog w r b0 38 v) (h : DataW.Trod enc Try.prog w base sp held 38 v d p) :
    ∃ x : Val, v = vv x ∧ d = valD x ∧ p = [] ∧ FitV x := by
  obtain ⟨c0, c1, c2, y0, y1, y2, m, rfl, rfl, rfl, hy0, hy1, hy2⟩ := open_agg3 Try.underlying38 (by kernel_rfl) cells38 hv h
  obtain ⟨k, hk, rfl, wk⟩ := DataW.trod_int Try.underlying3 hy0
  obtain ⟨n, hn, rfl, wn⟩ := DataW.trod_int Try.underlying2 hy1
  obtain ⟨s, hs, rfl, ws⟩ := DataW.trod_string Try.underlying9 hy2
  simp only [List.cons.injEq, and_true] at hk hn hs
  subst hk; subst hn; subst hs
  exact ⟨⟨k, n, s⟩, rfl, rfl, rfl, wk, wn, ws⟩
set_option maxRecDepth 100000 in
theorem shut_val {x : Val} (h : FitV x) : DataW.Trod enc Try.prog w base sp held 38 (vv x) (valD x) [] := by
  have h0 : DataW.trod enc Try.prog w base sp held 1 3 [.int .i64 x.k] = some (.lit (.int .i64 x.k), []) := trod_int_mk 0 Try.underlying3 h.k
  have h1 : DataW.trod enc Try.prog w base sp held 1 2 [.int .i64 x.n] = some (.lit (.int .i64 x.n), []) := trod_int_mk 0 Try.underlying2 h.n
  have h2 : DataW.trod enc Try.prog w base sp held 1 9 [.string x.t] = some (.lit (.string x.t.data.toList), []) := by
    have u9 := Try.underlying9
    have ht := h.t
    simp [DataW.trod, u9, ht]
  exact ⟨2, trod_struct3_mk (cs := vcells x) Try.underlying38 (by rw [cells38]; rfl)
    (by show DataW.trod enc Try.prog w base sp held 1 3 (((vcells x).drop 0).take (Try.prog.cellsOf 3)) = _
        rw [cells3]; exact h0)
    (by show DataW.trod enc Try.prog w base sp held 1 2 (((vcells x).drop 1).take (Try.prog.cellsOf 2)) = _
        rw [cells2]; exact h1)
    (by show DataW.trod enc Try.prog w base sp held 1 9 (((vcells x).drop 2).take (Try.prog.cellsOf 9)) = _
        rw [cells9]; exact h2)⟩
end

theorem walk (a b : Val) (ha : FitV a) (hb : FitV b) (w : World) :
    Calls Try.prog 6 #[vv a, vv b] w fun e w' => e = .returned (.bool true) ∧ Kept (blksOf []) w w' := by
  refine (Does.call (compares_spec a b (inR ha.n) (inR hb.n) (fun _ _ => none)) (w := w) (fun _ _ _ h => by cases h)).mono fun e w' ⟨⟨v, V', bs, he, hv⟩, hk⟩ => ?_
  subst hv
  exact ⟨he, hk⟩

set_option maxRecDepth 100000 in
theorem lifted (os : Os) (started : os.Started) (H : Type) (enc : TypeId × Value → H) :
    ReturnsInHanded {} Try.checked os 6 .any (Rows.evalComparesSpec.pre6 enc Try.prog Try.f6 Rows.evalComparesRow.domain false) (Rows.evalComparesSpec.post enc Try.prog Try.f6 false true false false) := by
  refine returnsInHanded_of_change (C := Try.checked) own started (by kernel_rfl) Try.func6
    (ChangeSpec.witness6 (enc := enc) (C := Try.checked) false ⟨#[], #[.agg #[.int .i64 0, .int .i64 0, .string ⟨#[]⟩], .agg #[.int .i64 0, .int .i64 0, .string ⟨#[]⟩]], []⟩ 8 (by kernel_rfl) (by kernel_rfl) (by kernel_rfl) (by kernel_rfl)) ?_
  intro W base args ds gs before hval0 hW hcnd _
  have hval : ∀ (j : Nat) t v, Try.f6.params[j]? = some t → args[j]? = some v → Value.okWide Try.prog W .any base t v := hval0
  have hW' := hW
  obtain ⟨p, q, hA0, hV, rfl, hfz, hnd⟩ := hW
  have hA : DataW.TrodAll enc Try.prog W 0 (fun _ => true) true Try.f6.params.toList args.toList ds p := hA0
  rw [Try.params6] at hA hval
  obtain ⟨v0, vs0, d0, ds0, p0, q0, hargs, rfl, rfl, h0, r0⟩ := trodAll_cons hA
  obtain ⟨v1, vs1, d1, ds1, p1, q1, rfl, rfl, rfl, h1, r1⟩ := trodAll_cons r0
  obtain ⟨rfl, rfl, rfl⟩ := trodAll_nil r1
  obtain rfl : args = #[v0, v1] := by cases args; simp_all
  obtain ⟨rfl, rfl⟩ := trodVars_none hV
  obtain ⟨x0, rfl, rfl, rfl, w0⟩ := open_val (hval 0 38 v0 rfl rfl) h0
  obtain ⟨x1, rfl, rfl, rfl, w1⟩ := open_val (hval 1 38 v1 rfl rfl) h1
  clear hA0 hval0
  simp only [List.append_nil] at hW'
  refine (walk x0 x1 w0 w1 W).mono fun e W' ⟨he, hg⟩ => ?_
  subst he
  exact ⟨_, rfl, post_kept (pa := []) (pv := []) hW' (fun _ _ _ => (trodAll_cons_mk (shut_bool Try.underlying4 _) trodAll_mk0)) (fun sp _ => (trodAll_cons_mk (shut_val w0) (trodAll_cons_mk (shut_val w1) trodAll_mk0))) (fun _ _ => rfl) rfl
    blks_nil hg (ok_one (by kernel_rfl) rfl (okWide_bool_mk Try.underlying4 _))⟩

theorem over : Rows.evalComparesRow.holds Try.pinned (OpenSpec.ofChange Rows.evalComparesSpec) :=
  OpenClaim.holds_of_wide 6 Try.f6 rfl rfl rfl rfl rfl rfl rfl ⟨rfl, rfl, rfl, rfl, rfl⟩ rfl rfl rfl rfl rfl (by kernel_rfl) Try.func6 (by kernel_rfl)
    (of_decide_eq_true (by kernel_rfl)) (by unfold Func.isWrapper; first | (rw [if_pos (by decide +kernel)]; kernel_rfl) | (rw [if_neg (by decide +kernel)]; exact ⟨rfl, rfl⟩))
    (fun os started H enc _ => lifted os started H enc)

/-- EvalCompares, for every input -/
theorem proved : Rows.EvalComparesSaid :=
  over
end Go.Proofs.Ytenpginanhnkbaa.evalCompares
