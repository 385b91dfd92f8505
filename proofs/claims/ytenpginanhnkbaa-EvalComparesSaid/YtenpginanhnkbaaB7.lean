/- One part of a proof: an evaluator of the model, shown right, and contracts that it yields. No condition beyond those that each theorem names. -/
import Derived.Test.YtenpginanhnkbaaB6
import Derived.Laws.StructEq
namespace Go.Proofs.Ytenpginanhnkbaa
open Go.X
set_option maxRecDepth 100000
set_option linter.unusedSimpArgs false

/-- no columns -/
theorem holds0_spec (V : View) : PSpec 22 [.slice none 0 0, .slice none 0 0, .slice none 0 0] V (fun v _ => v = .tuple #[.bool true, .int .i64 0]) := by
  have h47 : ∀ sc V', PSpec 47 [.slice none 0 0, closure sc] V' (fun v _ => v = .tuple #[.slice none 0 0, .int .i64 0]) := fun sc V' => by
    refine pspec [] (args := [.v _, .v _]) Try.func47 (by kernel_rfl) rfl ?_
    conv => whnf
    refine LoopN.unroll 1 ?_
    conv => whnf
    refine br_f rfl ?_
    conv => whnf
    exact ret_pure rfl
  refine pspec [] (args := [.v _, .v _, .v _]) Try.func22 (by kernel_rfl) rfl ?_
  conv => whnf
  refine CallN.pure (h47 _ _) fun v V1 _ hV1 hv => ?_
  subst hv
  conv => whnf
  refine br_f rfl ?_
  conv => whnf
  refine LoopN.unroll 1 ?_
  conv => whnf
  refine br_f rfl ?_
  conv => whnf
  exact ret_pure rfl
theorem col0_spec (tb nm : ByteArray) (V : View) : PSpec 67 [.agg #[.slice none 0 0, .slice none 0 0], .string tb, .string nm] V (fun v _ => v = pairX (v0, 10)) := by
  refine pspec [] (args := [.v _, .v _, .v _]) Try.func67 (by kernel_rfl) rfl ?_
  conv => whnf
  intro b1
  conv => whnf
  intro b2
  conv => whnf
  refine ⟨⟨.int .i64 0, fun w => rfl, ?_⟩⟩
  conv => whnf
  refine LoopN.unroll 1 ?_
  conv => whnf
  refine br_f rfl ?_
  conv => whnf
  exact ret_pure rfl
theorem at0_spec (x : XC) (V : View) : PSpec 43 [.slice none 0 0, .int .i64 0, xagg x] V (fun v _ => v = .tuple #[.int .i64 (-1), .int .i64 10]) := by
  refine pspec [(5, [(0, []), (1, []), (2, []), (3, []), (4, []), (5, []), (6, []), (7, []), (8, []), (9, []), (10, []), (11, []), (12, []), (13, []), (14, []), (15, []), (16, []), (17, []), (18, []), (19, []), (20, []), (21, []), (22, [])])] (args := [.v _, .v _, .v _]) Try.func43 (by kernel_rfl) rfl ?_
  conv => whnf
  intro b1
  conv => whnf
  refine LoopN.unroll 1 ?_
  conv => whnf
  refine ⟨⟨.int .i64 0, fun w => rfl, ?_⟩⟩
  conv => whnf
  refine br_f rfl ?_
  conv => whnf
  refine br_t rfl ?_
  conv => whnf
  exact ret_pure rfl
theorem rcol0_spec (x : XC) (hx : x.op = 2) (V : View) : PSpec 21 [.slice none 0 0, .slice none 0 0, xagg x] V (fun v _ => v = pairX (v0, 10)) := by
  obtain ⟨xop, xv, xtb, xnm, xbase, xlen, xcap⟩ := x
  simp only at hx
  subst hx
  refine pspec [] (args := [.v _, .v _, .v _]) Try.func21 (by kernel_rfl) rfl ?_
  conv => whnf
  intro b1
  conv => whnf
  intro b2
  conv => whnf
  refine br_f rfl ?_
  conv => whnf
  refine br_t rfl ?_
  conv => whnf
  refine CallN.pure (at0_spec ⟨2, xv, xtb, xnm, xbase, xlen, xcap⟩ _) fun v V1 _ hV1 hv => ?_
  subst hv
  conv => whnf
  refine br_t rfl ?_
  conv => whnf
  exact ret_pure rfl
def col0 (_ _ : ByteArray) : Val × Int := (v0, 10)
def cmp0 (a b : Val) : Int := cmpI a.n b.n
def ok0 (a b : Val) : Prop := a.k = 1 ∧ b.k = 1
theorem Eval0_spec (e : E) (x : XC) (V : View) (hok : e.ok) (hr : RepE V e x) : PSpec 20 [.slice none 0 0, .slice none 0 0, xagg x] V (fun v _ => v = pairX (evalX col0 e)) :=
  Eval_spec none none 0 0 0 0 col0 (fun _ _ => v0_inR) e x V hok hr (fun tb nm V' _ => col0_spec tb nm V')
theorem ref0_spec (e : E) (x : XC) (V : View) (hok : e.ok) (hf : e.fine ok0 cmp0 col0) (hr : RepE V e x) : PSpec 21 [.slice none 0 0, .slice none 0 0, xagg x] V (fun v _ => v = pairX (refX cmp0 col0 e)) :=
  ref_spec _ _ ok0 cmp0 col0 (fun _ _ => v0_inR) (fun a b V' h => rcmp_spec a b h.1 h.2 V') e x V hok hf hr (fun x V' _ hx => rcol0_spec x hx V')
def litX (v : Val) : XC := ⟨1, v, noText, noText, none, 0, 0⟩
theorem begun_spec (V : View) : PSpec 14 [] V (fun v _ => v = .bool true) := by
  refine pspec [] (args := []) Try.func14 (by kernel_rfl) rfl ?_
  conv => whnf
  intro b1
  conv => whnf
  intro b2 V1 hV1 h1
  conv => whnf
  refine CallN.pure (Eval0_spec (.bin 5 (.lit ⟨1, 1, noText⟩) (.lit ⟨1, 1, noText⟩)) ⟨5, v0, noText, noText, some ⟨b2, 0, none⟩, 2, 2⟩ _ ⟨⟨by decide, by decide⟩, ⟨by decide, by decide⟩⟩
    ⟨rfl, by decide, rfl, b2, 0, litX ⟨1, 1, noText⟩, litX ⟨1, 1, noText⟩, rfl, h1, ⟨rfl, rfl⟩, ⟨rfl, rfl⟩⟩) fun v V2 _ hV2 hv => ?_
  subst hv
  conv => whnf
  intro b3
  conv => whnf
  refine CallN.pure (holds0_spec _) fun v V3 _ hV3 hv => ?_
  subst hv
  conv => whnf
  refine br_t rfl ?_
  conv => whnf
  refine br_t rfl ?_
  conv => whnf
  refine br_t rfl ?_
  conv => whnf
  refine br_t rfl ?_
  conv => whnf
  exact ret_pure rfl
def sameV (x y : Val) : Bool := x.k == y.k && (x.n == y.n && x.t.toList == y.t.toList)
theorem fields38 : (Try.prog.fieldsOf 38).toList.map (fun f => (f.name != "_", f.type, f.offset)) = [(true, 3, 0), (true, 2, 1), (true, 9, 2)] := by kernel_rfl
theorem eqv_run (o1 o2 : Operand) (x y : Val) (w : World) : Sem.run Try.prog (do
      eqGuard .eql 38 o1 o2 (vv x) (vv y)
      binOp .eql 38 (vv x) (vv y)) w = .ok (.bool (sameV x y)) w := by
  unfold vv
  rw [Sem.run_bind, run_eqGuard_agg w .eql 38 o1 o2 _ _ (by kernel_rfl)]
  simp only [Result.andThen_ok]
  rw [run_eql_struct, run_equalIn_struct w 9999 38 _ _ (by kernel_rfl) (by kernel_rfl)]
  have h := fields38
  generalize (Try.prog.fieldsOf 38).toList = l at h
  rcases l with _ | ⟨f, _ | ⟨g, _ | ⟨i, _ | ⟨j, l⟩⟩⟩⟩ <;> simp only [List.map_cons, List.map_nil, List.cons.injEq, List.cons_ne_nil, List.ne_cons_self, reduceCtorEq, and_false, false_and] at h
  simp only [List.map_cons, List.map_nil, List.cons.injEq, Prod.mk.injEq, and_true, bne_iff_ne, ne_eq] at h
  obtain ⟨⟨hf1, hf2, hf3⟩, ⟨hg1, hg2, hg3⟩, hi1, hi2, hi3⟩ := h
  have u3 : Try.prog.underlying 3 = some (.int .i64) := by kernel_rfl
  have u2 : Try.prog.underlying 2 = some (.int .i64) := by kernel_rfl
  have u9 : Try.prog.underlying 9 = some .string := by kernel_rfl
  simp [Op.eqFields, hf1, hf2, hf3, hg1, hg2, hg3, hi1, hi2, hi3, part, run_underlying u3, run_underlying u2, run_underlying u9, run_equalIn_int w 9998 3 .i64 .i64 _ _ u3, run_equalIn_int w 9998 2 .i64 .i64 _ _ u2, run_equalIn_string w 9998 9 _ _ u9]
  unfold sameV
  by_cases h1 : x.k = y.k <;> by_cases h2 : x.n = y.n <;> by_cases h3 : x.t.toList = y.t.toList <;> simp [h1, h2, h3]
theorem less_self : ∀ l : List UInt8, Op.bytesLess l l = false
  | [] => rfl
  | a :: l => by simp [Op.bytesLess, less_self l]
theorem cmpS_self (t : ByteArray) : cmpS t t = 0 := by simp [cmpS, less_self]
/-- EvalNumbers says true -/
theorem numbers_spec (a b op : Int) (ha : InR a) (hb : InR b) (hop : 0 ≤ op ∧ op ≤ 255) (V : View) : PSpec 4 [.int .i64 a, .int .i64 b, .int .u8 op] V (fun v _ => v = .bool true) := by
  refine pspec [] (args := [.v _, .v _, .v _]) Try.func4 (by kernel_rfl) rfl ?_
  conv => whnf
  refine CallN.pure (begun_spec _) fun v V1 _ hV1 hv => ?_
  subst hv
  conv => whnf
  refine br_f rfl ?_
  conv => whnf
  intro b1
  conv => whnf
  intro b2
  conv => whnf
  intro b3 V2 hV2 h2
  conv => whnf
  intro b4
  conv => whnf
  have hq : ∃ q : Int, q = IntKind.i64.wrap (5 + IntKind.i64.wrap (op.tmod 9)) ∧ 5 ≤ q ∧ q ≤ 13 := ⟨_, rfl, by
    rw [Int.tmod_eq_emod_of_nonneg hop.1, wrapE, wrapE]; omega⟩
  obtain ⟨q, hq, h5⟩ := hq
  refine CallN.pure (Eval0_spec (.bin q (.lit ⟨1, a, noText⟩) (.lit ⟨1, b, noText⟩)) ⟨IntKind.i64.wrap (5 + IntKind.i64.wrap (op.tmod 9)), v0, noText, noText, some ⟨b3, 0, none⟩, 2, 2⟩ _ ⟨ha, hb⟩
    ⟨hq.symm, ⟨h5.1, by omega⟩, rfl, b3, 0, litX ⟨1, a, noText⟩, litX ⟨1, b, noText⟩, rfl, h2, ⟨rfl, rfl⟩, ⟨rfl, rfl⟩⟩) fun v V3 _ hV3 hv => ?_
  subst hv
  conv => whnf
  intro b5
  conv => whnf
  refine CallN.pure (ref0_spec (.bin q (.lit ⟨1, a, noText⟩) (.lit ⟨1, b, noText⟩)) ⟨IntKind.i64.wrap (5 + IntKind.i64.wrap (op.tmod 9)), v0, noText, noText, some ⟨b3, 0, none⟩, 2, 2⟩ _ ⟨ha, hb⟩ ⟨trivial, trivial, fun _ => ⟨rfl, rfl⟩⟩
    ⟨hq.symm, ⟨h5.1, by omega⟩, rfl, b3, 0, litX ⟨1, a, noText⟩, litX ⟨1, b, noText⟩, rfl, h2.mono hV3, ⟨rfl, rfl⟩, ⟨rfl, rfl⟩⟩) fun v V4 _ hV4 hv => ?_
  subst hv
  conv => whnf
  intro b6
  conv => whnf
  have heq : evalX col0 (.bin q (.lit ⟨1, a, noText⟩) (.lit ⟨1, b, noText⟩)) = refX cmp0 col0 (.bin q (.lit ⟨1, a, noText⟩) (.lit ⟨1, b, noText⟩)) := by
    have hno : ¬ (q = 14 ∨ q = 15) := by omega
    have h14 : ¬ 14 ≤ q := by omega
    simp only [evalX, refX, if_neg hno, twoR, if_neg h14, binX_eq, if_true, ne_eq, not_true_eq_false, if_false]
    rw [if_neg (by omega), if_neg (by omega)]
    congr 1
    show orI (orI (cmpI 1 1) (cmpI a b)) (cmpS noText noText) = cmpI a b
    have : cmpI 1 1 = 0 := by decide
    rw [this]
    unfold orI
    rw [cmpS_self]
    split <;> simp_all
  rw [heq]
  generalize refX cmp0 col0 (.bin q (.lit ⟨1, a, noText⟩) (.lit ⟨1, b, noText⟩)) = r
  refine ⟨⟨_, eqv_run _ _ r.1 r.1, ?_⟩⟩
  conv => whnf
  have hs : sameV r.1 r.1 = true := by simp [sameV]
  refine br_t hs ?_
  conv => whnf
  refine ret_pure ?_
  simp [packVals]
end Go.Proofs.Ytenpginanhnkbaa
