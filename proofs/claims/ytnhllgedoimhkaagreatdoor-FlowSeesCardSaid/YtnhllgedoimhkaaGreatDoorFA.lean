/- One part of a proof: an evaluator of the model, shown right, and contracts that it yields. No condition beyond those that each theorem names. -/
import Derived.Test.YtnhllgedoimhkaaGreatDoorLA
import Derived.Test.YtnhllgedoimhkaaGreatDoorXY
import Derived.OpenShut
set_option linter.unusedSimpArgs false
set_option linter.unusedVariables false
set_option linter.unusedSectionVars false
set_option linter.deprecated false
section
namespace Go.Proofs.LB
open Go.X
set_option maxRecDepth 100000
def InR (a : Int) : Prop := -9223372036854775808 ≤ a ∧ a ≤ 9223372036854775807
structure Val where
 k : Int
 n : Int
 t : ByteArray
deriving DecidableEq
def vv (x : Val) : Value := .agg #[.int .i64 x.k, .int .i64 x.n, .string x.t]
def vcells (x : Val) : List Value := [.int .i64 x.k, .int .i64 x.n, .string x.t]
theorem in_i64 {a : Int} (h : (Lit.int .i64 a).wf = true) : InR a := by
 simp only [Lit.wf, Bool.and_eq_true, decide_eq_true_eq] at h
 have e1 : IntKind.i64.min = -9223372036854775808 := by decide +kernel
 have e2 : IntKind.i64.max = 9223372036854775807 := by decide +kernel
 rw [e1, e2] at h
 exact h
def sameV (x y : Val) : Bool := x.k == y.k && (x.n == y.n && x.t.toList == y.t.toList)
theorem fields38 : (Tryz.prog.fieldsOf 138).toList.map (fun f => (f.name != "_", f.type, f.offset)) = [(true, 3, 0), (true, 2, 1), (true, 9, 2)] := by kernel_rfl
theorem eqv_run (o1 o2 : Operand) (x y : Val) (w : World) : Sem.run Tryz.prog (do
      eqGuard .eql 138 o1 o2 (vv x) (vv y)
      binOp .eql 138 (vv x) (vv y)) w = .ok (.bool (sameV x y)) w := by
  unfold vv
  rw [Sem.run_bind, run_eqGuard_agg w .eql 138 o1 o2 _ _ (by kernel_rfl)]
  simp only [Result.andThen_ok]
  rw [run_eql_struct, run_equalIn_struct w 9999 138 _ _ (by kernel_rfl) (by kernel_rfl)]
  have h := fields38
  generalize (Tryz.prog.fieldsOf 138).toList = l at h
  rcases l with _ | ⟨f, _ | ⟨g, _ | ⟨i, _ | ⟨j, l⟩⟩⟩⟩ <;> simp only [List.map_cons, List.map_nil, List.cons.injEq, List.cons_ne_nil, List.ne_cons_self, reduceCtorEq, and_false, false_and] at h
  simp only [List.map_cons, List.map_nil, List.cons.injEq, Prod.mk.injEq, and_true, bne_iff_ne, ne_eq] at h
  obtain ⟨⟨hf1, hf2, hf3⟩, ⟨hg1, hg2, hg3⟩, hi1, hi2, hi3⟩ := h
  have u3 : Tryz.prog.underlying 3 = some (.int .i64) := by kernel_rfl
  have u2 : Tryz.prog.underlying 2 = some (.int .i64) := by kernel_rfl
  have u9 : Tryz.prog.underlying 9 = some .string := by kernel_rfl
  simp [Op.eqFields, hf1, hf2, hf3, hg1, hg2, hg3, hi1, hi2, hi3, part, run_underlying u3, run_underlying u2, run_underlying u9, run_equalIn_int w 9998 3 .i64 .i64 _ _ u3, run_equalIn_int w 9998 2 .i64 .i64 _ _ u2, run_equalIn_string w 9998 9 _ _ u9]
  unfold sameV
  by_cases h1 : x.k = y.k <;> by_cases h2 : x.n = y.n <;> by_cases h3 : x.t.toList = y.t.toList <;> simp [h1, h2, h3]
theorem eql_of (o1 o2 : Operand) (x y : Val) (w : World) : Sem.run Tryz.prog (binOp .eql 138 (vv x) (vv y)) w = .ok (.bool (sameV x y)) w := by
 have h := eqv_run o1 o2 x y w
 unfold vv at h ⊢
 rw [Sem.run_bind, run_eqGuard_agg w .eql 138 o1 o2 _ _ (by kernel_rfl)] at h
 simpa only [Result.andThen_ok] using h
theorem nev_run (o1 o2 : Operand) (x y : Val) (w : World) : Sem.run Tryz.prog (do
      eqGuard .neq 138 o1 o2 (vv x) (vv y)
      binOp .neq 138 (vv x) (vv y)) w = .ok (.bool (!sameV x y)) w := by
  have h := eql_of o1 o2 x y w
  unfold vv at h ⊢
  rw [Sem.run_bind, run_eqGuard_agg w .neq 138 o1 o2 _ _ (by kernel_rfl)]
  simp only [Result.andThen_ok]
  unfold binOp at h ⊢
  simp only [Sem.run_bind] at h ⊢
  cases hr : Sem.run Tryz.prog (Op.equal 138 (Value.agg #[Value.int IntKind.i64 x.k, Value.int IntKind.i64 x.n, Value.string x.t]) (Value.agg #[Value.int IntKind.i64 y.k, Value.int IntKind.i64 y.n, Value.string y.t])) w with
  | ok b w' =>
    rw [hr] at h
    simp only [Result.andThen_ok, Sem.run_pure, Result.ok.injEq, Value.bool.injEq] at h
    obtain ⟨rfl, rfl⟩ := h
    simp
  | _ => rw [hr] at h; simp [Result.andThen] at h
theorem sameV_self (x : Val) : sameV x x = true := by simp [sameV]
theorem has_flat {α : Type} {f : α → List Value} {n : Nat} (hn : ∀ x, (f x).length = n) {V : View} {p : Nat} : ∀ (l : List α) (off : Nat), V.has p off (l.flatMap f) → ∀ (i : Nat) (x : α), l[i]? = some x → V.has p (off + i * n) (f x)
 | [], off, _, i, x, hx => by simp at hx
 | y :: l, off, h, i, x, hx => by
  rw [List.flatMap_cons] at h
  cases i with
  | zero =>
   simp only [List.getElem?_cons_zero, Option.some.injEq] at hx
   subst hx
   intro j v hj
   rw [Nat.zero_mul, Nat.add_zero]
   refine h j v ?_
   rw [List.getElem?_append_left (List.getElem?_eq_some_iff.1 hj).1]; exact hj
  | succ i =>
   have h2 : V.has p (off + n) (l.flatMap f) := fun j v hj => by
    have := h (n + j) v (by rw [List.getElem?_append_right (by rw [hn]; omega), hn, Nat.add_sub_cancel_left]; exact hj)
    rwa [← Nat.add_assoc] at this
   have := has_flat hn l (off + n) h2 i x (by simpa using hx)
   rw [Nat.succ_mul, Nat.add_comm (i * n) n, ← Nat.add_assoc]
   exact this
theorem flat_len {α : Type} {f : α → List Value} {n : Nat} (hn : ∀ x, (f x).length = n) : ∀ l : List α, (l.flatMap f).length = l.length * n
 | [] => by simp
 | x :: l => by rw [List.flatMap_cons, List.length_append, hn, flat_len hn l, List.length_cons, Nat.succ_mul, Nat.add_comm]
theorem wrap_big {i n : Nat} (h : i < n) (hn : n ≤ 9223372036854775807) : IntKind.i64.wrap ((i : Int) + 1) = ((i + 1 : Nat) : Int) := by rw [wrapE]; omega
structure ValsAt (V : View) (l : List Val) (base : Option Addr) : Prop where
 has : l ≠ [] → ∃ p off, base = some ⟨p, off, none⟩ ∧ V.has p off (l.flatMap vcells)
 len : l.length ≤ 9223372036854775807
theorem ValsAt.mono {V V' : View} {l : List Val} {base : Option Addr} (h : ValsAt V l base) (hV : V.le V') : ValsAt V' l base := ⟨fun hn => by
 obtain ⟨p, off, h1, h2⟩ := h.has hn
 exact ⟨p, off, h1, h2.mono hV⟩, h.len⟩
theorem ValsAt.at {V : View} {l : List Val} {base : Option Addr} (h : ValsAt V l base) {i : Nat} {x : Val} (hx : l[i]? = some x) : ∃ p off, base = some ⟨p, off, none⟩ ∧ V.has p (off + i * 3) (vcells x) := by
 obtain ⟨p, off, h1, h2⟩ := h.has (fun e => by rw [e] at hx; simp at hx)
 exact ⟨p, off, h1, has_flat (n := 3) (fun _ => rfl) l off h2 i x hx⟩
def Plain (base : Option Addr) : Prop := base = none ∨ ∃ p off, base = some ⟨p, off, none⟩
def PlainR (r : List Val) (base : Option Addr) : Prop := r = [] ∨ Plain base
def RowAt (V : View) (r : List Val) (v : Value) : Prop := ∃ base cap, v = .slice base r.length cap ∧ PlainR r base ∧ ValsAt V r base
theorem RowAt.mono {V V' : View} {r : List Val} {v : Value} (h : RowAt V r v) (hV : V.le V') : RowAt V' r v := by
 obtain ⟨base, cap, h1, hp, h2⟩ := h
 exact ⟨base, cap, h1, hp, h2.mono hV⟩
structure CellsAt (V : View) (rows : List (List Val)) (cells : List Value) : Prop where
 len : cells.length = rows.length
 at' : ∀ (i : Nat) (r : List Val) (c : Value), rows[i]? = some r → cells[i]? = some c → RowAt V r c
theorem CellsAt.mono {V V' : View} {rows : List (List Val)} {cells : List Value} (h : CellsAt V rows cells) (hV : V.le V') : CellsAt V' rows cells := ⟨h.len, fun i r c h1 h2 => (h.at' i r c h1 h2).mono hV⟩
theorem CellsAt.nil {V : View} : CellsAt V [] [] := ⟨rfl, fun i r c h => by simp at h⟩
structure RowsAt (V : View) (rows : List (List Val)) (base : Option Addr) : Prop where
 get : ∃ cells, CellsAt V rows cells ∧ (rows ≠ [] → ∃ p off, base = some ⟨p, off, none⟩ ∧ V.has p off cells)
 len : rows.length ≤ 9223372036854775807
theorem RowsAt.mono {V V' : View} {rows : List (List Val)} {base : Option Addr} (h : RowsAt V rows base) (hV : V.le V') : RowsAt V' rows base := by
 refine ⟨?_, h.len⟩
 obtain ⟨cells, h1, h2⟩ := h.get
 refine ⟨cells, h1.mono hV, fun hn => ?_⟩
 obtain ⟨p, off, h3, h4⟩ := h2 hn
 exact ⟨p, off, h3, h4.mono hV⟩
theorem has_one {V : View} {p off : Nat} {l : List Value} (h : V.has p off l) {i : Nat} {c : Value} (hc : l[i]? = some c) : V.has p (off + i) [c] := fun j v hj => by
 cases j with
 | zero =>
  simp only [List.getElem?_cons_zero, Option.some.injEq] at hj
  subst hj
  exact h i _ hc
 | succ j => simp at hj
theorem RowsAt.at {V : View} {rows : List (List Val)} {base : Option Addr} (h : RowsAt V rows base) {i : Nat} {r : List Val} (hr : rows[i]? = some r) :
  ∃ p off c, base = some ⟨p, off, none⟩ ∧ V.has p (off + i) [c] ∧ RowAt V r c := by
 obtain ⟨cells, h1, h2⟩ := h.get
 obtain ⟨p, off, h3, h4⟩ := h2 (fun e => by rw [e] at hr; simp at hr)
 obtain ⟨c, hc⟩ : ∃ c, cells[i]? = some c := ⟨_, List.getElem?_eq_getElem (by rw [h1.len]; exact (List.getElem?_eq_some_iff.1 hr).1)⟩
 exact ⟨p, off, c, h3, has_one h4 hc, h1.at' i r c hr hc⟩
theorem samerow_spec (r : List Val) (b1 b2 : Option Addr) (c1 c2 : Nat) (V : View) (h1 : ValsAt V r b1) (h2 : ValsAt V r b2) :
  PSpec 57 [.slice b1 r.length c1, .slice b2 r.length c2] V (fun v _ => v = .bool true) := by
 have hlen := h1.len
 refine does_of_zfun [(6, [(0, []), (1, []), (2, []), (3, []), (4, []), (5, []), (6, []), (7, []), (8, [])])] mixed (args := [.v _, .v _]) (ms := []) Tryz.func57 (by kernel_rfl) rfl ?_; conv => whnf
 refine br_f (by simp) ?_; conv => whnf
 refine loopz (σ := Nat) (fun i => [(0, .v (.slice b1 r.length c1)), (1, .v (.slice b2 r.length c2)), (5, .v (.int .i64 i))]) (fun _ => []) (fun j i V' => V.le V' ∧ i ≤ r.length ∧ r.length - i = j) r.length 0 ?_ ?_ ?_ ?_
 ·repeat' (first | exact sees_nil | refine sees_cons rfl rfl rfl ?_)
 ·exact keeps_nil
 ·exact ⟨View.le_refl _, Nat.zero_le _, rfl⟩
 rintro j i V' ⟨hV, hi, hj⟩
 conv => whnf
 apply br <;> intro h3 <;> conv => whnf
 ·have hi1 : i < r.length := by simpa using h3
  obtain ⟨x, hx⟩ : ∃ x, r[i]? = some x := ⟨_, List.getElem?_eq_getElem hi1⟩
  obtain ⟨p, off, hb, hh⟩ := h1.at hx
  obtain ⟨q, off2, hb2, hh2⟩ := h2.at hx
  subst hb; subst hb2
  refine IdxN.of (by omega) (by omega) ?_; conv => whnf
  refine LoadN.of (hh.mono le_auto) 0 rfl rfl ?_; conv => whnf
  refine IdxN.of (by omega) (by omega) ?_; conv => whnf
  refine LoadN.of (hh2.mono le_auto) 0 rfl rfl ?_; conv => whnf
  refine ⟨⟨_, nev_run _ _ x x, ?_⟩⟩
  conv => whnf
  have hsame : (!sameV x x) = false := by rw [sameV_self]; rfl
  refine br_f hsame ?_; conv => whnf
  refine ⟨j - 1, i + 1, by omega, ?_, keeps_nil, hV, hi1, by omega⟩
  have hw := wrap_big hi1 hlen
  repeat' (first | exact sees_nil | refine sees_cons rfl rfl rfl ?_ | refine sees_cons rfl rfl (by rw [← hw]; rfl) ?_)
 ·repeat' ((first | refine br_t rfl ?_ | refine br_f rfl ?_ | refine IdxN.lit rfl rfl ?_ | intro _); conv => whnf)
  exact ret_pure rfl
theorem samerows_spec (rows : List (List Val)) (b1 b2 : Option Addr) (c1 c2 : Nat) (V : View) (h1 : RowsAt V rows b1) (h2 : RowsAt V rows b2) :
  PSpec 41 [.slice b1 rows.length c1, .slice b2 rows.length c2] V (fun v _ => v = .bool true) := by
 have hlen := h1.len
 refine does_of_zfun [(6, [(0, []), (1, []), (2, []), (3, []), (4, []), (5, []), (6, []), (7, []), (8, []), (9, [])])] mixed (args := [.v _, .v _]) (ms := []) Tryz.func41 (by kernel_rfl) rfl ?_; conv => whnf
 refine br_f (by simp) ?_; conv => whnf
 refine loopz (σ := Nat) (fun i => [(0, .v (.slice b1 rows.length c1)), (1, .v (.slice b2 rows.length c2)), (5, .v (.int .i64 i))]) (fun _ => []) (fun j i V' => V.le V' ∧ i ≤ rows.length ∧ rows.length - i = j) rows.length 0 ?_ ?_ ?_ ?_
 ·repeat' (first | exact sees_nil | refine sees_cons rfl rfl rfl ?_)
 ·exact keeps_nil
 ·exact ⟨View.le_refl _, Nat.zero_le _, rfl⟩
 rintro j i V' ⟨hV, hi, hj⟩
 conv => whnf
 apply br <;> intro h3 <;> conv => whnf
 ·have hi1 : i < rows.length := by simpa using h3
  obtain ⟨r, hr1⟩ : ∃ r, rows[i]? = some r := ⟨_, List.getElem?_eq_getElem hi1⟩
  obtain ⟨p, off, c, hb, hcell, hrow⟩ := h1.at hr1
  obtain ⟨q, off2, c2, hb2, hcell2, hrow2⟩ := h2.at hr1
  obtain ⟨rb, rcap, hrv, _, hv1⟩ := hrow
  obtain ⟨rb2, rcap2, hrv2, _, hv2⟩ := hrow2
  subst hb; subst hb2; subst hrv; subst hrv2
  refine IdxN.of (by omega) (by omega) ?_; conv => whnf
  refine LoadN.of (hcell.mono le_auto) 0 (by show off + i * 1 = off + i + 0; omega) rfl ?_; conv => whnf
  refine IdxN.of (by omega) (by omega) ?_; conv => whnf
  refine LoadN.of (hcell2.mono le_auto) 0 (by show off2 + i * 1 = off2 + i + 0; omega) rfl ?_; conv => whnf
  refine CallN.pure (samerow_spec r rb rb2 rcap rcap2 _ (hv1.mono le_auto) (hv2.mono le_auto)) fun v V2 _ hV2 hv => ?_
  subst hv
  refine Prot.refl ?_; conv => whnf
  repeat' ((first | refine br_t rfl ?_ | refine br_f rfl ?_ | refine IdxN.lit rfl rfl ?_ | intro _); conv => whnf)
  refine ⟨j - 1, i + 1, by omega, ?_, keeps_nil, View.le_trans hV hV2, hi1, by omega⟩
  have hw := wrap_big hi1 hlen
  repeat' (first | exact sees_nil | refine sees_cons rfl rfl rfl ?_ | refine sees_cons rfl rfl (by rw [← hw]; rfl) ?_)
 ·repeat' ((first | refine br_t rfl ?_ | refine br_f rfl ?_ | refine IdxN.lit rfl rfl ?_ | intro _); conv => whnf)
  exact ret_pure rfl
structure Rp where
 s : Int
 lab : Lab
 e : Int
 a : Int
 rb : Option Addr
 rc : Nat
 rows : List (List Val)
 n : Int
 w : Int
def Rp.cells (r : Rp) : List Value := [.int .i64 r.s, .slice r.lab.base r.lab.l.length r.lab.cap, .int .i64 r.e, .int .i64 r.a, .slice r.rb r.rows.length r.rc, .int .i64 r.n, .int .u64 r.w]
def Rp.val (r : Rp) : Value := .agg #[.int .i64 r.s, .slice r.lab.base r.lab.l.length r.lab.cap, .int .i64 r.e, .int .i64 r.a, .slice r.rb r.rows.length r.rc, .int .i64 r.n, .int .u64 r.w]
structure Rp.ok (r : Rp) (V : View) : Prop where
 lab : r.lab.at V
 rows : RowsAt V r.rows r.rb
theorem Rp.ok.mono {r : Rp} {V V' : View} (h : r.ok V) (hV : V.le V') : r.ok V' := ⟨h.lab.mono hV, h.rows.mono hV⟩
structure RpsAt (V : View) (l : List Rp) (base : Option Addr) : Prop where
 has : l ≠ [] → ∃ p off, base = some ⟨p, off, none⟩ ∧ V.has p off (l.flatMap Rp.cells)
 len : l.length ≤ 9223372036854775807
 ok : ∀ r ∈ l, r.ok V
theorem RpsAt.mono {V V' : View} {l : List Rp} {base : Option Addr} (h : RpsAt V l base) (hV : V.le V') : RpsAt V' l base := ⟨fun hn => by
 obtain ⟨p, off, h1, h2⟩ := h.has hn
 exact ⟨p, off, h1, h2.mono hV⟩, h.len, fun r hr => (h.ok r hr).mono hV⟩
theorem RpsAt.at {V : View} {l : List Rp} {base : Option Addr} (h : RpsAt V l base) {i : Nat} {x : Rp} (hx : l[i]? = some x) : ∃ p off, base = some ⟨p, off, none⟩ ∧ V.has p (off + i * 7) x.cells ∧ x.ok V := by
 obtain ⟨p, off, h1, h2⟩ := h.has (fun e => by rw [e] at hx; simp at hx)
 exact ⟨p, off, h1, has_flat (n := 7) (fun _ => rfl) l off h2 i x hx, h.ok x (List.mem_of_getElem? hx)⟩
theorem RpsAt.of_cells {V : View} {l : List Rp} {base : Option Addr} {len cap : Nat} (hc : V.cells (.slice base len cap) (l.flatMap Rp.cells)) (hl : l.length ≤ 9223372036854775807) (ho : ∀ r ∈ l, r.ok V) : RpsAt V l base :=
 ⟨fun hn => cells_some hc (fun e => hn (List.eq_nil_of_length_eq_zero (by have := congrArg List.length e; rw [flat_len (f := Rp.cells) (n := 7) (fun _ => rfl)] at this; simp only [List.length_nil] at this; omega))), hl, ho⟩
theorem lexS_id : ∀ l : List Int, lexS l l = 0
 | [] => rfl
 | x :: l => by rw [lexS, if_neg (by omega), if_neg (by omega)]; exact lexS_id l
theorem cmpA_id (l : List Int) : cmpA l l = 0 := by rw [cmpA, if_neg (by omega), if_neg (by omega)]; exact lexS_id l
set_option maxHeartbeats 400000 in
theorem samereply_spec (r : Rp) (V : View) (h : r.ok V) (h8 : r.lab.l.length ≤ 1000) : PSpec 26 [r.val, r.val] V (fun v _ => v = .bool true) := by
 obtain ⟨s, ⟨base, cap, l⟩, e, a, rb, rc, rows, n, w⟩ := r
 show PSpec _ [.agg #[.int .i64 s, .slice base l.length cap, .int .i64 e, .int .i64 a, .slice rb rows.length rc, .int .i64 n, .int .u64 w], .agg #[.int .i64 s, .slice base l.length cap, .int .i64 e, .int .i64 a, .slice rb rows.length rc, .int .i64 n, .int .u64 w]] V _
 have hl : (Lab.mk base cap l).at V := h.lab
 have hr : RowsAt V rows rb := h.rows
 refine does_of_zfun [] mixed (args := [.v _, .v _]) (ms := []) Tryz.func26 (by kernel_rfl) rfl ?_; conv => whnf
 repeat' ((first | refine br_t rfl ?_ | refine br_f rfl ?_ | refine IdxN.lit rfl rfl ?_ | intro _); conv => whnf)
 refine br_t (by simp) ?_; conv => whnf
 repeat' ((first | refine br_t rfl ?_ | refine br_f rfl ?_ | refine IdxN.lit rfl rfl ?_ | intro _); conv => whnf)
 refine CallN.pure (same_spec (Lab.mk base cap l) (Lab.mk base cap l) _ (hl.mono le_auto) (hl.mono le_auto) h8) fun v V1 _ hV1 hv => ?_
 subst hv; conv => whnf
 refine br_t (by rw [cmpA_id]; rfl) ?_; conv => whnf
 repeat' ((first | refine br_t rfl ?_ | refine br_f rfl ?_ | refine IdxN.lit rfl rfl ?_ | intro _); conv => whnf)
 refine br_t (by simp) ?_; conv => whnf
 repeat' ((first | refine br_t rfl ?_ | refine br_f rfl ?_ | refine IdxN.lit rfl rfl ?_ | intro _); conv => whnf)
 refine br_t (by simp) ?_; conv => whnf
 repeat' ((first | refine br_t rfl ?_ | refine br_f rfl ?_ | refine IdxN.lit rfl rfl ?_ | intro _); conv => whnf)
 refine CallN.pure (samerows_spec rows rb rb rc rc _ (hr.mono le_auto) (hr.mono le_auto)) fun v V2 _ hV2 hv => ?_
 subst hv; conv => whnf
 repeat' ((first | refine br_t rfl ?_ | refine br_f rfl ?_ | refine IdxN.lit rfl rfl ?_ | intro _); conv => whnf)
 refine br_t (by simp) ?_; conv => whnf
 repeat' ((first | refine br_t rfl ?_ | refine br_f rfl ?_ | refine IdxN.lit rfl rfl ?_ | intro _); conv => whnf)
 refine ret_pure (show Value.bool (w == w) = Value.bool true from congrArg Value.bool ?_)
 simp
set_option maxHeartbeats 400000 in
theorem samereplies_spec (l : List Rp) (b1 b2 : Option Addr) (c1 c2 : Nat) (V : View) (h1 : RpsAt V l b1) (h2 : RpsAt V l b2) (h8 : ∀ r ∈ l, r.lab.l.length ≤ 1000) :
  PSpec 10 [.slice b1 l.length c1, .slice b2 l.length c2] V (fun v _ => v = .bool true) := by
 have hlen := h1.len
 refine does_of_zfun [(6, [(0, []), (1, []), (2, []), (3, []), (4, []), (5, []), (6, []), (7, []), (8, []), (9, [])])] mixed (args := [.v _, .v _]) (ms := []) Tryz.func10 (by kernel_rfl) rfl ?_; conv => whnf
 refine br_f (by simp) ?_; conv => whnf
 refine loopz (σ := Nat) (fun i => [(0, .v (.slice b1 l.length c1)), (1, .v (.slice b2 l.length c2)), (5, .v (.int .i64 i))]) (fun _ => []) (fun j i V' => V.le V' ∧ i ≤ l.length ∧ l.length - i = j) l.length 0 ?_ ?_ ?_ ?_
 ·repeat' (first | exact sees_nil | refine sees_cons rfl rfl rfl ?_)
 ·exact keeps_nil
 ·exact ⟨View.le_refl _, Nat.zero_le _, rfl⟩
 rintro j i V' ⟨hV, hi, hj⟩
 conv => whnf
 apply br <;> intro h3 <;> conv => whnf
 ·have hi1 : i < l.length := by simpa using h3
  obtain ⟨x, hx⟩ : ∃ x, l[i]? = some x := ⟨_, List.getElem?_eq_getElem hi1⟩
  obtain ⟨p, off, hb, hh, hok⟩ := h1.at hx
  obtain ⟨q, off2, hb2, hh2, _⟩ := h2.at hx
  subst hb; subst hb2
  refine IdxN.of (by omega) (by omega) ?_; conv => whnf
  refine LoadN.of (hh.mono le_auto) 0 rfl rfl ?_; conv => whnf
  refine IdxN.of (by omega) (by omega) ?_; conv => whnf
  refine LoadN.of (hh2.mono le_auto) 0 rfl rfl ?_; conv => whnf
  refine CallN.pure (samereply_spec x _ (hok.mono le_auto) (h8 x (List.mem_of_getElem? hx))) fun v V2 _ hV2 hv => ?_
  subst hv
  refine Prot.refl ?_; conv => whnf
  repeat' ((first | refine br_t rfl ?_ | refine br_f rfl ?_ | refine IdxN.lit rfl rfl ?_ | intro _); conv => whnf)
  refine ⟨j - 1, i + 1, by omega, ?_, keeps_nil, View.le_trans hV hV2, hi1, by omega⟩
  have hw := wrap_big hi1 hlen
  repeat' (first | exact sees_nil | refine sees_cons rfl rfl rfl ?_ | refine sees_cons rfl rfl (by rw [← hw]; rfl) ?_)
 ·repeat' ((first | refine br_t rfl ?_ | refine br_f rfl ?_ | refine IdxN.lit rfl rfl ?_ | intro _); conv => whnf)
  exact ret_pure rfl
def seesB (c : List Int) (r : Rp) : Bool := decide (∀ x ∈ r.lab.l, x ∈ c)
set_option maxHeartbeats 400000 in
theorem sees_spec (c : Lab) (r : Rp) (V : View) (hc : c.at V) (h : r.ok V) (h8 : r.lab.l.length ≤ 1000) (h9 : c.l.length ≤ 1000) : PSpec 8 [c.slice, r.val] V (fun v _ => v = .bool (seesB c.l r)) := by
 obtain ⟨s, ⟨base, cap, l⟩, e, a, rb, rc, rows, n, w⟩ := r
 show PSpec _ [c.slice, .agg #[.int .i64 s, .slice base l.length cap, .int .i64 e, .int .i64 a, .slice rb rows.length rc, .int .i64 n, .int .u64 w]] V _
 have hl : (Lab.mk base cap l).at V := h.lab
 refine does_of_zfun [] mixed (args := [.v _, .v _]) (ms := []) Tryz.func8 (by kernel_rfl) rfl ?_; conv => whnf
 repeat' ((first | refine br_t rfl ?_ | refine br_f rfl ?_ | refine IdxN.lit rfl rfl ?_ | intro _); conv => whnf)
 refine CallN.pure (lflows_spec (Lab.mk base cap l) c _ (hl.mono le_auto) (hc.mono le_auto) h8 h9) fun v V1 _ hV1 ⟨b, hv, hb⟩ => ?_
 subst hv; conv => whnf
 repeat' ((first | refine br_t rfl ?_ | refine br_f rfl ?_ | refine IdxN.lit rfl rfl ?_ | intro _); conv => whnf)
 refine ret_pure (show Value.bool b = Value.bool (decide (∀ x ∈ l, x ∈ c.l)) from congrArg Value.bool ?_)
 cases b with
 | true => exact (decide_eq_true (hb.1 rfl)).symm
 | false => exact (decide_eq_false (fun hh => by cases hb.2 hh)).symm
set_option maxHeartbeats 400000 in
theorem seen1_spec (c : Lab) (r : Rp) (p : Nat) (V : View) (hp : V.has p 0 [c.slice]) (hc : c.at V) (h : r.ok V) (h8 : r.lab.l.length ≤ 1000) (h9 : c.l.length ≤ 1000) : PSpec 28 [r.val, .pointer (some ⟨p, 0, none⟩)] V (fun v _ => v = .bool (seesB c.l r)) := by
 have hs := fun V' hV => sees_spec c r V' (hc.mono hV) (h.mono hV) h8 h9
 generalize seesB c.l r = bb at hs
 obtain ⟨s, ⟨base, cap, l⟩, e, a, rb, rc, rows, n, w⟩ := r
 show PSpec _ [.agg #[.int .i64 s, .slice base l.length cap, .int .i64 e, .int .i64 a, .slice rb rows.length rc, .int .i64 n, .int .u64 w], .pointer (some ⟨p, 0, none⟩)] V _
 refine does_of_zfun [] mixed (args := [.v _, .v _]) (ms := []) Tryz.func28 (by kernel_rfl) rfl ?_; conv => whnf
 repeat' ((first | refine br_t rfl ?_ | refine br_f rfl ?_ | refine IdxN.lit rfl rfl ?_ | intro _); conv => whnf)
 refine LoadN.of (hp.mono le_auto) 0 rfl rfl ?_; conv => whnf
 repeat' ((first | refine br_t rfl ?_ | refine br_f rfl ?_ | refine IdxN.lit rfl rfl ?_ | intro _); conv => whnf)
 refine CallN.pure (hs _ le_auto) fun v V1 _ hV1 hv => ?_
 subst hv; conv => whnf
 repeat' ((first | refine br_t rfl ?_ | refine br_f rfl ?_ | refine IdxN.lit rfl rfl ?_ | intro _); conv => whnf)
 exact ret_pure rfl
def RpsV (l : List Rp) (v : Value) (V : View) : Prop := ∃ b c, v = .slice b l.length c ∧ RpsAt V l b
theorem flat_rps (l : List Rp) : (l.flatMap Rp.cells).length = l.length * 7 := flat_len (f := Rp.cells) (n := 7) (fun _ => rfl) l
theorem take_succ' {l : List Rp} {i : Nat} {x : Rp} (hx : l[i]? = some x) : l.take (i + 1) = l.take i ++ [x] := by rw [List.take_succ, hx]; rfl
theorem filt_yes {f : Rp → Bool} {l : List Rp} {i : Nat} {x : Rp} (hx : l[i]? = some x) (h : f x = true) : (l.take (i + 1)).filter f = (l.take i).filter f ++ [x] := by rw [take_succ' hx, List.filter_append, List.filter_cons, if_pos h]; rfl
theorem filt_no {f : Rp → Bool} {l : List Rp} {i : Nat} {x : Rp} (hx : l[i]? = some x) (h : f x = false) : (l.take (i + 1)).filter f = (l.take i).filter f := by rw [take_succ' hx, List.filter_append, List.filter_cons, if_neg (by rw [h]; simp)]; simp
theorem filt_le (f : Rp → Bool) (l : List Rp) (i : Nat) : ((l.take i).filter f).length ≤ i := Nat.le_trans (List.length_filter_le ..) (by rw [List.length_take]; omega)
set_option maxHeartbeats 1000000 in
theorem rthose_spec (c : Lab) (l : List Rp) (base : Option Addr) (cap p : Nat) (V : View) (hp : V.has p 0 [c.slice]) (hc : c.at V) (h : RpsAt V l base) (hl : l.length ≤ 1000) (h8 : ∀ r ∈ l, r.lab.l.length ≤ 1000) (h9 : c.l.length ≤ 1000) :
  PSpec 27 [.slice base l.length cap, .func (.func 28) #[] #[.pointer (some ⟨p, 0, none⟩)]] V (fun v V' => RpsV (l.filter (seesB c.l)) v V') := by
 have h1 := fun (r : Rp) (hr : r ∈ l) V' hV => seen1_spec c r p V' (View.has.mono hp hV) (hc.mono hV) ((h.ok r hr).mono hV) (h8 r hr) h9
 generalize seesB c.l = f at h1 ⊢
 refine does_of_zfun [] mixed (args := [.v _, .v _]) (ms := []) Tryz.func27 (by kernel_rfl) rfl ?_; conv => whnf
 repeat' ((first | refine br_t rfl ?_ | refine br_f rfl ?_ | refine IdxN.lit rfl rfl ?_ | intro _); conv => whnf)
 refine loopz (σ := Nat × Option Addr × Nat × Nat) (fun z => [(0, .v (.slice base l.length cap)), (1, .v (.func (.func 28) #[] #[.pointer (some ⟨p, 0, none⟩)])), (5, .row 20), (8, .v (.slice base l.length cap)), (9, .v (.int .i64 (l.length : Int))), (10, .v (.int .i64 (z.1 : Int)))]) (fun z => [(20, .row (.slice z.2.1 z.2.2.1 z.2.2.2) 31 7 z.2.2.1)])
  (fun j z V' => V.le V' ∧ (z.1 ≤ l.length) ∧ l.length - z.1 = j ∧ V'.cells (.slice z.2.1 z.2.2.1 z.2.2.2) (((l.take z.1).filter f).flatMap Rp.cells) ∧ ((l.take z.1).filter f).length = z.2.2.1) l.length (0, none, 0, 0) ?_ ?_ ?_ ?_
 ·repeat' (first | exact sees_nil | refine sees_cons rfl rfl rfl ?_)
 ·repeat' (first | exact keeps_nil | refine keeps_cons rfl ?_ | refine keeps_free ?_)
 ·exact ⟨View.le_refl _, Nat.zero_le _, Nat.sub_zero _, rfl, rfl⟩
 rintro j ⟨i, b0, n, k⟩ V' ⟨hV, hi, hj, hxs, hnl⟩
 simp only at hi hj hxs hnl
 conv => whnf
 apply br <;> intro h3 <;> conv => whnf
 ·have h3 : i < l.length := by have := of_decide_eq_true h3; omega
  obtain ⟨x, hx⟩ : ∃ x, l[i]? = some x := ⟨_, List.getElem?_eq_getElem h3⟩
  obtain ⟨q, off, hb, hh, hok⟩ := h.at hx
  have hfx := h1 x (List.mem_of_getElem? hx)
  have hn := filt_le f l i
  rw [hnl] at hn
  subst hb
  refine IdxN.of (by omega) (by omega) ?_; conv => whnf
  refine LoadN.of (hh.mono le_auto) 0 rfl rfl ?_; conv => whnf
  repeat' ((first | refine br_t rfl ?_ | refine br_f rfl ?_ | refine IdxN.lit rfl rfl ?_ | intro _); conv => whnf)
  refine CallN.pure (hfx _ le_auto) fun v V1 _ hV1 hv => ?_
  subst hv; conv => whnf
  apply br <;> intro h4 <;> conv => whnf
  ·have hfl := filt_yes hx h4
   have hfn : ((l.take (i + 1)).filter f).length = n + 1 := by rw [hfl, List.length_append, hnl]; rfl
   have hfc : ((l.take (i + 1)).filter f).flatMap Rp.cells = ((l.take i).filter f).flatMap Rp.cells ++ x.cells := by rw [hfl, List.flatMap_append]; simp
   repeat' ((first | refine br_t rfl ?_ | refine br_f rfl ?_ | refine IdxN.lit rfl rfl ?_ | intro _); conv => whnf)
   rename_i b1 V2 hV2 h2
   refine AppN.to (n + 1) rfl (((l.take i).filter f).flatMap Rp.cells) x.cells (hxs.mono le_auto) (by rw [flat_rps, hnl]; rfl) h2 rfl rfl (by omega) (by decide) fun base' cap' V3 hV3 hc3 => ?_; conv => whnf
   repeat' ((first | refine br_t rfl ?_ | refine br_f rfl ?_ | refine IdxN.lit rfl rfl ?_ | intro _); conv => whnf)
   have hw := wrap_nat (i := i) (by omega)
   rw [hw]
   rw [← hfc] at hc3
   refine ⟨j - 1, (i + 1, base', n + 1, cap'), by omega, ?_, ?_, le_auto, by show i + 1 ≤ _; omega, by show l.length - (i + 1) = _; omega, hc3, hfn⟩
   ·repeat' (first | exact sees_nil | refine sees_cons rfl rfl rfl ?_)
   ·repeat' (first | exact keeps_nil | refine keeps_cons rfl ?_ | refine keeps_free ?_)
  ·have hfl := filt_no hx h4
   repeat' ((first | refine br_t rfl ?_ | refine br_f rfl ?_ | refine IdxN.lit rfl rfl ?_ | intro _); conv => whnf)
   have hw := wrap_nat (i := i) (by omega)
   rw [hw]
   refine ⟨j - 1, (i + 1, b0, n, k), by omega, ?_, ?_, View.le_trans hV hV1, by show i + 1 ≤ _; omega, by show l.length - (i + 1) = _; omega, ?_, by show ((l.take (i + 1)).filter f).length = n; rw [hfl, hnl]⟩
   ·repeat' (first | exact sees_nil | refine sees_cons rfl rfl rfl ?_)
   ·repeat' (first | exact keeps_nil | refine keeps_cons rfl ?_ | refine keeps_free ?_)
   ·show V1.cells (.slice b0 n k) (((l.take (i + 1)).filter f).flatMap Rp.cells)
    rw [hfl]
    exact hxs.mono hV1
 ·have h3 : ¬ i < l.length := by have := of_decide_eq_false h3; omega
  have ht : l.take i = l := List.take_of_length_le (by omega)
  rw [ht] at hxs hnl
  subst hnl
  repeat' ((first | refine br_t rfl ?_ | refine br_f rfl ?_ | refine IdxN.lit rfl rfl ?_ | intro _); conv => whnf)
  refine ret_pure ⟨_, _, rfl, ?_⟩
  exact RpsAt.of_cells hxs (by have := List.length_filter_le f l; omega) fun r hr => (h.ok r ((List.mem_filter.1 hr).1)).mono hV
theorem RpsAt.cut {V V' : View} {l : List Rp} {base : Option Addr} {b : Nat} {x : Value} (h : RpsAt V' l base) (hb : ∀ o u, V' b o = some u → [x][o]? = some u) (hok : ∀ r ∈ l, r.ok V) (hle : V.le (V'.cut b)) : RpsAt (V'.cut b) l base := by
 refine ⟨fun hn => ?_, h.len, fun r hr => (hok r hr).mono hle⟩
 obtain ⟨p, off, h1, h2⟩ := h.has hn
 refine ⟨p, off, h1, fun i v hi => ?_⟩
 have hp : p ≠ b := by
  rintro rfl
  obtain ⟨r, l', rfl⟩ := List.exists_cons_of_ne_nil hn
  have := hb _ _ (h2 1 (.slice r.lab.base r.lab.l.length r.lab.cap) rfl)
  have := (List.getElem?_eq_some_iff.1 this).1
  simp at this
 exact View.cut_of (h2 i v hi) hp
set_option maxHeartbeats 1000000 in
theorem seen_spec (c : Lab) (l : List Rp) (base : Option Addr) (cap : Nat) (V : View) (hc : c.at V) (h : RpsAt V l base) (hl : l.length ≤ 1000) (h8 : ∀ r ∈ l, r.lab.l.length ≤ 1000) (h9 : c.l.length ≤ 1000) :
  PSpec 11 [c.slice, .slice base l.length cap] V (fun v V' => RpsV (l.filter (seesB c.l)) v V') := by
 refine does_of_zfun [] mixed (args := [.v _, .v _]) (ms := []) Tryz.func11 (by kernel_rfl) rfl ?_; conv => whnf
 repeat' ((first | refine br_t rfl ?_ | refine br_f rfl ?_ | refine IdxN.lit rfl rfl ?_ | intro _); conv => whnf)
 rename_i b1
 refine CallN.lendP (pre := [c.slice]) (ex := []) 2 rfl fun hle => CallN.pure (rthose_spec c l base cap b1 _ View.add_has (hc.mono hle) (h.mono hle) hl h8 h9) fun v V1 _ hV1 ⟨b, k, hv, hn⟩ => ⟨⟨_, rfl⟩, rfl, fun hb hcut => ?_⟩
 subst hv; conv => whnf
 repeat' ((first | refine br_t rfl ?_ | refine br_f rfl ?_ | refine IdxN.lit rfl rfl ?_ | intro _); conv => whnf)
 exact ret_pure ⟨_, _, rfl, hn.cut hb (fun r hr => h.ok r ((List.mem_filter.1 hr).1)) hcut⟩
set_option maxHeartbeats 1000000 in
theorem rseen_spec (c : Lab) (l : List Rp) (base : Option Addr) (cap : Nat) (V : View) (hc : c.at V) (h : RpsAt V l base) (hl : l.length ≤ 1000) (h8 : ∀ r ∈ l, r.lab.l.length ≤ 1000) (h9 : c.l.length ≤ 1000) :
  PSpec 12 [c.slice, .slice base l.length cap] V (fun v V' => RpsV (l.filter (seesB c.l)) v V') := by
 refine does_of_zfun [] mixed (args := [.v _, .v _]) (ms := []) Tryz.func12 (by kernel_rfl) rfl ?_; conv => whnf
 repeat' ((first | refine br_t rfl ?_ | refine br_f rfl ?_ | refine IdxN.lit rfl rfl ?_ | intro _); conv => whnf)
 refine loopz (σ := Nat × Option Addr × Nat × Nat) (fun z => [(0, .v c.slice), (1, .v (.slice base l.length cap)), (5, .row 26), (6, .v (.int .i64 (z.1 : Int)))]) (fun z => [(26, .row (.slice z.2.1 z.2.2.1 z.2.2.2) 31 7 z.2.2.1)])
  (fun j z V' => V.le V' ∧ (z.1 ≤ l.length) ∧ l.length - z.1 = j ∧ V'.cells (.slice z.2.1 z.2.2.1 z.2.2.2) (((l.take z.1).filter (seesB c.l)).flatMap Rp.cells) ∧ ((l.take z.1).filter (seesB c.l)).length = z.2.2.1) l.length (0, none, 0, 0) ?_ ?_ ?_ ?_
 ·repeat' (first | exact sees_nil | refine sees_cons rfl rfl rfl ?_)
 ·repeat' (first | exact keeps_nil | refine keeps_cons rfl ?_ | refine keeps_free ?_)
 ·exact ⟨View.le_refl _, Nat.zero_le _, Nat.sub_zero _, rfl, rfl⟩
 rintro j ⟨i, b0, n, k⟩ V' ⟨hV, hi, hj, hxs, hnl⟩
 simp only at hi hj hxs hnl
 conv => whnf
 apply br <;> intro h3 <;> conv => whnf
 ·have h3 : i < l.length := by have := of_decide_eq_true h3; omega
  obtain ⟨x, hx⟩ : ∃ x, l[i]? = some x := ⟨_, List.getElem?_eq_getElem h3⟩
  obtain ⟨q, off, hb, hh, hok⟩ := h.at hx
  have hn := filt_le (seesB c.l) l i
  rw [hnl] at hn
  subst hb
  refine IdxN.of (by omega) (by omega) ?_; conv => whnf
  refine LoadN.of (hh.mono le_auto) 1 rfl rfl ?_; conv => whnf
  repeat' ((first | refine br_t rfl ?_ | refine br_f rfl ?_ | refine IdxN.lit rfl rfl ?_ | intro _); conv => whnf)
  refine CallN.pure (flows_spec x.lab c _ (hok.lab.mono le_auto) (hc.mono le_auto) (h8 x (List.mem_of_getElem? hx)) h9) fun v V1 _ hV1 ⟨b, hv, hb⟩ => ?_
  subst hv; conv => whnf
  apply br <;> intro h4 <;> conv => whnf
  ·have h4 : b = true := by simpa using h4
   have h4 : seesB c.l x = true := decide_eq_true (hb.1 h4)
   have hfl := filt_yes hx h4
   have hfn : ((l.take (i + 1)).filter (seesB c.l)).length = n + 1 := by rw [hfl, List.length_append, hnl]; rfl
   have hfc : ((l.take (i + 1)).filter (seesB c.l)).flatMap Rp.cells = ((l.take i).filter (seesB c.l)).flatMap Rp.cells ++ x.cells := by rw [hfl, List.flatMap_append]; simp
   repeat' ((first | refine br_t rfl ?_ | refine br_f rfl ?_ | refine IdxN.lit rfl rfl ?_ | intro _); conv => whnf)
   refine IdxN.of (by omega) (by omega) ?_; conv => whnf
   refine LoadN.of (hh.mono le_auto) 0 rfl rfl ?_; conv => whnf
   repeat' ((first | refine br_t rfl ?_ | refine br_f rfl ?_ | refine IdxN.lit rfl rfl ?_ | intro _); conv => whnf)
   rename_i b1 V2 hV2 h2
   refine AppN.to (n + 1) rfl (((l.take i).filter (seesB c.l)).flatMap Rp.cells) x.cells (hxs.mono le_auto) (by rw [flat_rps, hnl]; rfl) h2 rfl rfl (by omega) (by decide) fun base' cap' V3 hV3 hc3 => ?_; conv => whnf
   repeat' ((first | refine br_t rfl ?_ | refine br_f rfl ?_ | refine IdxN.lit rfl rfl ?_ | intro _); conv => whnf)
   have hw := wrap_nat (i := i) (by omega)
   rw [hw]
   rw [← hfc] at hc3
   refine ⟨j - 1, (i + 1, base', n + 1, cap'), by omega, ?_, ?_, le_auto, by show i + 1 ≤ _; omega, by show l.length - (i + 1) = _; omega, hc3, hfn⟩
   ·repeat' (first | exact sees_nil | refine sees_cons rfl rfl rfl ?_)
   ·repeat' (first | exact keeps_nil | refine keeps_cons rfl ?_ | refine keeps_free ?_)
  ·have h4 : b = false := by simpa using h4
   have h4 : seesB c.l x = false := decide_eq_false fun hh => by rw [hb.2 hh] at h4; cases h4
   have hfl := filt_no hx h4
   repeat' ((first | refine br_t rfl ?_ | refine br_f rfl ?_ | refine IdxN.lit rfl rfl ?_ | intro _); conv => whnf)
   have hw := wrap_nat (i := i) (by omega)
   rw [hw]
   refine ⟨j - 1, (i + 1, b0, n, k), by omega, ?_, ?_, View.le_trans hV hV1, by show i + 1 ≤ _; omega, by show l.length - (i + 1) = _; omega, ?_, by show ((l.take (i + 1)).filter (seesB c.l)).length = n; rw [hfl, hnl]⟩
   ·repeat' (first | exact sees_nil | refine sees_cons rfl rfl rfl ?_)
   ·repeat' (first | exact keeps_nil | refine keeps_cons rfl ?_ | refine keeps_free ?_)
   ·show V1.cells (.slice b0 n k) (((l.take (i + 1)).filter (seesB c.l)).flatMap Rp.cells)
    rw [hfl]
    exact hxs.mono hV1
 ·have h3 : ¬ i < l.length := by have := of_decide_eq_false h3; omega
  have ht : l.take i = l := List.take_of_length_le (by omega)
  rw [ht] at hxs hnl
  subst hnl
  repeat' ((first | refine br_t rfl ?_ | refine br_f rfl ?_ | refine IdxN.lit rfl rfl ?_ | intro _); conv => whnf)
  refine ret_pure ⟨_, _, rfl, ?_⟩
  exact RpsAt.of_cells hxs (by have := List.length_filter_le (seesB c.l) l; omega) fun r hr => (h.ok r ((List.mem_filter.1 hr).1)).mono hV
set_option maxHeartbeats 1000000 in
theorem flowsees_spec (hbeg : ∀ V, PSpec 6 [] V (fun v _ => v = .bool true)) (c : Lab) (l : List Rp) (base : Option Addr) (cap : Nat) (V : View) (hc : c.at V) (h : RpsAt V l base) :
  PSpec 3 [c.slice, .slice base l.length cap] V (fun v _ => v = .bool true) := by
 refine does_of_zfun [(10, [(0, []), (1, []), (2, []), (3, []), (4, []), (6, []), (7, []), (8, []), (9, []), (10, []), (11, []), (5, []), (12, []), (13, [])])] mixed (args := [.v _, .v _]) (ms := []) Tryz.func3 (by kernel_rfl) rfl ?_; conv => whnf
 refine CallN.pure (hbeg _) fun v V1 _ hV1 hv => ?_
 subst hv; conv => whnf
 repeat' ((first | refine br_t rfl ?_ | refine br_f rfl ?_ | refine IdxN.lit rfl rfl ?_ | intro _); conv => whnf)
 refine CallN.pure (may_spec c _ (hc.mono le_auto)) fun v V2 _ hV2 ⟨b, hv, hb⟩ => ?_
 subst hv; conv => whnf
 apply br <;> intro h3 <;> conv => whnf
 ·repeat' ((first | refine br_t rfl ?_ | refine br_f rfl ?_ | refine IdxN.lit rfl rfl ?_ | intro _); conv => whnf)
  exact ret_pure rfl
 have h3 : b = true := by simpa using h3
 obtain ⟨_, h9⟩ := hb.1 h3
 apply br <;> intro h4 <;> conv => whnf
 ·repeat' ((first | refine br_t rfl ?_ | refine br_f rfl ?_ | refine IdxN.lit rfl rfl ?_ | intro _); conv => whnf)
  exact ret_pure rfl
 have h4 : l.length ≤ 40 := by have := of_decide_eq_false h4; omega
 repeat' ((first | refine br_t rfl ?_ | refine br_f rfl ?_ | refine IdxN.lit rfl rfl ?_ | intro _); conv => whnf)
 refine loopz (σ := Nat) (fun i => [(0, .v c.slice), (1, .v (.slice base l.length cap)), (5, .v (.int .i64 i))]) (fun _ => []) (fun j i V' => V.le V' ∧ i ≤ l.length ∧ l.length - i = j ∧ ∀ (k : Nat) (r : Rp), k < i → l[k]? = some r → r.lab.l.length ≤ 8) l.length 0 ?_ ?_ ?_ ?_
 ·repeat' (first | exact sees_nil | refine sees_cons rfl rfl rfl ?_)
 ·exact keeps_nil
 ·exact ⟨le_auto, Nat.zero_le _, rfl, fun k r hk => absurd hk (Nat.not_lt_zero _)⟩
 rintro j i V' ⟨hV, hi, hj, hall⟩
 conv => whnf
 apply br <;> intro h5 <;> conv => whnf
 ·have h5 : i < l.length := by have := of_decide_eq_true h5; omega
  obtain ⟨x, hx⟩ : ∃ x, l[i]? = some x := ⟨_, List.getElem?_eq_getElem h5⟩
  obtain ⟨q, off, hb, hh, hok⟩ := h.at hx
  subst hb
  refine IdxN.of (by omega) (by omega) ?_; conv => whnf
  refine LoadN.of (hh.mono le_auto) 1 rfl rfl ?_; conv => whnf
  repeat' ((first | refine br_t rfl ?_ | refine br_f rfl ?_ | refine IdxN.lit rfl rfl ?_ | intro _); conv => whnf)
  refine CallN.pure (may_spec x.lab _ (hok.lab.mono le_auto)) fun v V3 _ hV3 ⟨b2, hv, hb2⟩ => ?_
  subst hv; conv => whnf
  apply br <;> intro h6 <;> conv => whnf
  ·repeat' ((first | refine br_t rfl ?_ | refine br_f rfl ?_ | refine IdxN.lit rfl rfl ?_ | intro _); conv => whnf)
   exact ret_pure rfl
  have h6 : b2 = true := by simpa using h6
  obtain ⟨_, h8⟩ := hb2.1 h6
  refine IdxN.of (by omega) (by omega) ?_; conv => whnf
  refine LoadN.of (hh.mono le_auto) 4 rfl rfl ?_; conv => whnf
  apply br <;> intro h7 <;> conv => whnf
  ·repeat' ((first | refine br_t rfl ?_ | refine br_f rfl ?_ | refine IdxN.lit rfl rfl ?_ | intro _); conv => whnf)
   exact ret_pure rfl
  repeat' ((first | refine br_t rfl ?_ | refine br_f rfl ?_ | refine IdxN.lit rfl rfl ?_ | intro _); conv => whnf)
  refine IdxN.of (by omega) (by omega) ?_; conv => whnf
  refine LoadN.of (hh.mono le_auto) 0 rfl rfl ?_; conv => whnf
  refine IdxN.of (by omega) (by omega) ?_; conv => whnf
  refine LoadN.of (hh.mono le_auto) 1 rfl rfl ?_; conv => whnf
  refine CallN.pure (sees_spec c x _ (hc.mono le_auto) (hok.mono le_auto) (by omega) (by omega)) fun v V4 _ hV4 hv => ?_
  subst hv
  refine Prot.refl ?_; conv => whnf
  refine CallN.pure (flows_spec x.lab c _ (hok.lab.mono le_auto) (hc.mono le_auto) (by omega) (by omega)) fun v V5 _ hV5 ⟨b3, hv, hb3⟩ => ?_
  subst hv
  have hb3 : seesB c.l x = b3 := by
   unfold seesB
   cases b3 with
   | true => exact decide_eq_true (hb3.1 rfl)
   | false => exact decide_eq_false (fun hh => by cases hb3.2 hh)
  refine Prot.refl ?_; conv => whnf
  refine br_f (by rw [hb3]; simp) ?_; conv => whnf
  repeat' ((first | refine br_t rfl ?_ | refine br_f rfl ?_ | refine IdxN.lit rfl rfl ?_ | intro _); conv => whnf)
  have hw := wrap_nat (i := i) (by omega)
  refine ⟨j - 1, i + 1, by omega, ?_, keeps_nil, le_auto, h5, by omega, fun k r hk hr => ?_⟩
  ·repeat' (first | exact sees_nil | refine sees_cons rfl rfl rfl ?_ | refine sees_cons rfl rfl (by rw [← hw]; rfl) ?_)
  ·by_cases hki : k < i
   ·exact hall k r hki hr
   ·obtain rfl : k = i := by omega
    rw [hx] at hr
    cases hr
    exact h8
 ·have h5 : ¬ i < l.length := by have := of_decide_eq_false h5; omega
  have h8 : ∀ r ∈ l, r.lab.l.length ≤ 1000 := fun r hr => by
   obtain ⟨k, hk⟩ := List.mem_iff_getElem?.1 hr
   have := hall k r (by have := (List.getElem?_eq_some_iff.1 hk).1; omega) hk
   omega
  repeat' ((first | refine br_t rfl ?_ | refine br_f rfl ?_ | refine IdxN.lit rfl rfl ?_ | intro _); conv => whnf)
  refine CallN.pure (seen_spec c l base cap _ (hc.mono le_auto) (h.mono le_auto) (by omega) h8 (by omega)) fun v V6 _ hV6 ⟨b1, k1, hv, hr1⟩ => ?_
  subst hv; conv => whnf
  repeat' ((first | refine br_t rfl ?_ | refine br_f rfl ?_ | refine IdxN.lit rfl rfl ?_ | intro _); conv => whnf)
  refine CallN.pure (rseen_spec c l base cap _ (hc.mono le_auto) (h.mono le_auto) (by omega) h8 (by omega)) fun v V7 _ hV7 ⟨b2, k2, hv, hr2⟩ => ?_
  subst hv; conv => whnf
  repeat' ((first | refine br_t rfl ?_ | refine br_f rfl ?_ | refine IdxN.lit rfl rfl ?_ | intro _); conv => whnf)
  refine CallN.pure (samereplies_spec (l.filter (seesB c.l)) b1 b2 k1 k2 _ (hr1.mono le_auto) (hr2.mono le_auto) (fun r hr => h8 r (List.mem_filter.1 hr).1)) fun v V8 _ hV8 hv => ?_
  subst hv; conv => whnf
  repeat' ((first | refine br_t rfl ?_ | refine br_f rfl ?_ | refine IdxN.lit rfl rfl ?_ | intro _); conv => whnf)
  exact ret_pure rfl
end Go.Proofs.LB
end
