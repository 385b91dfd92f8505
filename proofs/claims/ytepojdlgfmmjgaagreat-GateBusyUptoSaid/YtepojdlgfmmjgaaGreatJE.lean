/- One part of a proof: an evaluator of the model, shown right, and contracts that it yields. No condition beyond those that each theorem names. -/
import Derived.Test.YtepojdlgfmmjgaaGreatJC
set_option linter.unusedSimpArgs false
set_option linter.unusedVariables false
set_option linter.unusedSectionVars false
set_option linter.deprecated false
section
namespace Go.Proofs.LB
open Go.X
set_option maxRecDepth 100000
theorem clone0_spec (V : View) : PSpec 108 [.slice none 0 0] V (fun v _ => v = .slice none 0 0) := by
 refine does_of_zfun [] mixed (args := [.v _]) (ms := []) Tryz.func108 (by kernel_rfl) rfl ?_; conv => whnf
 repeat' ((first | refine br_t rfl ?_ | refine br_f rfl ?_ | refine IdxN.lit rfl rfl ?_ | intro _); conv => whnf)
 exact ret_pure rfl
end Go.Proofs.LB
namespace Go.Z
open Go.X Go.RowKit Go.Proofs Go.Proofs.LB Go.Sort
set_option maxRecDepth 100000
theorem app_nil (ty : TypeId) (b : Option Addr) (c : Nat) (w : World) : (Builtin.append_ #[23, 23] ty #[.slice none 0 0, .slice b 0 c]).run Tryz.prog w = .ok (.slice none 0 0) w := by
 have hu := run_underlying (P := Tryz.prog) Tryz.underlying23
 have hz : ∀ w, (sizeOf 68).run Tryz.prog w = .ok 1 w := fun _ => by kernel_rfl
 have hf : ∀ w, (Builtin.firstCells 1 0 (.slice b 0 c)).run Tryz.prog w = .ok #[] w := by
  intro w
  cases b with
  | none => exact run_firstCells_none w _ _ _ _
  | some b => simp [Builtin.firstCells, loadCells, loadCellsFrom]
 simp [Builtin.append_, hu, hz, Builtin.lenOf, hf]
theorem wpList_app_nil {w : World} {ops : Array Oper} {rest : List Oper} {o : Oper} {a : Act} {Q : Exit → Act → World → Prop} (hgd : o.guard = none) (s x : Operand)
  (ho : o.op = .call { callee := .builtin .append, args := #[s, x], argTypes := #[23, 23] }) (b : Option Addr) (c : Nat) (hs : a.eval s = .slice none 0 0) (hx : a.eval x = .slice b 0 c)
  (h : wpList Tryz.prog ops Q rest (a.put o.dst (.slice none 0 0)) w) : wpList Tryz.prog ops Q (o :: rest) a w := by
 refine wpList_plain hgd fun K hK => ?_
 have hrun := app_nil o.type b c w
 unfold Oper.wp
 simp [execOp, ho, resolve, invoke, builtin, hs, hx, hrun, Result.andThen]
 exact hK _ _ h
theorem grow0 (w : World) : Calls Tryz.prog 111 #[.slice none 0 0, .int .i64 0] w fun e w' => e = .returned (.slice none 0 0) ∧ w' = w := by
 go_enter Tryz.func111, Tryz.ntmps111
 go_wp2
 go_ret
 exact ⟨rfl, rfl⟩
set_option maxHeartbeats 1000000 in
theorem concat0 (ab cb : Option Addr) (ac cc p : Nat) (w : World) (h0 : w.cell? ⟨p, 0, none⟩ = some (.slice ab 0 ac)) (h1 : w.cell? ⟨p, 1, none⟩ = some (.slice cb 0 cc)) :
  Calls Tryz.prog 59 #[.slice (some ⟨p, 0, none⟩) 2 2] w fun e w' => e = .returned (.slice none 0 0) ∧ w' = w := by
 go_enter Tryz.func59, Tryz.ntmps59
 go_wp2
 refine wp_loop_rounds 3 ?_
 rw [rounds_succ]
 go_wp2
 rw [rounds_succ]
 go_wp2
 rw [rounds_succ]
 go_wp2_with (go_at_call 111; refine (grow0 w).mono ?_; rintro e w' ⟨rfl, rfl⟩)
 refine wp_loop_rounds 3 ?_
 rw [rounds_succ]
 go_wp2_with (at_builtin; refine wpList_app_nil rfl _ _ rfl _ _ rfl rfl ?_)
 rw [rounds_succ]
 go_wp2_with (at_builtin; refine wpList_app_nil rfl _ _ rfl _ _ rfl rfl ?_)
 rw [rounds_succ]
 go_wp2
 go_ret
 exact ⟨rfl, rfl⟩
theorem sorted0 (w : World) : Calls Tryz.prog 58 #[.slice none 0 0] w fun e w' => e = .returned (.slice none 0 0) ∧ Below w.heap.size w w' := by
 have hcl : Calls Tryz.prog 108 #[.slice none 0 0] w fun e w' => e = .returned (.slice none 0 0) ∧ Aside (Below w.heap.size w w') :=
  (calls_of_pspec (LB.clone0_spec _)).mono fun e W ⟨v, he, ⟨_, hv⟩, hB⟩ => ⟨by rw [he, hv], hB⟩
 go_enter Tryz.func58, Tryz.ntmps58
 go_wp2_with (first
  | (go_at_call 108; refine hcl.mono ?_; rintro e w1 ⟨rfl, X⟩)
  | (go_at_call 109; refine (Su.Sort_int_nil none 0 _).mono ?_; rintro e w2 ⟨rfl, rfl⟩)
  | (go_at_call 110; refine (compactU_empty none 0 _).mono ?_; rintro e w3 ⟨rfl, rfl⟩))
 go_ret
 exact ⟨rfl, X.out⟩
theorem ljoin0_calls {a c : Lab} {w : World} (ea : a.l = []) (ec : c.l = []) : Calls Tryz.prog 24 #[a.slice, c.slice] w fun e w' => e = .returned (.slice none 0 0) ∧ Below w.heap.size w w' := by
 obtain ⟨ab, ac, al⟩ := a
 obtain ⟨cb, cc, cl⟩ := c
 have ea : al = [] := ea
 have ec : cl = [] := ec
 subst ea; subst ec
 simp only [Lab.slice, List.length_nil]
 have hB0 := below_alloc w (.cells #[.slice ab 0 ac, .slice cb 0 cc] 23)
 have hc : Calls Tryz.prog 59 #[.slice (some ⟨w.heap.size, 0, none⟩) 2 2] (w.alloc (.cells #[.slice ab 0 ac, .slice cb 0 cc] 23)) fun e w' => e = .returned (.slice none 0 0) ∧ Aside (Below w.heap.size w w') :=
  (concat0 ab cb ac cc w.heap.size _ (by rw [World.cell?, heap_alloc_new]; rfl) (by rw [World.cell?, heap_alloc_new]; rfl)).mono fun e w' ⟨he, hw⟩ => ⟨he, by subst hw; exact hB0⟩
 clear hB0
 go_enter Tryz.func24, Tryz.ntmps24
 go_wp2_with (first
  | (go_at_call 59; refine hc.mono ?_; rintro e w1 ⟨rfl, X⟩)
  | (go_at_call 58; refine (sorted0 w1).mono ?_; rintro e w2 ⟨rfl, hB2⟩))
 go_ret
 exact ⟨rfl, X.out.trans (hB2.mono X.out.size)⟩
end Go.Z
end
