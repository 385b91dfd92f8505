/- One part of a proof: an evaluator of the model, shown right, and contracts that it yields. No condition beyond those that each theorem names. -/
import Derived.Test.YthpiooedpojepaaGreatZTA
section
set_option linter.unusedSimpArgs false
set_option linter.unusedVariables false
set_option linter.unusedSectionVars false
set_option linter.deprecated false
/-! # what the runs of chapter 25 lean on -/
namespace Go.Z
open Go.X Go.RowKit Go.Proofs Go.Proofs.LB
set_option linter.unusedSectionVars false
set_option linter.unusedVariables false
set_option maxRecDepth 100000
noncomputable section
set_option maxHeartbeats 0 in
theorem stT : allSt Tryz.prog mkT = true := by kernel_rfl
def primN (f : FuncId) : Option Prim := match f with
  | 235 => some (orP (keysP 169 .i64 3) (keysP 397 .i64 3))
  | 297 => some (keysP 244 .u64 28)
  | 65 => some cloneP
  | 163 => some copyP
  | 8 => some (lab1 fMay)
  | 57 => some (lab2 (fFlows tab0))
  | 56 => some (lab2 (fCmp tab0))
  | _ => none
def extT (f : FuncId) : Option (Heap → List Value → Option Value) := match f with
  | 230 => some cmpB
  | 417 => some cmpB
  | _ => none
@[reducible] def envN : Env := { P := Tryz.prog, ext := extT, prim := primN }
def primS (f : FuncId) : Option Prim := match f with
  | 285 => some (orP (sortZ .i64) (runP envN 20 285))
  | 342 => some (orP (sortZ .u64) (runP envN 20 342))
  | f => primN f
@[reducible] def envS : Env := { P := Tryz.prog, ext := extT, prim := primS }

section
variable {σ : Nat → Nat → Value} [SigOk σ]
theorem runP_ok {E : Env} (hE : EnvOk E σ) (he : E.P = Tryz.prog) {d f : Nat} : PrimOk σ f (runP E d f) :=
  .of fun w0 args h nx outs ho ρ vs w hfr ha hw => by
    unfold runP at ho
    split at ho
    · rename_i l hr
      cases ho
      have := run_sound hE d w0 f args h nx _ (runV_le (E := E) (mask := mkT) (by rw [he]; exact stT) d f args h nx _ hr) ρ vs w hfr ha hw
      rwa [he] at this
    · cases ho
theorem extT_ok (w0 : World) (g : FuncId) (f : Heap → List Value → Option Value) (hg : extT g = some f) (h : Heap) (args : List Value) (v : Value) (hv : f h args = some v) (ρ : Ren) (vs : List Value) (w : World) (ha : RepL σ ρ args vs) (hw : WI σ w0 h ρ w) :
    ∃ v', (callFunc g vs.toArray).run Tryz.prog w = .ok (.value v') w ∧ Rep σ ρ v v' := by
  unfold extT at hg
  split at hg
  · cases hg
    exact cmpB_sound Tryz.func230 (by kernel_rfl) rfl (by kernel_rfl) (by kernel_rfl) hw ha hv
  · cases hg
    exact cmpB_sound Tryz.func417 (by kernel_rfl) rfl (by kernel_rfl) (by kernel_rfl) hw ha hv
  · cases hg
theorem primN_ok (g : FuncId) (f : Prim) (hg : primN g = some f) : PrimOk σ g f := by
  unfold primN at hg
  split at hg
  · cases hg; exact orP_ok (keysP_ok SL.keys) (keysP_ok SI.keys)
  · cases hg; exact keysP_ok SU.keys
  · cases hg; exact cloneP_ok
  · cases hg; exact copyP_ok
  · cases hg; exact may_ok
  · cases hg; exact lflows_ok tab0_ok
  · cases hg; exact lcmp_ok tab0_ok
  · cases hg
theorem envN_ok : EnvOk envN σ := ⟨extT_ok, primN_ok, LB.mixed⟩
theorem primS_ok (g : FuncId) (f : Prim) (hg : primS g = some f) : PrimOk σ g f := by
  unfold primS at hg
  split at hg
  · cases hg; exact orP_ok (.of fun w0 args h nx outs ho ρ vs w hfr ha hw => sortZ_sound ins285_sorts ho hfr ha hw) (runP_ok envN_ok rfl)
  · cases hg; exact orP_ok (.of fun w0 args h nx outs ho ρ vs w hfr ha hw => sortZ_sound ins342_sorts ho hfr ha hw) (runP_ok envN_ok rfl)
  · exact primN_ok _ f hg
theorem envS_ok : EnvOk envS σ := ⟨extT_ok, primS_ok, LB.mixed⟩
end
/-! ## begun -/
theorem says_le {a b : R (List Out)} {v : Value} (h : Le a b) (hs : says a v = true) : says b v = true := by
  cases a with
  | ok l => rw [h l rfl]; exact hs
  | no w => cases hs
set_option maxHeartbeats 0 in
theorem begun_says : says (runV envS mkT 60 7 [] .nil 0) (.bool true) = true := by kernel_rfl
theorem begun_run : says (run envS 60 7 [] .nil 0) (.bool true) = true := says_le (runV_le (E := envS) stT 60 7 [] .nil 0) begun_says
def fBegun : Prim := fun h nx args => match args with
  | [] => some [(.bool true, h, nx)]
  | _ => none
def primT (f : FuncId) : Option Prim := match f with
  | 7 => some fBegun
  | f => primS f
@[reducible] def envT : Env := { P := Tryz.prog, ext := extT, prim := primT }
section
variable {σ : Nat → Nat → Value} [SigOk σ]
theorem begun_ok : PrimOk σ 7 fBegun := .of fun w0 args h nx outs ho ρ vs w hfr ha hw => by
  unfold fBegun at ho
  split at ho
  case h_2 => cases ho
  cases ho
  cases ha
  refine (calls_of_run (envS_ok (σ := σ)) (v := .bool true) rfl begun_run w).mono ?_
  rintro e W ⟨rfl, hk⟩
  exact ⟨(.bool true, h, nx), List.mem_singleton.2 rfl, _, ρ, rfl, Ren.le_refl _, New.refl _ _, Nat.le_refl _, hfr, .plain rfl, hw.below ⟨hk.os, hk.tape, hk.output, hk.size, hk.block⟩⟩
theorem primT_ok (g : FuncId) (f : Prim) (hg : primT g = some f) : PrimOk σ g f := by
  unfold primT at hg
  split at hg
  · cases hg; exact begun_ok
  · exact primS_ok _ f hg
theorem envT_ok : EnvOk envT σ := ⟨extT_ok, primT_ok, LB.mixed⟩
end
end
end Go.Z
end

section
set_option linter.unusedSimpArgs false
set_option linter.unusedVariables false
set_option linter.unusedSectionVars false
set_option linter.deprecated false
/-! # the runs of TxnDies -/
namespace Go.Z
open Go.X Go.RowKit Go.Proofs Go.Proofs.LB
set_option linter.unusedSectionVars false
set_option linter.unusedVariables false
noncomputable section
/-! ## labels of symbols -/
def symL (g : Nat) : Nat → Nat → List Value
  | 0, _ => []
  | n + 1, p => .complex .f64 (g * 16 + p) 0 :: symL g n (p + 1)
/-- lengths: 0 is nil -/
def labV (n : Nat) : Nat → Value
  | 0 => .slice none 0 0
  | m + 1 => .complex .f32 n m
def cellsA (m : Nat) : List Value := symL (16 + (m - 1)) (m - 1) 0
def heapA (A : List Value) : Heap := Tr.ins .nil 1 (some (.ro A))
def diesQ (m : Nat) (e c : Bool) : Bool := says (runV envT mkT 80 3 [labV 0 m, .bool e, .bool c] (heapA (cellsA m)) 2) (.bool true)
end
end Go.Z
end
