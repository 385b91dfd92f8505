/- One part of a proof: an evaluator of the model, shown right, and contracts that it yields. No condition beyond those that each theorem names. -/
import Derived.Test.YtnhllgedoimhkaaGreatDoorZTA
set_option linter.unusedSimpArgs false
set_option linter.unusedVariables false
set_option linter.unusedSectionVars false
set_option linter.deprecated false
section
namespace Go.Z
open Go.X Go.RowKit Go.Proofs Go.Proofs.LB
set_option maxRecDepth 100000
noncomputable section
set_option maxHeartbeats 0 in
theorem stT : allSt Tryz.prog mkT = true := by kernel_rfl
def primN (f : FuncId) : Option Prim := match f with
 | 364 => some (orP (keysP 305 .i64 3) (keysP 537 .i64 3))
 | 486 => some (keysP 438 .u64 29)
 | 299 => some copyP
 | 241 => some growP
 | 7 => some (lab1 fMay)
 | 24 => some (lab2 (fFlows tab0))
 | 132 => some (lab2 (fCmp tab0))
 | _ => none
def extT (f : FuncId) : Option (Heap → List Value → Option Value) := match f with
 | 359 => some cmpB
 | 557 => some cmpB
 | 357 => some idxB
 | 422 => some countB
 | _ => none
@[reducible] def envN : Env := { P := Tryz.prog, ext := extT, prim := primN }
def primS (f : FuncId) : Option Prim := match f with
 | 426 => some (orP (sortZ .i64) (runP envN 20 426))
 | 524 => some (orP (sortZ .u64) (runP envN 20 524))
 | f => primN f
section
variable {σ : Nat → Nat → Value} [SigOk σ]
theorem runP_ok {E : Env} (hE : EnvOk E σ) (he : E.P = Tryz.prog) {d f : Nat} : PrimOk σ f (runP E d f) :=
 .of fun w0 args h nx outs ho ρ vs w hfr ha hw => by
  unfold runP at ho
  split at ho
  ·rename_i l hr
   cases ho
   have := run_sound hE d w0 f args h nx _ (runV_le (E := E) (mask := mkT) (by rw [he]; exact stT) d f args h nx _ hr) ρ vs w hfr ha hw
   rwa [he] at this
  ·cases ho
theorem extT_ok (w0 : World) (g : FuncId) (f : Heap → List Value → Option Value) (hg : extT g = some f) (h : Heap) (args : List Value) (v : Value) (hv : f h args = some v) (ρ : Ren) (vs : List Value) (w : World) (ha : RepL σ ρ args vs) (hw : WI σ w0 h ρ w) :
  ∃ v', (callFunc g vs.toArray).run Tryz.prog w = .ok (.value v') w ∧ Rep σ ρ v v' := by
 unfold extT at hg
 split at hg
 ·cases hg
  exact cmpB_sound Tryz.func359 (by kernel_rfl) rfl (by kernel_rfl) (by kernel_rfl) hw ha hv
 ·cases hg
  exact cmpB_sound Tryz.func557 (by kernel_rfl) rfl (by kernel_rfl) (by kernel_rfl) hw ha hv
 ·cases hg
  exact idxB_sound Tryz.func357 (by kernel_rfl) rfl (by kernel_rfl) (by kernel_rfl) ha hv
 ·cases hg
  exact countB_sound Tryz.func422 (by kernel_rfl) rfl (by kernel_rfl) (by kernel_rfl) ha hv
 ·cases hg
theorem primN_ok (g : FuncId) (f : Prim) (hg : primN g = some f) : PrimOk σ g f := by
 unfold primN at hg
 split at hg
 ·cases hg; exact orP_ok (keysP_ok SL.keys) (keysP_ok SI.keys)
 ·cases hg; exact keysP_ok SU.keys
 ·cases hg; exact copyP_ok
 ·cases hg; exact growP_ok
 ·cases hg; exact may_ok
 ·cases hg; exact lflows_ok tab0_ok
 ·cases hg; exact lcmp_ok tab0_ok
 ·cases hg
theorem envN_ok : EnvOk envN σ := ⟨extT_ok, primN_ok, LB.mixed⟩
theorem primS_ok (g : FuncId) (f : Prim) (hg : primS g = some f) : PrimOk σ g f := by
 unfold primS at hg
 split at hg
 ·cases hg; exact orP_ok (.of fun w0 args h nx outs ho ρ vs w hfr ha hw => sortZ_sound ins426_sorts ho hfr ha hw) (runP_ok envN_ok rfl)
 ·cases hg; exact orP_ok (.of fun w0 args h nx outs ho ρ vs w hfr ha hw => sortZ_sound ins524_sorts ho hfr ha hw) (runP_ok envN_ok rfl)
 ·exact primN_ok _ f hg
end
theorem says_le {a b : R (List Out)} {v : Value} (h : Le a b) (hs : says a v = true) : says b v = true := by
 cases a with
 | ok l => rw [h l rfl]; exact hs
 | no w => cases hs
end
end Go.Z
end
