/- One part of a proof: an evaluator of the model, shown right, and contracts that it yields. No condition beyond those that each theorem names. -/
import Derived.Test.YtbmfcghpppmfgaaGreatDoorZEB
import Derived.Test.YtbmfcghpppmfgaaGreatDoorZID
import Derived.Test.YtbmfcghpppmfgaaGreatDoorZI
import Derived.Test.YtbmfcghpppmfgaaGreatDoorZGR
section
set_option linter.unusedSimpArgs false
set_option linter.unusedVariables false
set_option linter.unusedSectionVars false
set_option linter.deprecated false
namespace Go.Z
open Go.X Go.RowKit Go.Proofs Go.Proofs.LB
set_option linter.unusedSectionVars false
set_option linter.unusedVariables false
set_option maxRecDepth 100000
noncomputable section
def primN (tab : List Laid) (f : FuncId) : Option Prim := match f with
 | 72 => some (laidP tab)
 | 380 => some (orP (keysP 307 .i64 3) (keysP 527 .i64 3))
 | 284 => some (keysP 216 .u64 31)
 | 84 => some cloneP
 | 301 => some copyP
 | 8 => some (lab1 fMay)
 | 179 => some (lab2 (fFlows tab0))
 | 137 => some (lab2 (fCmp tab0))
 | _ => none
@[reducible] def envN (tab : List Laid) : Env := { P := Tryz.prog, ext := extT, prim := primN tab }
def primS (tab : List Laid) (f : FuncId) : Option Prim := match f with
 | 441 => some (orP (sortZ .i64) (runP (envN tab) 20 441))
 | 355 => some (orP (sortZ .u64) (runP (envN tab) 20 355))
 | 175 => some (orP (insF 198) (runP (envN tab) 20 175))
 | 241 => some (orP growP (runP (envN tab) 20 241))
 | f => primN tab f
@[reducible] def envS (tab : List Laid) : Env := { P := Tryz.prog, ext := extT, prim := primS tab }
section
variable {σ : Nat → Nat → Value} [SigOk σ] {tab : List Laid}
def TabsOk (tab : List Laid) : Prop := ∀ x ∈ tab, laidOk x (run envB 60 72 x.args .nil 0) = true
theorem primN_ok (ht : TabsOk tab) (g : FuncId) (f : Prim) (hg : primN tab g = some f) : PrimOk σ g f := by
 unfold primN at hg
 split at hg
 ·cases hg; exact laidP_ok envB_ok rfl ht
 ·cases hg; exact orP_ok (keysP_ok SI.keys) (keysP_ok SL.keys)
 ·cases hg; exact keysP_ok SU.keys
 ·cases hg; exact cloneP_ok
 ·cases hg; exact copyP_ok
 ·cases hg; exact may_ok
 ·cases hg; exact lflows_ok tab0_ok
 ·cases hg; exact lcmp_ok tab0_ok
 ·cases hg
theorem envN_ok (ht : TabsOk tab) : EnvOk (envN tab) σ := ⟨extT_ok, primN_ok ht, LB.mixed⟩
theorem primS_ok (ht : TabsOk tab) (g : FuncId) (f : Prim) (hg : primS tab g = some f) : PrimOk σ g f := by
 unfold primS at hg
 split at hg
 ·cases hg; exact orP_ok (.of fun w0 args h nx outs ho ρ vs w hfr ha hw => sortZ_sound ins441_sorts ho hfr ha hw) (runP_ok (envN_ok ht) rfl)
 ·cases hg; exact orP_ok (.of fun w0 args h nx outs ho ρ vs w hfr ha hw => sortZ_sound ins355_sorts ho hfr ha hw) (runP_ok (envN_ok ht) rfl)
 ·cases hg
  exact orP_ok (.of fun w0 args h nx outs ho ρ vs w hfr ha hw => insF_sound (P := Tryz.prog) (f := 175) (e := 198) (zv := .pointer none) (by' := 8) ins175_shift ins175_grow rfl (by omega) ho hfr ha hw) (runP_ok (envN_ok ht) rfl)
 ·cases hg; exact orP_ok growP_ok (runP_ok (envN_ok ht) rfl)
 ·exact primN_ok ht _ f hg
theorem envS_ok (ht : TabsOk tab) : EnvOk (envS tab) σ := ⟨extT_ok, primS_ok ht, LB.mixed⟩
end
end
noncomputable section
set_option maxHeartbeats 0 in
theorem begun_says : says (runV (envS paT) mkT 60 7 [] .nil 0) (.bool true) = true := by kernel_rfl
theorem begun_run : says (run (envS paT) 60 7 [] .nil 0) (.bool true) = true := says_le (runV_le (E := envS paT) stT 60 7 [] .nil 0) begun_says
def fBegun : Prim := fun h nx args => match args with
 | [] => some [(.bool true, h, nx)]
 | _ => none
def primT (tab : List Laid) (f : FuncId) : Option Prim := match f with
 | 7 => some fBegun
 | f => primS tab f
@[reducible] def envT (tab : List Laid) : Env := { P := Tryz.prog, ext := extT, prim := primT tab }
section
variable {σ : Nat → Nat → Value} [SigOk σ] {tab : List Laid}
theorem begun_ok : PrimOk σ 7 fBegun := .of fun w0 args h nx outs ho ρ vs w hfr ha hw => by
 unfold fBegun at ho
 split at ho
 case h_2 => cases ho
 cases ho
 cases ha
 refine (calls_of_run (envS_ok (σ := σ) paT_ok) (v := .bool true) rfl begun_run w).mono ?_
 rintro e W ⟨rfl, hk⟩
 exact ⟨(.bool true, h, nx), List.mem_singleton.2 rfl, _, ρ, rfl, Ren.le_refl _, New.refl _ _, Nat.le_refl _, hfr, .plain rfl, hw.below ⟨hk.os, hk.tape, hk.output, hk.size, hk.block⟩⟩
theorem primT_ok (ht : TabsOk tab) (g : FuncId) (f : Prim) (hg : primT tab g = some f) : PrimOk σ g f := by
 unfold primT at hg
 split at hg
 ·cases hg; exact begun_ok
 ·exact primS_ok ht _ f hg
theorem envT_ok (ht : TabsOk tab) : EnvOk (envT tab) σ := ⟨extT_ok, primT_ok ht, LB.mixed⟩
end
end
end Go.Z
end
