/- One part of a proof: an evaluator of the model, shown right, and contracts that it yields. No condition beyond those that each theorem names. -/
import Derived.Test.YtnhllgedoimhkaaGreatDoorZG
set_option linter.unusedSimpArgs false
set_option linter.unusedVariables false
set_option linter.unusedSectionVars false
set_option linter.deprecated false
section
namespace Go.Z
open Go.X
noncomputable section
abbrev Ans := R (List Out)
inductive D16 where
 | d0 | d1 | d2 | d3 | d4 | d5 | d6 | d7 | d8 | d9 | d10 | d11 | d12 | d13 | d14 | d15
inductive EB where
 | mk (a0 a1 a2 a3 a4 a5 a6 a7 a8 a9 a10 a11 a12 a13 a14 a15 : Option Value)
inductive EA where
 | mk (a0 a1 a2 a3 a4 a5 a6 a7 a8 a9 a10 a11 a12 a13 a14 a15 : EB)
def D16.of (m : Nat) : D16 := (@Nat.rec (fun _ => D16) .d0 (fun m _ => (@Nat.rec (fun _ => D16) .d1 (fun m _ => (@Nat.rec (fun _ => D16) .d2 (fun m _ => (@Nat.rec (fun _ => D16) .d3 (fun m _ => (@Nat.rec (fun _ => D16) .d4 (fun m _ => (@Nat.rec (fun _ => D16) .d5 (fun m _ => (@Nat.rec (fun _ => D16) .d6 (fun m _ => (@Nat.rec (fun _ => D16) .d7 (fun m _ => (@Nat.rec (fun _ => D16) .d8 (fun m _ => (@Nat.rec (fun _ => D16) .d9 (fun m _ => (@Nat.rec (fun _ => D16) .d10 (fun m _ => (@Nat.rec (fun _ => D16) .d11 (fun m _ => (@Nat.rec (fun _ => D16) .d12 (fun m _ => (@Nat.rec (fun _ => D16) .d13 (fun m _ => (@Nat.rec (fun _ => D16) .d14 (fun m _ => .d15) m)) m)) m)) m)) m)) m)) m)) m)) m)) m)) m)) m)) m)) m)) m)
def EB.g0 (n : EB) : Option Value := @EB.rec (fun _ => Option Value) (fun a0 _ _ _ _ _ _ _ _ _ _ _ _ _ _ _ => a0) n
def EB.g1 (n : EB) : Option Value := @EB.rec (fun _ => Option Value) (fun _ a1 _ _ _ _ _ _ _ _ _ _ _ _ _ _ => a1) n
def EB.g2 (n : EB) : Option Value := @EB.rec (fun _ => Option Value) (fun _ _ a2 _ _ _ _ _ _ _ _ _ _ _ _ _ => a2) n
def EB.g3 (n : EB) : Option Value := @EB.rec (fun _ => Option Value) (fun _ _ _ a3 _ _ _ _ _ _ _ _ _ _ _ _ => a3) n
def EB.g4 (n : EB) : Option Value := @EB.rec (fun _ => Option Value) (fun _ _ _ _ a4 _ _ _ _ _ _ _ _ _ _ _ => a4) n
def EB.g5 (n : EB) : Option Value := @EB.rec (fun _ => Option Value) (fun _ _ _ _ _ a5 _ _ _ _ _ _ _ _ _ _ => a5) n
def EB.g6 (n : EB) : Option Value := @EB.rec (fun _ => Option Value) (fun _ _ _ _ _ _ a6 _ _ _ _ _ _ _ _ _ => a6) n
def EB.g7 (n : EB) : Option Value := @EB.rec (fun _ => Option Value) (fun _ _ _ _ _ _ _ a7 _ _ _ _ _ _ _ _ => a7) n
def EB.g8 (n : EB) : Option Value := @EB.rec (fun _ => Option Value) (fun _ _ _ _ _ _ _ _ a8 _ _ _ _ _ _ _ => a8) n
def EB.g9 (n : EB) : Option Value := @EB.rec (fun _ => Option Value) (fun _ _ _ _ _ _ _ _ _ a9 _ _ _ _ _ _ => a9) n
def EB.g10 (n : EB) : Option Value := @EB.rec (fun _ => Option Value) (fun _ _ _ _ _ _ _ _ _ _ a10 _ _ _ _ _ => a10) n
def EB.g11 (n : EB) : Option Value := @EB.rec (fun _ => Option Value) (fun _ _ _ _ _ _ _ _ _ _ _ a11 _ _ _ _ => a11) n
def EB.g12 (n : EB) : Option Value := @EB.rec (fun _ => Option Value) (fun _ _ _ _ _ _ _ _ _ _ _ _ a12 _ _ _ => a12) n
def EB.g13 (n : EB) : Option Value := @EB.rec (fun _ => Option Value) (fun _ _ _ _ _ _ _ _ _ _ _ _ _ a13 _ _ => a13) n
def EB.g14 (n : EB) : Option Value := @EB.rec (fun _ => Option Value) (fun _ _ _ _ _ _ _ _ _ _ _ _ _ _ a14 _ => a14) n
def EB.g15 (n : EB) : Option Value := @EB.rec (fun _ => Option Value) (fun _ _ _ _ _ _ _ _ _ _ _ _ _ _ _ a15 => a15) n
def EA.G0 (n : EA) : EB := @EA.rec (fun _ => EB) (fun a0 _ _ _ _ _ _ _ _ _ _ _ _ _ _ _ => a0) n
def EA.G1 (n : EA) : EB := @EA.rec (fun _ => EB) (fun _ a1 _ _ _ _ _ _ _ _ _ _ _ _ _ _ => a1) n
def EA.G2 (n : EA) : EB := @EA.rec (fun _ => EB) (fun _ _ a2 _ _ _ _ _ _ _ _ _ _ _ _ _ => a2) n
def EA.G3 (n : EA) : EB := @EA.rec (fun _ => EB) (fun _ _ _ a3 _ _ _ _ _ _ _ _ _ _ _ _ => a3) n
def EA.G4 (n : EA) : EB := @EA.rec (fun _ => EB) (fun _ _ _ _ a4 _ _ _ _ _ _ _ _ _ _ _ => a4) n
def EA.G5 (n : EA) : EB := @EA.rec (fun _ => EB) (fun _ _ _ _ _ a5 _ _ _ _ _ _ _ _ _ _ => a5) n
def EA.G6 (n : EA) : EB := @EA.rec (fun _ => EB) (fun _ _ _ _ _ _ a6 _ _ _ _ _ _ _ _ _ => a6) n
def EA.G7 (n : EA) : EB := @EA.rec (fun _ => EB) (fun _ _ _ _ _ _ _ a7 _ _ _ _ _ _ _ _ => a7) n
def EA.G8 (n : EA) : EB := @EA.rec (fun _ => EB) (fun _ _ _ _ _ _ _ _ a8 _ _ _ _ _ _ _ => a8) n
def EA.G9 (n : EA) : EB := @EA.rec (fun _ => EB) (fun _ _ _ _ _ _ _ _ _ a9 _ _ _ _ _ _ => a9) n
def EA.G10 (n : EA) : EB := @EA.rec (fun _ => EB) (fun _ _ _ _ _ _ _ _ _ _ a10 _ _ _ _ _ => a10) n
def EA.G11 (n : EA) : EB := @EA.rec (fun _ => EB) (fun _ _ _ _ _ _ _ _ _ _ _ a11 _ _ _ _ => a11) n
def EA.G12 (n : EA) : EB := @EA.rec (fun _ => EB) (fun _ _ _ _ _ _ _ _ _ _ _ _ a12 _ _ _ => a12) n
def EA.G13 (n : EA) : EB := @EA.rec (fun _ => EB) (fun _ _ _ _ _ _ _ _ _ _ _ _ _ a13 _ _ => a13) n
def EA.G14 (n : EA) : EB := @EA.rec (fun _ => EB) (fun _ _ _ _ _ _ _ _ _ _ _ _ _ _ a14 _ => a14) n
def EA.G15 (n : EA) : EB := @EA.rec (fun _ => EB) (fun _ _ _ _ _ _ _ _ _ _ _ _ _ _ _ a15 => a15) n
def EB.s0 (n : EB) (x : Option Value) (k : EB → Ans) : Ans := @EB.rec (fun _ => Option Value → (EB → Ans) → Ans) (fun _ a1 a2 a3 a4 a5 a6 a7 a8 a9 a10 a11 a12 a13 a14 a15 x k => k (.mk x a1 a2 a3 a4 a5 a6 a7 a8 a9 a10 a11 a12 a13 a14 a15)) n x k
def EB.s1 (n : EB) (x : Option Value) (k : EB → Ans) : Ans := @EB.rec (fun _ => Option Value → (EB → Ans) → Ans) (fun a0 _ a2 a3 a4 a5 a6 a7 a8 a9 a10 a11 a12 a13 a14 a15 x k => k (.mk a0 x a2 a3 a4 a5 a6 a7 a8 a9 a10 a11 a12 a13 a14 a15)) n x k
def EB.s2 (n : EB) (x : Option Value) (k : EB → Ans) : Ans := @EB.rec (fun _ => Option Value → (EB → Ans) → Ans) (fun a0 a1 _ a3 a4 a5 a6 a7 a8 a9 a10 a11 a12 a13 a14 a15 x k => k (.mk a0 a1 x a3 a4 a5 a6 a7 a8 a9 a10 a11 a12 a13 a14 a15)) n x k
def EB.s3 (n : EB) (x : Option Value) (k : EB → Ans) : Ans := @EB.rec (fun _ => Option Value → (EB → Ans) → Ans) (fun a0 a1 a2 _ a4 a5 a6 a7 a8 a9 a10 a11 a12 a13 a14 a15 x k => k (.mk a0 a1 a2 x a4 a5 a6 a7 a8 a9 a10 a11 a12 a13 a14 a15)) n x k
def EB.s4 (n : EB) (x : Option Value) (k : EB → Ans) : Ans := @EB.rec (fun _ => Option Value → (EB → Ans) → Ans) (fun a0 a1 a2 a3 _ a5 a6 a7 a8 a9 a10 a11 a12 a13 a14 a15 x k => k (.mk a0 a1 a2 a3 x a5 a6 a7 a8 a9 a10 a11 a12 a13 a14 a15)) n x k
def EB.s5 (n : EB) (x : Option Value) (k : EB → Ans) : Ans := @EB.rec (fun _ => Option Value → (EB → Ans) → Ans) (fun a0 a1 a2 a3 a4 _ a6 a7 a8 a9 a10 a11 a12 a13 a14 a15 x k => k (.mk a0 a1 a2 a3 a4 x a6 a7 a8 a9 a10 a11 a12 a13 a14 a15)) n x k
def EB.s6 (n : EB) (x : Option Value) (k : EB → Ans) : Ans := @EB.rec (fun _ => Option Value → (EB → Ans) → Ans) (fun a0 a1 a2 a3 a4 a5 _ a7 a8 a9 a10 a11 a12 a13 a14 a15 x k => k (.mk a0 a1 a2 a3 a4 a5 x a7 a8 a9 a10 a11 a12 a13 a14 a15)) n x k
def EB.s7 (n : EB) (x : Option Value) (k : EB → Ans) : Ans := @EB.rec (fun _ => Option Value → (EB → Ans) → Ans) (fun a0 a1 a2 a3 a4 a5 a6 _ a8 a9 a10 a11 a12 a13 a14 a15 x k => k (.mk a0 a1 a2 a3 a4 a5 a6 x a8 a9 a10 a11 a12 a13 a14 a15)) n x k
def EB.s8 (n : EB) (x : Option Value) (k : EB → Ans) : Ans := @EB.rec (fun _ => Option Value → (EB → Ans) → Ans) (fun a0 a1 a2 a3 a4 a5 a6 a7 _ a9 a10 a11 a12 a13 a14 a15 x k => k (.mk a0 a1 a2 a3 a4 a5 a6 a7 x a9 a10 a11 a12 a13 a14 a15)) n x k
def EB.s9 (n : EB) (x : Option Value) (k : EB → Ans) : Ans := @EB.rec (fun _ => Option Value → (EB → Ans) → Ans) (fun a0 a1 a2 a3 a4 a5 a6 a7 a8 _ a10 a11 a12 a13 a14 a15 x k => k (.mk a0 a1 a2 a3 a4 a5 a6 a7 a8 x a10 a11 a12 a13 a14 a15)) n x k
def EB.s10 (n : EB) (x : Option Value) (k : EB → Ans) : Ans := @EB.rec (fun _ => Option Value → (EB → Ans) → Ans) (fun a0 a1 a2 a3 a4 a5 a6 a7 a8 a9 _ a11 a12 a13 a14 a15 x k => k (.mk a0 a1 a2 a3 a4 a5 a6 a7 a8 a9 x a11 a12 a13 a14 a15)) n x k
def EB.s11 (n : EB) (x : Option Value) (k : EB → Ans) : Ans := @EB.rec (fun _ => Option Value → (EB → Ans) → Ans) (fun a0 a1 a2 a3 a4 a5 a6 a7 a8 a9 a10 _ a12 a13 a14 a15 x k => k (.mk a0 a1 a2 a3 a4 a5 a6 a7 a8 a9 a10 x a12 a13 a14 a15)) n x k
def EB.s12 (n : EB) (x : Option Value) (k : EB → Ans) : Ans := @EB.rec (fun _ => Option Value → (EB → Ans) → Ans) (fun a0 a1 a2 a3 a4 a5 a6 a7 a8 a9 a10 a11 _ a13 a14 a15 x k => k (.mk a0 a1 a2 a3 a4 a5 a6 a7 a8 a9 a10 a11 x a13 a14 a15)) n x k
def EB.s13 (n : EB) (x : Option Value) (k : EB → Ans) : Ans := @EB.rec (fun _ => Option Value → (EB → Ans) → Ans) (fun a0 a1 a2 a3 a4 a5 a6 a7 a8 a9 a10 a11 a12 _ a14 a15 x k => k (.mk a0 a1 a2 a3 a4 a5 a6 a7 a8 a9 a10 a11 a12 x a14 a15)) n x k
def EB.s14 (n : EB) (x : Option Value) (k : EB → Ans) : Ans := @EB.rec (fun _ => Option Value → (EB → Ans) → Ans) (fun a0 a1 a2 a3 a4 a5 a6 a7 a8 a9 a10 a11 a12 a13 _ a15 x k => k (.mk a0 a1 a2 a3 a4 a5 a6 a7 a8 a9 a10 a11 a12 a13 x a15)) n x k
def EB.s15 (n : EB) (x : Option Value) (k : EB → Ans) : Ans := @EB.rec (fun _ => Option Value → (EB → Ans) → Ans) (fun a0 a1 a2 a3 a4 a5 a6 a7 a8 a9 a10 a11 a12 a13 a14 _ x k => k (.mk a0 a1 a2 a3 a4 a5 a6 a7 a8 a9 a10 a11 a12 a13 a14 x)) n x k
def EA.S0 (n : EA) (x : EB) (k : EA → Ans) : Ans := @EA.rec (fun _ => EB → (EA → Ans) → Ans) (fun _ a1 a2 a3 a4 a5 a6 a7 a8 a9 a10 a11 a12 a13 a14 a15 x k => k (.mk x a1 a2 a3 a4 a5 a6 a7 a8 a9 a10 a11 a12 a13 a14 a15)) n x k
def EA.S1 (n : EA) (x : EB) (k : EA → Ans) : Ans := @EA.rec (fun _ => EB → (EA → Ans) → Ans) (fun a0 _ a2 a3 a4 a5 a6 a7 a8 a9 a10 a11 a12 a13 a14 a15 x k => k (.mk a0 x a2 a3 a4 a5 a6 a7 a8 a9 a10 a11 a12 a13 a14 a15)) n x k
def EA.S2 (n : EA) (x : EB) (k : EA → Ans) : Ans := @EA.rec (fun _ => EB → (EA → Ans) → Ans) (fun a0 a1 _ a3 a4 a5 a6 a7 a8 a9 a10 a11 a12 a13 a14 a15 x k => k (.mk a0 a1 x a3 a4 a5 a6 a7 a8 a9 a10 a11 a12 a13 a14 a15)) n x k
def EA.S3 (n : EA) (x : EB) (k : EA → Ans) : Ans := @EA.rec (fun _ => EB → (EA → Ans) → Ans) (fun a0 a1 a2 _ a4 a5 a6 a7 a8 a9 a10 a11 a12 a13 a14 a15 x k => k (.mk a0 a1 a2 x a4 a5 a6 a7 a8 a9 a10 a11 a12 a13 a14 a15)) n x k
def EA.S4 (n : EA) (x : EB) (k : EA → Ans) : Ans := @EA.rec (fun _ => EB → (EA → Ans) → Ans) (fun a0 a1 a2 a3 _ a5 a6 a7 a8 a9 a10 a11 a12 a13 a14 a15 x k => k (.mk a0 a1 a2 a3 x a5 a6 a7 a8 a9 a10 a11 a12 a13 a14 a15)) n x k
def EA.S5 (n : EA) (x : EB) (k : EA → Ans) : Ans := @EA.rec (fun _ => EB → (EA → Ans) → Ans) (fun a0 a1 a2 a3 a4 _ a6 a7 a8 a9 a10 a11 a12 a13 a14 a15 x k => k (.mk a0 a1 a2 a3 a4 x a6 a7 a8 a9 a10 a11 a12 a13 a14 a15)) n x k
def EA.S6 (n : EA) (x : EB) (k : EA → Ans) : Ans := @EA.rec (fun _ => EB → (EA → Ans) → Ans) (fun a0 a1 a2 a3 a4 a5 _ a7 a8 a9 a10 a11 a12 a13 a14 a15 x k => k (.mk a0 a1 a2 a3 a4 a5 x a7 a8 a9 a10 a11 a12 a13 a14 a15)) n x k
def EA.S7 (n : EA) (x : EB) (k : EA → Ans) : Ans := @EA.rec (fun _ => EB → (EA → Ans) → Ans) (fun a0 a1 a2 a3 a4 a5 a6 _ a8 a9 a10 a11 a12 a13 a14 a15 x k => k (.mk a0 a1 a2 a3 a4 a5 a6 x a8 a9 a10 a11 a12 a13 a14 a15)) n x k
def EA.S8 (n : EA) (x : EB) (k : EA → Ans) : Ans := @EA.rec (fun _ => EB → (EA → Ans) → Ans) (fun a0 a1 a2 a3 a4 a5 a6 a7 _ a9 a10 a11 a12 a13 a14 a15 x k => k (.mk a0 a1 a2 a3 a4 a5 a6 a7 x a9 a10 a11 a12 a13 a14 a15)) n x k
def EA.S9 (n : EA) (x : EB) (k : EA → Ans) : Ans := @EA.rec (fun _ => EB → (EA → Ans) → Ans) (fun a0 a1 a2 a3 a4 a5 a6 a7 a8 _ a10 a11 a12 a13 a14 a15 x k => k (.mk a0 a1 a2 a3 a4 a5 a6 a7 a8 x a10 a11 a12 a13 a14 a15)) n x k
def EA.S10 (n : EA) (x : EB) (k : EA → Ans) : Ans := @EA.rec (fun _ => EB → (EA → Ans) → Ans) (fun a0 a1 a2 a3 a4 a5 a6 a7 a8 a9 _ a11 a12 a13 a14 a15 x k => k (.mk a0 a1 a2 a3 a4 a5 a6 a7 a8 a9 x a11 a12 a13 a14 a15)) n x k
def EA.S11 (n : EA) (x : EB) (k : EA → Ans) : Ans := @EA.rec (fun _ => EB → (EA → Ans) → Ans) (fun a0 a1 a2 a3 a4 a5 a6 a7 a8 a9 a10 _ a12 a13 a14 a15 x k => k (.mk a0 a1 a2 a3 a4 a5 a6 a7 a8 a9 a10 x a12 a13 a14 a15)) n x k
def EA.S12 (n : EA) (x : EB) (k : EA → Ans) : Ans := @EA.rec (fun _ => EB → (EA → Ans) → Ans) (fun a0 a1 a2 a3 a4 a5 a6 a7 a8 a9 a10 a11 _ a13 a14 a15 x k => k (.mk a0 a1 a2 a3 a4 a5 a6 a7 a8 a9 a10 a11 x a13 a14 a15)) n x k
def EA.S13 (n : EA) (x : EB) (k : EA → Ans) : Ans := @EA.rec (fun _ => EB → (EA → Ans) → Ans) (fun a0 a1 a2 a3 a4 a5 a6 a7 a8 a9 a10 a11 a12 _ a14 a15 x k => k (.mk a0 a1 a2 a3 a4 a5 a6 a7 a8 a9 a10 a11 a12 x a14 a15)) n x k
def EA.S14 (n : EA) (x : EB) (k : EA → Ans) : Ans := @EA.rec (fun _ => EB → (EA → Ans) → Ans) (fun a0 a1 a2 a3 a4 a5 a6 a7 a8 a9 a10 a11 a12 a13 _ a15 x k => k (.mk a0 a1 a2 a3 a4 a5 a6 a7 a8 a9 a10 a11 a12 a13 x a15)) n x k
def EA.S15 (n : EA) (x : EB) (k : EA → Ans) : Ans := @EA.rec (fun _ => EB → (EA → Ans) → Ans) (fun a0 a1 a2 a3 a4 a5 a6 a7 a8 a9 a10 a11 a12 a13 a14 _ x k => k (.mk a0 a1 a2 a3 a4 a5 a6 a7 a8 a9 a10 a11 a12 a13 a14 x)) n x k
inductive LoBox where
 | mk (g : EB → Option Value) (s : EB → Option Value → (EB → Ans) → Ans)
inductive HiBox where
 | mk (g : EA → EB) (s : EA → EB → (EA → Ans) → Ans)
inductive Acc where
 | mk (g : EB → Option Value) (G : EA → EB) (s : EB → Option Value → (EB → Ans) → Ans) (S : EA → EB → (EA → Ans) → Ans)
 | no
def loOf (d : D16) : LoBox := @D16.rec (fun _ => LoBox) (.mk EB.g0 EB.s0) (.mk EB.g1 EB.s1) (.mk EB.g2 EB.s2) (.mk EB.g3 EB.s3) (.mk EB.g4 EB.s4) (.mk EB.g5 EB.s5) (.mk EB.g6 EB.s6) (.mk EB.g7 EB.s7) (.mk EB.g8 EB.s8) (.mk EB.g9 EB.s9) (.mk EB.g10 EB.s10) (.mk EB.g11 EB.s11) (.mk EB.g12 EB.s12) (.mk EB.g13 EB.s13) (.mk EB.g14 EB.s14) (.mk EB.g15 EB.s15) d
def hiOf (d : D16) : HiBox := @D16.rec (fun _ => HiBox) (.mk EA.G0 EA.S0) (.mk EA.G1 EA.S1) (.mk EA.G2 EA.S2) (.mk EA.G3 EA.S3) (.mk EA.G4 EA.S4) (.mk EA.G5 EA.S5) (.mk EA.G6 EA.S6) (.mk EA.G7 EA.S7) (.mk EA.G8 EA.S8) (.mk EA.G9 EA.S9) (.mk EA.G10 EA.S10) (.mk EA.G11 EA.S11) (.mk EA.G12 EA.S12) (.mk EA.G13 EA.S13) (.mk EA.G14 EA.S14) (.mk EA.G15 EA.S15) d
def accD (i j : D16) : Acc := @LoBox.rec (fun _ => Acc) (fun g s => @HiBox.rec (fun _ => Acc) (fun G S => .mk g G s S) (hiOf j)) (loOf i)
def accOf (t : Nat) : Acc := @Bool.rec (fun _ => Acc) .no (accD (D16.of (Nat.mod t 16)) (D16.of (Nat.div t 16))) (Nat.blt t 256)
def EA.get (e : EA) (t : Nat) : Option Value := @Acc.rec (fun _ => EA → Option Value) (fun g G _ _ e => g (G e)) (fun _ => none) (accOf t) e
def EA.set (d : Nat) (e : EA) (v : Value) (k : EA → Ans) : Ans := @Acc.rec (fun _ => EA → Value → (EA → Ans) → Ans) (fun g G s S e v k => s (G e) (some v) fun b => S e b k) (fun _ _ _ => .no ["temporaries"]) (accOf d) e v k
def EB.nil : EB := .mk none none none none none none none none none none none none none none none none
def EA.nil : EA := .mk EB.nil EB.nil EB.nil EB.nil EB.nil EB.nil EB.nil EB.nil EB.nil EB.nil EB.nil EB.nil EB.nil EB.nil EB.nil EB.nil
def D16.ix (d : D16) : Nat := @D16.rec (fun _ => Nat) 0 1 2 3 4 5 6 7 8 9 10 11 12 13 14 15 d
theorem D16.ix_of : ∀ (a : Nat), a < 16 → (D16.of a).ix = a
 | 0, _ => rfl
 | 1, _ => rfl
 | 2, _ => rfl
 | 3, _ => rfl
 | 4, _ => rfl
 | 5, _ => rfl
 | 6, _ => rfl
 | 7, _ => rfl
 | 8, _ => rfl
 | 9, _ => rfl
 | 10, _ => rfl
 | 11, _ => rfl
 | 12, _ => rfl
 | 13, _ => rfl
 | 14, _ => rfl
 | 15, _ => rfl
 | n + 16, h => absurd h (by omega)
theorem D16.of_inj {a b : Nat} (ha : a < 16) (hb : b < 16) (h : D16.of a = D16.of b) : a = b := by
 rw [← D16.ix_of a ha, ← D16.ix_of b hb, h]
def gB (i : D16) (b : EB) : Option Value := @LoBox.rec (fun _ => EB → Option Value) (fun g _ b => g b) (loOf i) b
def sB (i : D16) (b : EB) (x : Option Value) (k : EB → Ans) : Ans := @LoBox.rec (fun _ => EB → Option Value → (EB → Ans) → Ans) (fun _ s b x k => s b x k) (loOf i) b x k
def gA (i : D16) (b : EA) : EB := @HiBox.rec (fun _ => EA → EB) (fun g _ b => g b) (hiOf i) b
def sA (i : D16) (b : EA) (x : EB) (k : EA → Ans) : Ans := @HiBox.rec (fun _ => EA → EB → (EA → Ans) → Ans) (fun _ s b x k => s b x k) (hiOf i) b x k
theorem sB_eq (i : D16) (b : EB) (x : Option Value) : ∃ b', (∀ k, sB i b x k = k b') ∧ gB i b' = x ∧ ∀ j, j ≠ i → gB j b' = gB j b := by
 obtain ⟨a0, a1, a2, a3, a4, a5, a6, a7, a8, a9, a10, a11, a12, a13, a14, a15⟩ := b
 cases i
 ·exact ⟨.mk x a1 a2 a3 a4 a5 a6 a7 a8 a9 a10 a11 a12 a13 a14 a15, fun _ => rfl, rfl, fun j hj => by cases j <;> first | rfl | exact absurd rfl hj⟩
 ·exact ⟨.mk a0 x a2 a3 a4 a5 a6 a7 a8 a9 a10 a11 a12 a13 a14 a15, fun _ => rfl, rfl, fun j hj => by cases j <;> first | rfl | exact absurd rfl hj⟩
 ·exact ⟨.mk a0 a1 x a3 a4 a5 a6 a7 a8 a9 a10 a11 a12 a13 a14 a15, fun _ => rfl, rfl, fun j hj => by cases j <;> first | rfl | exact absurd rfl hj⟩
 ·exact ⟨.mk a0 a1 a2 x a4 a5 a6 a7 a8 a9 a10 a11 a12 a13 a14 a15, fun _ => rfl, rfl, fun j hj => by cases j <;> first | rfl | exact absurd rfl hj⟩
 ·exact ⟨.mk a0 a1 a2 a3 x a5 a6 a7 a8 a9 a10 a11 a12 a13 a14 a15, fun _ => rfl, rfl, fun j hj => by cases j <;> first | rfl | exact absurd rfl hj⟩
 ·exact ⟨.mk a0 a1 a2 a3 a4 x a6 a7 a8 a9 a10 a11 a12 a13 a14 a15, fun _ => rfl, rfl, fun j hj => by cases j <;> first | rfl | exact absurd rfl hj⟩
 ·exact ⟨.mk a0 a1 a2 a3 a4 a5 x a7 a8 a9 a10 a11 a12 a13 a14 a15, fun _ => rfl, rfl, fun j hj => by cases j <;> first | rfl | exact absurd rfl hj⟩
 ·exact ⟨.mk a0 a1 a2 a3 a4 a5 a6 x a8 a9 a10 a11 a12 a13 a14 a15, fun _ => rfl, rfl, fun j hj => by cases j <;> first | rfl | exact absurd rfl hj⟩
 ·exact ⟨.mk a0 a1 a2 a3 a4 a5 a6 a7 x a9 a10 a11 a12 a13 a14 a15, fun _ => rfl, rfl, fun j hj => by cases j <;> first | rfl | exact absurd rfl hj⟩
 ·exact ⟨.mk a0 a1 a2 a3 a4 a5 a6 a7 a8 x a10 a11 a12 a13 a14 a15, fun _ => rfl, rfl, fun j hj => by cases j <;> first | rfl | exact absurd rfl hj⟩
 ·exact ⟨.mk a0 a1 a2 a3 a4 a5 a6 a7 a8 a9 x a11 a12 a13 a14 a15, fun _ => rfl, rfl, fun j hj => by cases j <;> first | rfl | exact absurd rfl hj⟩
 ·exact ⟨.mk a0 a1 a2 a3 a4 a5 a6 a7 a8 a9 a10 x a12 a13 a14 a15, fun _ => rfl, rfl, fun j hj => by cases j <;> first | rfl | exact absurd rfl hj⟩
 ·exact ⟨.mk a0 a1 a2 a3 a4 a5 a6 a7 a8 a9 a10 a11 x a13 a14 a15, fun _ => rfl, rfl, fun j hj => by cases j <;> first | rfl | exact absurd rfl hj⟩
 ·exact ⟨.mk a0 a1 a2 a3 a4 a5 a6 a7 a8 a9 a10 a11 a12 x a14 a15, fun _ => rfl, rfl, fun j hj => by cases j <;> first | rfl | exact absurd rfl hj⟩
 ·exact ⟨.mk a0 a1 a2 a3 a4 a5 a6 a7 a8 a9 a10 a11 a12 a13 x a15, fun _ => rfl, rfl, fun j hj => by cases j <;> first | rfl | exact absurd rfl hj⟩
 ·exact ⟨.mk a0 a1 a2 a3 a4 a5 a6 a7 a8 a9 a10 a11 a12 a13 a14 x, fun _ => rfl, rfl, fun j hj => by cases j <;> first | rfl | exact absurd rfl hj⟩
theorem sA_eq (i : D16) (b : EA) (x : EB) : ∃ b', (∀ k, sA i b x k = k b') ∧ gA i b' = x ∧ ∀ j, j ≠ i → gA j b' = gA j b := by
 obtain ⟨a0, a1, a2, a3, a4, a5, a6, a7, a8, a9, a10, a11, a12, a13, a14, a15⟩ := b
 cases i
 ·exact ⟨.mk x a1 a2 a3 a4 a5 a6 a7 a8 a9 a10 a11 a12 a13 a14 a15, fun _ => rfl, rfl, fun j hj => by cases j <;> first | rfl | exact absurd rfl hj⟩
 ·exact ⟨.mk a0 x a2 a3 a4 a5 a6 a7 a8 a9 a10 a11 a12 a13 a14 a15, fun _ => rfl, rfl, fun j hj => by cases j <;> first | rfl | exact absurd rfl hj⟩
 ·exact ⟨.mk a0 a1 x a3 a4 a5 a6 a7 a8 a9 a10 a11 a12 a13 a14 a15, fun _ => rfl, rfl, fun j hj => by cases j <;> first | rfl | exact absurd rfl hj⟩
 ·exact ⟨.mk a0 a1 a2 x a4 a5 a6 a7 a8 a9 a10 a11 a12 a13 a14 a15, fun _ => rfl, rfl, fun j hj => by cases j <;> first | rfl | exact absurd rfl hj⟩
 ·exact ⟨.mk a0 a1 a2 a3 x a5 a6 a7 a8 a9 a10 a11 a12 a13 a14 a15, fun _ => rfl, rfl, fun j hj => by cases j <;> first | rfl | exact absurd rfl hj⟩
 ·exact ⟨.mk a0 a1 a2 a3 a4 x a6 a7 a8 a9 a10 a11 a12 a13 a14 a15, fun _ => rfl, rfl, fun j hj => by cases j <;> first | rfl | exact absurd rfl hj⟩
 ·exact ⟨.mk a0 a1 a2 a3 a4 a5 x a7 a8 a9 a10 a11 a12 a13 a14 a15, fun _ => rfl, rfl, fun j hj => by cases j <;> first | rfl | exact absurd rfl hj⟩
 ·exact ⟨.mk a0 a1 a2 a3 a4 a5 a6 x a8 a9 a10 a11 a12 a13 a14 a15, fun _ => rfl, rfl, fun j hj => by cases j <;> first | rfl | exact absurd rfl hj⟩
 ·exact ⟨.mk a0 a1 a2 a3 a4 a5 a6 a7 x a9 a10 a11 a12 a13 a14 a15, fun _ => rfl, rfl, fun j hj => by cases j <;> first | rfl | exact absurd rfl hj⟩
 ·exact ⟨.mk a0 a1 a2 a3 a4 a5 a6 a7 a8 x a10 a11 a12 a13 a14 a15, fun _ => rfl, rfl, fun j hj => by cases j <;> first | rfl | exact absurd rfl hj⟩
 ·exact ⟨.mk a0 a1 a2 a3 a4 a5 a6 a7 a8 a9 x a11 a12 a13 a14 a15, fun _ => rfl, rfl, fun j hj => by cases j <;> first | rfl | exact absurd rfl hj⟩
 ·exact ⟨.mk a0 a1 a2 a3 a4 a5 a6 a7 a8 a9 a10 x a12 a13 a14 a15, fun _ => rfl, rfl, fun j hj => by cases j <;> first | rfl | exact absurd rfl hj⟩
 ·exact ⟨.mk a0 a1 a2 a3 a4 a5 a6 a7 a8 a9 a10 a11 x a13 a14 a15, fun _ => rfl, rfl, fun j hj => by cases j <;> first | rfl | exact absurd rfl hj⟩
 ·exact ⟨.mk a0 a1 a2 a3 a4 a5 a6 a7 a8 a9 a10 a11 a12 x a14 a15, fun _ => rfl, rfl, fun j hj => by cases j <;> first | rfl | exact absurd rfl hj⟩
 ·exact ⟨.mk a0 a1 a2 a3 a4 a5 a6 a7 a8 a9 a10 a11 a12 a13 x a15, fun _ => rfl, rfl, fun j hj => by cases j <;> first | rfl | exact absurd rfl hj⟩
 ·exact ⟨.mk a0 a1 a2 a3 a4 a5 a6 a7 a8 a9 a10 a11 a12 a13 a14 x, fun _ => rfl, rfl, fun j hj => by cases j <;> first | rfl | exact absurd rfl hj⟩
theorem EA.get_eq {t : Nat} (h : t < 256) (e : EA) : e.get t = gB (D16.of (t % 16)) (gA (D16.of (t / 16)) e) := by
 have hb : Nat.blt t 256 = true := Nat.ble_eq_true_of_le h
 have e1 : accOf t = accD (D16.of (t % 16)) (D16.of (t / 16)) := by unfold accOf; rw [hb]; rfl
 unfold EA.get
 rw [e1]
 generalize D16.of (t % 16) = i
 generalize D16.of (t / 16) = j
 cases i <;> cases j <;> rfl
theorem EA.get_big {t : Nat} (h : ¬ t < 256) (e : EA) : e.get t = none := by
 have hb : Nat.blt t 256 = false := by
  cases hb : Nat.blt t 256 with
  | false => rfl
  | true => exact absurd (Nat.le_of_ble_eq_true hb) h
 unfold EA.get accOf
 rw [hb]
theorem EA.set_eq {d : Nat} (h : d < 256) (e : EA) (v : Value) (k : EA → Ans) : EA.set d e v k = sB (D16.of (d % 16)) (gA (D16.of (d / 16)) e) (some v) fun b => sA (D16.of (d / 16)) e b k := by
 have hb : Nat.blt d 256 = true := Nat.ble_eq_true_of_le h
 have e1 : accOf d = accD (D16.of (d % 16)) (D16.of (d / 16)) := by unfold accOf; rw [hb]; rfl
 unfold EA.set
 rw [e1]
 generalize D16.of (d % 16) = i
 generalize D16.of (d / 16) = j
 cases i <;> cases j <;> rfl
def EnvR (fe : EA) (e : Tr Value) : Prop := ∀ t v, fe.get t = some v → e.get t = some v
theorem EnvR.nil : EnvR EA.nil .nil := fun t v h => by
 by_cases ht : t < 256
 ·rw [EA.get_eq ht] at h
  generalize D16.of (t % 16) = i at h
  generalize D16.of (t / 16) = j at h
  have : gB i (gA j EA.nil) = none := by
   have h1 : gA j EA.nil = EB.nil := by cases j <;> rfl
   rw [h1]; cases i <;> rfl
  rw [this] at h; cases h
 ·rw [EA.get_big ht] at h; cases h
theorem EnvR.set {fe : EA} {e : Tr Value} (h : EnvR fe e) (d : Nat) (v : Value) : (∀ k, ∃ w, EA.set d fe v k = .no w) ∨ ∃ fe', (∀ k, EA.set d fe v k = k fe') ∧ EnvR fe' (e.ins d (some v)) := by
 by_cases hd : d < 256
 ·obtain ⟨b', hb, hb1, hb2⟩ := sB_eq (D16.of (d % 16)) (gA (D16.of (d / 16)) fe) (some v)
  obtain ⟨a', ha, ha1, ha2⟩ := sA_eq (D16.of (d / 16)) fe b'
  refine .inr ⟨a', fun k => ?_, fun t w hw => ?_⟩
  ·rw [EA.set_eq hd, hb, ha]
  ·rw [Tr.get_ins_all]
   by_cases ht : t < 256
   ·rw [EA.get_eq ht] at hw
    by_cases e1 : t / 16 = d / 16
    ·rw [e1, ha1] at hw
     by_cases e2 : t % 16 = d % 16
     ·rw [e2, hb1] at hw
      rw [if_pos (by omega)]; exact hw
     ·rw [hb2 _ (fun e => e2 (D16.of_inj (Nat.mod_lt _ (by decide)) (Nat.mod_lt _ (by decide)) e))] at hw
      rw [if_neg (by omega)]
      refine h t w ?_
      rw [EA.get_eq ht, e1]; exact hw
    ·rw [ha2 _ (fun e => e1 (D16.of_inj (by omega) (by omega) e))] at hw
     rw [if_neg (by omega)]
     refine h t w ?_
     rw [EA.get_eq ht]; exact hw
   ·rw [EA.get_big ht] at hw; cases hw
 ·have hb : Nat.blt d 256 = false := by
   cases hb : Nat.blt d 256 with
   | false => rfl
   | true => exact absurd (Nat.le_of_ble_eq_true hb) hd
  refine .inl fun k => ⟨["temporaries"], ?_⟩
  unfold EA.set accOf
  rw [hb]
end
noncomputable section
def fN (n : Nat) (k : Nat → Ans) : Ans := @Nat.rec (fun _ => (Nat → Ans) → Ans) (fun k => k 0) (fun m _ k => k (Nat.succ m)) n k
def bA (b : Bool) (f t : Ans) : Ans := @Bool.rec (fun _ => Ans) f t b
def oV (o : Option Value) (no : Ans) (k : Value → Ans) : Ans := @Option.rec Value (fun _ => Ans → (Value → Ans) → Ans) (fun no _ => no) (fun v _ k => k v) o no k
def oN (o : Option Nat) (no : Ans) (k : Nat → Ans) : Ans := @Option.rec Nat (fun _ => Ans → (Nat → Ans) → Ans) (fun no _ => no) (fun v _ k => k v) o no k
def oH (o : Option HO) (no : Ans) (k : HO → Ans) : Ans := @Option.rec HO (fun _ => Ans → (HO → Ans) → Ans) (fun no _ => no) (fun v _ k => k v) o no k
def oPtr (a : Option Addr) (no : Ans) (yes : Nat → Nat → Ans) : Ans := @Option.rec Addr (fun _ => Ans → (Nat → Nat → Ans) → Ans) (fun no _ => no)
 (fun a no yes => @Addr.rec (fun _ => Ans → (Nat → Nat → Ans) → Ans) (fun n off s no yes => @Option.rec Nat (fun _ => Nat → Nat → Ans → (Nat → Nat → Ans) → Ans) (fun n off _ yes => yes n off) (fun _ _ _ no _ => no) s n off no yes) a no yes) a no yes
def fFn (f : Fn) (a c : Array Value) (no : Ans) (yes : FuncId → Array Value → Array Value → Ans) : Ans :=
 @Fn.rec (fun _ => Array Value → Array Value → Ans → (FuncId → Array Value → Array Value → Ans) → Ans) (fun g a c _ yes => yes g a c) (fun _ _ _ no _ => no) (fun _ _ _ _ no _ => no) (fun _ _ _ _ _ _ no _ => no) (fun _ _ _ no _ => no) f a c no yes
def iNat (x : Int) (no : Ans) (k : Nat → Ans) : Ans := @Int.rec (fun _ => Ans → (Nat → Ans) → Ans) (fun a _ k => k a) (fun _ no _ => no) x no k
def oA (a : Option Addr) (no : Ans) (yes : Nat → Nat → Option Nat → Ans) : Ans := @Option.rec Addr (fun _ => Ans → (Nat → Nat → Option Nat → Ans) → Ans) (fun no _ => no)
 (fun a _ yes => @Addr.rec (fun _ => (Nat → Nat → Option Nat → Ans) → Ans) (fun n off s yes => yes n off s) a yes) a no yes
def vPtr (v : Value) (no : Ans) (yes : Nat → Nat → Ans) : Ans := @Value.rec (fun _ => Ans → (Nat → Nat → Ans) → Ans) (fun _ => PUnit) (fun _ => PUnit)
  (fun (_ : Bool) (no : Ans) (_ : Nat → Nat → Ans) => no)
  (fun (_ : IntKind) (_ : Int) (no : Ans) (_ : Nat → Nat → Ans) => no)
  (fun (_ : FloatKind) (_ : Nat) (no : Ans) (_ : Nat → Nat → Ans) => no)
  (fun (_ : FloatKind) (_ : Nat) (_ : Nat) (no : Ans) (_ : Nat → Nat → Ans) => no)
  (fun (_ : ByteArray) (no : Ans) (_ : Nat → Nat → Ans) => no)
  (fun (a : Option Addr) (no : Ans) (yes : Nat → Nat → Ans) => oPtr a no yes)
  (fun (_ : Option Addr) (_ : Nat) (_ : Nat) (no : Ans) (_ : Nat → Nat → Ans) => no)
  (fun (_ : Option Nat) (no : Ans) (_ : Nat → Nat → Ans) => no)
  (fun (_ : Option Nat) (no : Ans) (_ : Nat → Nat → Ans) => no)
  (fun (_ : Fn) (_ : Array Value) (_ : Array Value) (_ : PUnit) (_ : PUnit) (no : Ans) (_ : Nat → Nat → Ans) => no)
  (fun (no : Ans) (_ : Nat → Nat → Ans) => no)
  (fun (_ : TypeId) (_ : Value) (_ : Ans → (Nat → Nat → Ans) → Ans) (no : Ans) (_ : Nat → Nat → Ans) => no)
  (fun (no : Ans) (_ : Nat → Nat → Ans) => no)
  (fun (_ : Array Value) (_ : PUnit) (no : Ans) (_ : Nat → Nat → Ans) => no)
  (fun (_ : Array Value) (_ : PUnit) (no : Ans) (_ : Nat → Nat → Ans) => no)
  (fun (_ : List Value) (_ : PUnit) => PUnit.unit)
  PUnit.unit
  (fun (_ : Value) (_ : List Value) (_ : Ans → (Nat → Nat → Ans) → Ans) (_ : PUnit) => PUnit.unit) v no yes
def vBool (v : Value) (no : Ans) (yes : Bool → Ans) : Ans := @Value.rec (fun _ => Ans → (Bool → Ans) → Ans) (fun _ => PUnit) (fun _ => PUnit)
  (fun (b : Bool) (_ : Ans) (yes : Bool → Ans) => yes b)
  (fun (_ : IntKind) (_ : Int) (no : Ans) (_ : Bool → Ans) => no)
  (fun (_ : FloatKind) (_ : Nat) (no : Ans) (_ : Bool → Ans) => no)
  (fun (_ : FloatKind) (_ : Nat) (_ : Nat) (no : Ans) (_ : Bool → Ans) => no)
  (fun (_ : ByteArray) (no : Ans) (_ : Bool → Ans) => no)
  (fun (_ : Option Addr) (no : Ans) (_ : Bool → Ans) => no)
  (fun (_ : Option Addr) (_ : Nat) (_ : Nat) (no : Ans) (_ : Bool → Ans) => no)
  (fun (_ : Option Nat) (no : Ans) (_ : Bool → Ans) => no)
  (fun (_ : Option Nat) (no : Ans) (_ : Bool → Ans) => no)
  (fun (_ : Fn) (_ : Array Value) (_ : Array Value) (_ : PUnit) (_ : PUnit) (no : Ans) (_ : Bool → Ans) => no)
  (fun (no : Ans) (_ : Bool → Ans) => no)
  (fun (_ : TypeId) (_ : Value) (_ : Ans → (Bool → Ans) → Ans) (no : Ans) (_ : Bool → Ans) => no)
  (fun (no : Ans) (_ : Bool → Ans) => no)
  (fun (_ : Array Value) (_ : PUnit) (no : Ans) (_ : Bool → Ans) => no)
  (fun (_ : Array Value) (_ : PUnit) (no : Ans) (_ : Bool → Ans) => no)
  (fun (_ : List Value) (_ : PUnit) => PUnit.unit)
  PUnit.unit
  (fun (_ : Value) (_ : List Value) (_ : Ans → (Bool → Ans) → Ans) (_ : PUnit) => PUnit.unit) v no yes
def vInt (v : Value) (no : Ans) (yes : IntKind → Int → Ans) : Ans := @Value.rec (fun _ => Ans → (IntKind → Int → Ans) → Ans) (fun _ => PUnit) (fun _ => PUnit)
  (fun (_ : Bool) (no : Ans) (_ : IntKind → Int → Ans) => no)
  (fun (k : IntKind) (n : Int) (_ : Ans) (yes : IntKind → Int → Ans) => yes k n)
  (fun (_ : FloatKind) (_ : Nat) (no : Ans) (_ : IntKind → Int → Ans) => no)
  (fun (_ : FloatKind) (_ : Nat) (_ : Nat) (no : Ans) (_ : IntKind → Int → Ans) => no)
  (fun (_ : ByteArray) (no : Ans) (_ : IntKind → Int → Ans) => no)
  (fun (_ : Option Addr) (no : Ans) (_ : IntKind → Int → Ans) => no)
  (fun (_ : Option Addr) (_ : Nat) (_ : Nat) (no : Ans) (_ : IntKind → Int → Ans) => no)
  (fun (_ : Option Nat) (no : Ans) (_ : IntKind → Int → Ans) => no)
  (fun (_ : Option Nat) (no : Ans) (_ : IntKind → Int → Ans) => no)
  (fun (_ : Fn) (_ : Array Value) (_ : Array Value) (_ : PUnit) (_ : PUnit) (no : Ans) (_ : IntKind → Int → Ans) => no)
  (fun (no : Ans) (_ : IntKind → Int → Ans) => no)
  (fun (_ : TypeId) (_ : Value) (_ : Ans → (IntKind → Int → Ans) → Ans) (no : Ans) (_ : IntKind → Int → Ans) => no)
  (fun (no : Ans) (_ : IntKind → Int → Ans) => no)
  (fun (_ : Array Value) (_ : PUnit) (no : Ans) (_ : IntKind → Int → Ans) => no)
  (fun (_ : Array Value) (_ : PUnit) (no : Ans) (_ : IntKind → Int → Ans) => no)
  (fun (_ : List Value) (_ : PUnit) => PUnit.unit)
  PUnit.unit
  (fun (_ : Value) (_ : List Value) (_ : Ans → (IntKind → Int → Ans) → Ans) (_ : PUnit) => PUnit.unit) v no yes
def vSl (v : Value) (no : Ans) (yes : Option Addr → Nat → Nat → Ans) : Ans := @Value.rec (fun _ => Ans → (Option Addr → Nat → Nat → Ans) → Ans) (fun _ => PUnit) (fun _ => PUnit)
  (fun (_ : Bool) (no : Ans) (_ : Option Addr → Nat → Nat → Ans) => no)
  (fun (_ : IntKind) (_ : Int) (no : Ans) (_ : Option Addr → Nat → Nat → Ans) => no)
  (fun (_ : FloatKind) (_ : Nat) (no : Ans) (_ : Option Addr → Nat → Nat → Ans) => no)
  (fun (_ : FloatKind) (_ : Nat) (_ : Nat) (no : Ans) (_ : Option Addr → Nat → Nat → Ans) => no)
  (fun (_ : ByteArray) (no : Ans) (_ : Option Addr → Nat → Nat → Ans) => no)
  (fun (_ : Option Addr) (no : Ans) (_ : Option Addr → Nat → Nat → Ans) => no)
  (fun (a : Option Addr) (l c : Nat) (_ : Ans) (yes : Option Addr → Nat → Nat → Ans) => yes a l c)
  (fun (_ : Option Nat) (no : Ans) (_ : Option Addr → Nat → Nat → Ans) => no)
  (fun (_ : Option Nat) (no : Ans) (_ : Option Addr → Nat → Nat → Ans) => no)
  (fun (_ : Fn) (_ : Array Value) (_ : Array Value) (_ : PUnit) (_ : PUnit) (no : Ans) (_ : Option Addr → Nat → Nat → Ans) => no)
  (fun (no : Ans) (_ : Option Addr → Nat → Nat → Ans) => no)
  (fun (_ : TypeId) (_ : Value) (_ : Ans → (Option Addr → Nat → Nat → Ans) → Ans) (no : Ans) (_ : Option Addr → Nat → Nat → Ans) => no)
  (fun (no : Ans) (_ : Option Addr → Nat → Nat → Ans) => no)
  (fun (_ : Array Value) (_ : PUnit) (no : Ans) (_ : Option Addr → Nat → Nat → Ans) => no)
  (fun (_ : Array Value) (_ : PUnit) (no : Ans) (_ : Option Addr → Nat → Nat → Ans) => no)
  (fun (_ : List Value) (_ : PUnit) => PUnit.unit)
  PUnit.unit
  (fun (_ : Value) (_ : List Value) (_ : Ans → (Option Addr → Nat → Nat → Ans) → Ans) (_ : PUnit) => PUnit.unit) v no yes
def vStr (v : Value) (no : Ans) (yes : ByteArray → Ans) : Ans := @Value.rec (fun _ => Ans → (ByteArray → Ans) → Ans) (fun _ => PUnit) (fun _ => PUnit)
  (fun (_ : Bool) (no : Ans) (_ : ByteArray → Ans) => no)
  (fun (_ : IntKind) (_ : Int) (no : Ans) (_ : ByteArray → Ans) => no)
  (fun (_ : FloatKind) (_ : Nat) (no : Ans) (_ : ByteArray → Ans) => no)
  (fun (_ : FloatKind) (_ : Nat) (_ : Nat) (no : Ans) (_ : ByteArray → Ans) => no)
  (fun (s : ByteArray) (_ : Ans) (yes : ByteArray → Ans) => yes s)
  (fun (_ : Option Addr) (no : Ans) (_ : ByteArray → Ans) => no)
  (fun (_ : Option Addr) (_ : Nat) (_ : Nat) (no : Ans) (_ : ByteArray → Ans) => no)
  (fun (_ : Option Nat) (no : Ans) (_ : ByteArray → Ans) => no)
  (fun (_ : Option Nat) (no : Ans) (_ : ByteArray → Ans) => no)
  (fun (_ : Fn) (_ : Array Value) (_ : Array Value) (_ : PUnit) (_ : PUnit) (no : Ans) (_ : ByteArray → Ans) => no)
  (fun (no : Ans) (_ : ByteArray → Ans) => no)
  (fun (_ : TypeId) (_ : Value) (_ : Ans → (ByteArray → Ans) → Ans) (no : Ans) (_ : ByteArray → Ans) => no)
  (fun (no : Ans) (_ : ByteArray → Ans) => no)
  (fun (_ : Array Value) (_ : PUnit) (no : Ans) (_ : ByteArray → Ans) => no)
  (fun (_ : Array Value) (_ : PUnit) (no : Ans) (_ : ByteArray → Ans) => no)
  (fun (_ : List Value) (_ : PUnit) => PUnit.unit)
  PUnit.unit
  (fun (_ : Value) (_ : List Value) (_ : Ans → (ByteArray → Ans) → Ans) (_ : PUnit) => PUnit.unit) v no yes
def vTup (v : Value) (no : Ans) (yes : List Value → Ans) : Ans := @Value.rec (fun _ => Ans → (List Value → Ans) → Ans) (fun _ => PUnit) (fun _ => PUnit)
  (fun (_ : Bool) (no : Ans) (_ : List Value → Ans) => no)
  (fun (_ : IntKind) (_ : Int) (no : Ans) (_ : List Value → Ans) => no)
  (fun (_ : FloatKind) (_ : Nat) (no : Ans) (_ : List Value → Ans) => no)
  (fun (_ : FloatKind) (_ : Nat) (_ : Nat) (no : Ans) (_ : List Value → Ans) => no)
  (fun (_ : ByteArray) (no : Ans) (_ : List Value → Ans) => no)
  (fun (_ : Option Addr) (no : Ans) (_ : List Value → Ans) => no)
  (fun (_ : Option Addr) (_ : Nat) (_ : Nat) (no : Ans) (_ : List Value → Ans) => no)
  (fun (_ : Option Nat) (no : Ans) (_ : List Value → Ans) => no)
  (fun (_ : Option Nat) (no : Ans) (_ : List Value → Ans) => no)
  (fun (_ : Fn) (_ : Array Value) (_ : Array Value) (_ : PUnit) (_ : PUnit) (no : Ans) (_ : List Value → Ans) => no)
  (fun (no : Ans) (_ : List Value → Ans) => no)
  (fun (_ : TypeId) (_ : Value) (_ : Ans → (List Value → Ans) → Ans) (no : Ans) (_ : List Value → Ans) => no)
  (fun (no : Ans) (_ : List Value → Ans) => no)
  (fun (_ : Array Value) (_ : PUnit) (no : Ans) (_ : List Value → Ans) => no)
  (fun (a : Array Value) (_ : PUnit) (_ : Ans) (yes : List Value → Ans) => yes (Array.toList a))
  (fun (_ : List Value) (_ : PUnit) => PUnit.unit)
  PUnit.unit
  (fun (_ : Value) (_ : List Value) (_ : Ans → (List Value → Ans) → Ans) (_ : PUnit) => PUnit.unit) v no yes
def vAgg (v : Value) (no : Ans) (yes : List Value → Ans) : Ans := @Value.rec (fun _ => Ans → (List Value → Ans) → Ans) (fun _ => PUnit) (fun _ => PUnit)
  (fun (_ : Bool) (no : Ans) (_ : List Value → Ans) => no)
  (fun (_ : IntKind) (_ : Int) (no : Ans) (_ : List Value → Ans) => no)
  (fun (_ : FloatKind) (_ : Nat) (no : Ans) (_ : List Value → Ans) => no)
  (fun (_ : FloatKind) (_ : Nat) (_ : Nat) (no : Ans) (_ : List Value → Ans) => no)
  (fun (_ : ByteArray) (no : Ans) (_ : List Value → Ans) => no)
  (fun (_ : Option Addr) (no : Ans) (_ : List Value → Ans) => no)
  (fun (_ : Option Addr) (_ : Nat) (_ : Nat) (no : Ans) (_ : List Value → Ans) => no)
  (fun (_ : Option Nat) (no : Ans) (_ : List Value → Ans) => no)
  (fun (_ : Option Nat) (no : Ans) (_ : List Value → Ans) => no)
  (fun (_ : Fn) (_ : Array Value) (_ : Array Value) (_ : PUnit) (_ : PUnit) (no : Ans) (_ : List Value → Ans) => no)
  (fun (no : Ans) (_ : List Value → Ans) => no)
  (fun (_ : TypeId) (_ : Value) (_ : Ans → (List Value → Ans) → Ans) (no : Ans) (_ : List Value → Ans) => no)
  (fun (no : Ans) (_ : List Value → Ans) => no)
  (fun (a : Array Value) (_ : PUnit) (_ : Ans) (yes : List Value → Ans) => yes (Array.toList a))
  (fun (_ : Array Value) (_ : PUnit) (no : Ans) (_ : List Value → Ans) => no)
  (fun (_ : List Value) (_ : PUnit) => PUnit.unit)
  PUnit.unit
  (fun (_ : Value) (_ : List Value) (_ : Ans → (List Value → Ans) → Ans) (_ : PUnit) => PUnit.unit) v no yes
def vFn (v : Value) (no : Ans) (yes : FuncId → Array Value → Array Value → Ans) : Ans := @Value.rec (fun _ => Ans → (FuncId → Array Value → Array Value → Ans) → Ans) (fun _ => PUnit) (fun _ => PUnit)
  (fun (_ : Bool) (no : Ans) (_ : FuncId → Array Value → Array Value → Ans) => no)
  (fun (_ : IntKind) (_ : Int) (no : Ans) (_ : FuncId → Array Value → Array Value → Ans) => no)
  (fun (_ : FloatKind) (_ : Nat) (no : Ans) (_ : FuncId → Array Value → Array Value → Ans) => no)
  (fun (_ : FloatKind) (_ : Nat) (_ : Nat) (no : Ans) (_ : FuncId → Array Value → Array Value → Ans) => no)
  (fun (_ : ByteArray) (no : Ans) (_ : FuncId → Array Value → Array Value → Ans) => no)
  (fun (_ : Option Addr) (no : Ans) (_ : FuncId → Array Value → Array Value → Ans) => no)
  (fun (_ : Option Addr) (_ : Nat) (_ : Nat) (no : Ans) (_ : FuncId → Array Value → Array Value → Ans) => no)
  (fun (_ : Option Nat) (no : Ans) (_ : FuncId → Array Value → Array Value → Ans) => no)
  (fun (_ : Option Nat) (no : Ans) (_ : FuncId → Array Value → Array Value → Ans) => no)
  (fun (f : Fn) (a c : Array Value) (_ _ : PUnit) (no : Ans) (yes : FuncId → Array Value → Array Value → Ans) => fFn f a c no yes)
  (fun (no : Ans) (_ : FuncId → Array Value → Array Value → Ans) => no)
  (fun (_ : TypeId) (_ : Value) (_ : Ans → (FuncId → Array Value → Array Value → Ans) → Ans) (no : Ans) (_ : FuncId → Array Value → Array Value → Ans) => no)
  (fun (no : Ans) (_ : FuncId → Array Value → Array Value → Ans) => no)
  (fun (_ : Array Value) (_ : PUnit) (no : Ans) (_ : FuncId → Array Value → Array Value → Ans) => no)
  (fun (_ : Array Value) (_ : PUnit) (no : Ans) (_ : FuncId → Array Value → Array Value → Ans) => no)
  (fun (_ : List Value) (_ : PUnit) => PUnit.unit)
  PUnit.unit
  (fun (_ : Value) (_ : List Value) (_ : Ans → (FuncId → Array Value → Array Value → Ans) → Ans) (_ : PUnit) => PUnit.unit) v no yes
def vPA (v : Value) (no : Ans) (yes : Option Addr → Ans) : Ans := @Value.rec (fun _ => Ans → (Option Addr → Ans) → Ans) (fun _ => PUnit) (fun _ => PUnit)
  (fun (_ : Bool) (no : Ans) (_ : Option Addr → Ans) => no)
  (fun (_ : IntKind) (_ : Int) (no : Ans) (_ : Option Addr → Ans) => no)
  (fun (_ : FloatKind) (_ : Nat) (no : Ans) (_ : Option Addr → Ans) => no)
  (fun (_ : FloatKind) (_ : Nat) (_ : Nat) (no : Ans) (_ : Option Addr → Ans) => no)
  (fun (_ : ByteArray) (no : Ans) (_ : Option Addr → Ans) => no)
  (fun (a : Option Addr) (_ : Ans) (yes : Option Addr → Ans) => yes a)
  (fun (_ : Option Addr) (_ : Nat) (_ : Nat) (no : Ans) (_ : Option Addr → Ans) => no)
  (fun (_ : Option Nat) (no : Ans) (_ : Option Addr → Ans) => no)
  (fun (_ : Option Nat) (no : Ans) (_ : Option Addr → Ans) => no)
  (fun (_ : Fn) (_ : Array Value) (_ : Array Value) (_ : PUnit) (_ : PUnit) (no : Ans) (_ : Option Addr → Ans) => no)
  (fun (no : Ans) (_ : Option Addr → Ans) => no)
  (fun (_ : TypeId) (_ : Value) (_ : Ans → (Option Addr → Ans) → Ans) (no : Ans) (_ : Option Addr → Ans) => no)
  (fun (no : Ans) (_ : Option Addr → Ans) => no)
  (fun (_ : Array Value) (_ : PUnit) (no : Ans) (_ : Option Addr → Ans) => no)
  (fun (_ : Array Value) (_ : PUnit) (no : Ans) (_ : Option Addr → Ans) => no)
  (fun (_ : List Value) (_ : PUnit) => PUnit.unit)
  PUnit.unit
  (fun (_ : Value) (_ : List Value) (_ : Ans → (Option Addr → Ans) → Ans) (_ : PUnit) => PUnit.unit) v no yes
def fI (k : IntKind) (x : Int) (c : Value → Ans) : Ans := @Int.rec (fun _ => IntKind → (Value → Ans) → Ans) (fun a k c => fN a fun a => c (.int k (.ofNat a))) (fun a k c => fN a fun a => c (.int k (.negSucc a))) x k c
def fB (b : Bool) (c : Value → Ans) : Ans := @Bool.rec (fun _ => (Value → Ans) → Ans) (fun c => c (.bool false)) (fun c => c (.bool true)) b c
def fS (s : Option Nat) (c : Option Nat → Ans) : Ans := @Option.rec Nat (fun _ => (Option Nat → Ans) → Ans) (fun c => c none) (fun n c => fN n fun n => c (some n)) s c
def fA (a : Option Addr) (c : Option Addr → Ans) : Ans := oA a (c none) fun n off s => fN n fun n => fN off fun off => fS s fun s => c (some ⟨n, off, s⟩)
def fV (v : Value) (c : Value → Ans) : Ans := vInt v (vBool v (vPA v (vSl v (c v) fun a l m => fA a fun a => fN l fun l => fN m fun m => c (.slice a l m)) fun a => fA a fun a => c (.pointer a)) fun b => fB b c) fun k x => fI k x c
def lnth (n : Nat) (l : List Value) (no : Ans) (k : Value → Ans) : Ans :=
 @Nat.rec (fun _ => List Value → Ans → (Value → Ans) → Ans)
  (fun l no k => @List.rec Value (fun _ => Ans → (Value → Ans) → Ans) (fun no _ => no) (fun x _ _ _ k => k x) l no k)
  (fun _ ih l no k => @List.rec Value (fun _ => (List Value → Ans → (Value → Ans) → Ans) → Ans → (Value → Ans) → Ans) (fun _ no _ => no) (fun _ r _ ih no k => ih r no k) l ih no k) n l no k
def ldr (n : Nat) (l : List Value) (k : List Value → Ans) : Ans :=
 @Nat.rec (fun _ => List Value → (List Value → Ans) → Ans) (fun l k => k l)
  (fun _ ih l k => @List.rec Value (fun _ => (List Value → (List Value → Ans) → Ans) → (List Value → Ans) → Ans) (fun _ k => k []) (fun _ r _ ih k => ih r k) l ih k) n l k
def ltk (n : Nat) (l : List Value) (no : Ans) (k : List Value → Ans) : Ans :=
 @Nat.rec (fun _ => List Value → Ans → (List Value → Ans) → Ans) (fun _ _ k => k [])
  (fun _ ih l no k => @List.rec Value (fun _ => (List Value → Ans → (List Value → Ans) → Ans) → Ans → (List Value → Ans) → Ans) (fun _ no _ => no) (fun x r _ ih no k => ih r no fun c => k (x :: c)) l ih no k) n l no k
def lov (new : List Value) (l : List Value) (no : Ans) (k : List Value → Ans) : Ans :=
 @List.rec Value (fun _ => List Value → Ans → (List Value → Ans) → Ans) (fun l _ k => k l)
  (fun y _ ih l no k => @List.rec Value (fun _ => Value → (List Value → Ans → (List Value → Ans) → Ans) → Ans → (List Value → Ans) → Ans) (fun _ _ no _ => no) (fun _ r _ y ih no k => ih r no fun c => k (y :: c)) l y ih no k) new l no k
def lset (off : Nat) (new l : List Value) (no : Ans) (k : List Value → Ans) : Ans :=
 @Nat.rec (fun _ => List Value → List Value → Ans → (List Value → Ans) → Ans) lov
  (fun _ ih new l no k => @List.rec Value (fun _ => (List Value → List Value → Ans → (List Value → Ans) → Ans) → List Value → Ans → (List Value → Ans) → Ans) (fun _ _ no _ => no) (fun x r _ ih new no k => ih new r no fun c => k (x :: c)) l ih new no k) off new l no k
def l1 (l : List Value) (no : Ans) (k : Value → Ans) : Ans := @List.rec Value (fun _ => Ans → (Value → Ans) → Ans) (fun no _ => no) (fun x r _ no k => @List.rec Value (fun _ => Value → Ans → (Value → Ans) → Ans) (fun x _ k => k x) (fun _ _ _ _ no _ => no) r x no k) l no k
def l2 (l : List Value) (no : Ans) (k : Value → Value → Ans) : Ans := @List.rec Value (fun _ => Ans → (Value → Value → Ans) → Ans) (fun no _ => no) (fun x r _ no k => l1 r no fun y => k x y) l no k
def l3 (l : List Value) (no : Ans) (k : Value → Value → Value → Ans) : Ans := @List.rec Value (fun _ => Ans → (Value → Value → Value → Ans) → Ans) (fun no _ => no) (fun x r _ no k => l2 r no fun y z => k x y z) l no k
section laws
variable (no : Ans)
theorem fN_eq (n : Nat) (k : Nat → Ans) : fN n k = k n := by cases n <;> rfl
theorem fI_eq (j : IntKind) (x : Int) (k : Value → Ans) : fI j x k = k (.int j x) := by cases x <;> exact fN_eq _ _
theorem fB_eq (b : Bool) (k : Value → Ans) : fB b k = k (.bool b) := by cases b <;> rfl
theorem fS_eq (s : Option Nat) (k : Option Nat → Ans) : fS s k = k s := by
 cases s with
 | none => rfl
 | some n => exact fN_eq n _
theorem fA_eq (a : Option Addr) (k : Option Addr → Ans) : fA a k = k a := by
 cases a with
 | none => rfl
 | some a =>
  obtain ⟨n, off, s⟩ := a
  show fN n (fun n => fN off fun off => fS s fun s => k (some ⟨n, off, s⟩)) = _
  rw [fN_eq, fN_eq, fS_eq]
theorem fV_eq (v : Value) (k : Value → Ans) : fV v k = k v := by
 cases v with
 | int j n => exact fI_eq j n k
 | bool b => exact fB_eq b k
 | pointer a =>
  show fA a (fun a => k (.pointer a)) = _
  rw [fA_eq]
 | slice a l c =>
  show fA a (fun a => fN l fun l => fN c fun m => k (.slice a l m)) = _
  rw [fA_eq, fN_eq, fN_eq]
 | _ => rfl
theorem lnth_eq (k : Value → Ans) : ∀ (n : Nat) (l : List Value), lnth n l no k = (match l[n]? with | some v => k v | none => no)
 | 0, [] => rfl
 | 0, _ :: _ => rfl
 | n + 1, [] => rfl
 | n + 1, _ :: l => lnth_eq k n l
theorem ldr_eq (k : List Value → Ans) : ∀ (n : Nat) (l : List Value), ldr n l k = k (l.drop n)
 | 0, l => rfl
 | n + 1, [] => rfl
 | n + 1, _ :: l => ldr_eq k n l
theorem ltk_eq : ∀ (n : Nat) (l : List Value) (k : List Value → Ans), ltk n l no k = (match Nat.beq (l.take n).length n with | true => k (l.take n) | false => no)
 | 0, l, k => rfl
 | n + 1, [], k => rfl
 | n + 1, x :: l, k => by
  show ltk n l no (fun c => k (x :: c)) = _
  rw [ltk_eq n l]
  simp only [List.take_succ_cons, List.length_cons]
  rfl
theorem lov_eq : ∀ (new l : List Value) (k : List Value → Ans), lov new l no k = (match Nat.ble new.length l.length with | true => k (setAt l 0 new) | false => no)
 | [], l, k => by cases l <;> rfl
 | y :: new, [], k => rfl
 | y :: new, x :: l, k => by
  show lov new l no (fun c => k (y :: c)) = _
  rw [lov_eq new l]
  rfl
theorem lset_eq (new : List Value) : ∀ (off : Nat) (l : List Value) (k : List Value → Ans), new ≠ [] → lset off new l no k = (match Nat.ble (off + new.length) l.length with | true => k (setAt l off new) | false => no)
 | 0, l, k, _ => by rw [Nat.zero_add]; exact lov_eq no new l k
 | off + 1, [], k, h => by
  show no = _
  rw [show off + 1 + new.length = Nat.succ (off + new.length) by omega]
  rfl
 | off + 1, x :: l, k, h => by
  show lset off new l no (fun c => k (x :: c)) = _
  rw [lset_eq new off l _ h, show off + 1 + new.length = Nat.succ (off + new.length) by omega]
  cases new with
  | nil => exact absurd rfl h
  | cons y new => rfl
end laws
def getE (t : Nat) (env : EA) (no : Ans) (k : Value → Ans) : Ans := @Acc.rec (fun _ => EA → Ans → (Value → Ans) → Ans) (fun g G _ _ env no k => oV (g (G env)) no k) (fun _ no _ => no) (accOf t) env no k
def evF (x : Operand) (env : EA) (no : Ans) (k : Value → Ans) : Ans :=
 @Operand.rec (fun _ => EA → Ans → (Value → Ans) → Ans) getE (fun c _ no k => @Bool.rec (fun _ => Value → Ans → (Value → Ans) → Ans) (fun _ no _ => no) (fun c _ k => k c) (plainD c) c no k) (fun _ _ no _ => no) (fun f _ _ k => k (.func (.func f) #[] #[])) x env no k
def argsK (l : List Operand) (env : EA) (no : Ans) (k : List Value → Ans) : Ans :=
 @List.rec Operand (fun _ => EA → Ans → (List Value → Ans) → Ans) (fun _ _ k => k []) (fun x _ ih env no k => evF x env no fun v => ih env no fun vs => k (v :: vs)) l env no k
theorem oV_eq (o : Option Value) (no : Ans) (k : Value → Ans) : oV o no k = (match o with | some v => k v | none => no) := by cases o <;> rfl
theorem getE_eq (t : Nat) (env : EA) (no : Ans) (k : Value → Ans) : getE t env no k = oV (env.get t) no k := by
 unfold getE EA.get
 cases accOf t <;> rfl
theorem getE_ok {fe : EA} {e : Tr Value} (h : EnvR fe e) (t : Nat) (no : Ans) (k : Value → Ans) : getE t fe no k = no ∨ ∃ v, e.get t = some v ∧ getE t fe no k = k v := by
 rw [getE_eq, oV_eq]
 cases hg : fe.get t with
 | none => exact .inl rfl
 | some v => exact .inr ⟨v, h t v hg, rfl⟩
theorem evF_ok {fe : EA} {e : Tr Value} (h : EnvR fe e) (x : Operand) (no : Ans) (k : Value → Ans) : evF x fe no k = no ∨ ∃ v, evalZ e x = some v ∧ evF x fe no k = k v := by
 cases x with
 | tmp t => exact getE_ok h t no k
 | const c =>
  have e1 : evF (.const c) fe no k = @Bool.rec (fun _ => Value → Ans → (Value → Ans) → Ans) (fun _ no _ => no) (fun c _ k => k c) (plainD c) c no k := rfl
  have e2 : evalZ e (.const c) = (match plainD c with | true => some c | false => none) := rfl
  rw [e1, e2]
  cases plainD c with
  | false => exact .inl rfl
  | true => exact .inr ⟨c, rfl, rfl⟩
 | global g => exact .inl rfl
 | func f => exact .inr ⟨_, rfl, rfl⟩
theorem argsK_ok {fe : EA} {e : Tr Value} (h : EnvR fe e) : ∀ (l : List Operand) (no : Ans) (k : List Value → Ans), argsK l fe no k = no ∨ ∃ vs, argsOf (evalZ e) l = some vs ∧ argsK l fe no k = k vs
 | [], _, _ => .inr ⟨[], rfl, rfl⟩
 | x :: l, no, k => by
  have e1 : argsK (x :: l) fe no k = evF x fe no fun v => argsK l fe no fun vs => k (v :: vs) := rfl
  rw [e1]
  rcases evF_ok h x no (fun v => argsK l fe no fun vs => k (v :: vs)) with e2 | ⟨v, hv, e2⟩
  ·exact .inl e2
  ·rw [e2]
   rcases argsK_ok h l no (fun vs => k (v :: vs)) with e3 | ⟨vs, hvs, e3⟩
   ·exact .inl e3
   ·exact .inr ⟨v :: vs, by unfold argsOf; rw [hv]; simp only [hvs], e3⟩
def lim (k : IntKind) : Nat := @IntKind.rec (fun _ => Nat) 128 32768 2147483648 9223372036854775808 256 65536 4294967296 18446744073709551616 k
def two (k : IntKind) : Nat := @IntKind.rec (fun _ => Nat) 256 65536 4294967296 18446744073709551616 256 65536 4294967296 18446744073709551616 k
def bitsN (k : IntKind) : Nat := @IntKind.rec (fun _ => Nat) 8 16 32 64 8 16 32 64 k
def kix (k : IntKind) : Nat := @IntKind.rec (fun _ => Nat) 0 1 2 3 4 5 6 7 k
def chk (i : IntKind) (s : Nat) (no : Ans) (k : Value → Ans) : Ans := bA (Nat.blt s (lim i)) no (fN s fun s => k (.int i (.ofNat s)))
def opN (op : BinOp) (i : IntKind) (a b : Nat) (no : Ans) (k : Value → Ans) : Ans :=
 @BinOp.rec (fun _ => IntKind → Nat → Nat → Ans → (Value → Ans) → Ans)
  (fun i a b no k => chk i (Nat.add a b) no k)
  (fun i a b no k => bA (Nat.ble b a) no (chk i (Nat.sub a b) no k))
  (fun i a b no k => chk i (Nat.mul a b) no k)
  (fun _ _ _ no _ => no)
  (fun i a b no k => bA (Nat.beq b 0) (fN (Nat.mod a b) fun s => k (.int i (.ofNat s))) no)
  (fun i a b no k => bA (Nat.blt a (lim i)) no (bA (Nat.blt b (lim i)) no (chk i (Nat.land a b) no k)))
  (fun i a b no k => bA (Nat.blt a (lim i)) no (bA (Nat.blt b (lim i)) no (chk i (Nat.lor a b) no k)))
  (fun i a b no k => bA (Nat.blt a (lim i)) no (bA (Nat.blt b (lim i)) no (chk i (Nat.xor a b) no k)))
  (fun _ _ _ no _ => no)
  (fun _ _ _ no _ => no)
  (fun _ _ _ no _ => no)
  (fun _ a b _ k => fB (Nat.beq a b) k)
  (fun _ a b _ k => fB (not (Nat.beq a b)) k)
  (fun _ a b _ k => fB (Nat.blt a b) k)
  (fun _ a b _ k => fB (Nat.ble a b) k)
  (fun _ a b _ k => fB (Nat.blt b a) k)
  (fun _ a b _ k => fB (Nat.ble b a) k)
  op i a b no k
def shN (op : BinOp) (i : IntKind) (a b : Nat) (no : Ans) (k : Value → Ans) : Ans :=
 @BinOp.rec (fun _ => IntKind → Nat → Nat → Ans → (Value → Ans) → Ans)
  (fun _ _ _ no _ => no) (fun _ _ _ no _ => no) (fun _ _ _ no _ => no) (fun _ _ _ no _ => no) (fun _ _ _ no _ => no) (fun _ _ _ no _ => no) (fun _ _ _ no _ => no) (fun _ _ _ no _ => no)
  (fun i a b no k => bA (Nat.ble b (bitsN i)) no (chk i (Nat.shiftLeft a b) no k))
  (fun i a b no k => bA (Nat.ble b (bitsN i)) no (fN (Nat.shiftRight a b) fun s => k (.int i (.ofNat s))))
  (fun _ _ _ no _ => no) (fun _ _ _ no _ => no) (fun _ _ _ no _ => no) (fun _ _ _ no _ => no) (fun _ _ _ no _ => no) (fun _ _ _ no _ => no) (fun _ _ _ no _ => no)
  op i a b no k
def isSh (op : BinOp) : Bool := @BinOp.rec (fun _ => Bool) false false false false false false false false true true false false false false false false false op
def iLt (x y : Int) : Bool := @Int.rec (fun _ => Int → Bool) (fun a y => @Int.rec (fun _ => Nat → Bool) (fun b a => Nat.blt a b) (fun _ _ => false) y a) (fun a y => @Int.rec (fun _ => Nat → Bool) (fun _ _ => true) (fun b a => Nat.blt b a) y a) x y
def iEq (x y : Int) : Bool := @Int.rec (fun _ => Int → Bool) (fun a y => @Int.rec (fun _ => Nat → Bool) (fun b a => Nat.beq a b) (fun _ _ => false) y a) (fun a y => @Int.rec (fun _ => Nat → Bool) (fun _ _ => false) (fun b a => Nat.beq a b) y a) x y
def cmpI (op : BinOp) (x y : Int) (no : Ans) (k : Value → Ans) : Ans :=
 @BinOp.rec (fun _ => Int → Int → Ans → (Value → Ans) → Ans)
  (fun _ _ no _ => no) (fun _ _ no _ => no) (fun _ _ no _ => no) (fun _ _ no _ => no) (fun _ _ no _ => no) (fun _ _ no _ => no) (fun _ _ no _ => no) (fun _ _ no _ => no) (fun _ _ no _ => no) (fun _ _ no _ => no) (fun _ _ no _ => no)
  (fun x y _ k => fB (iEq x y) k)
  (fun x y _ k => fB (not (iEq x y)) k)
  (fun x y _ k => fB (iLt x y) k)
  (fun x y _ k => fB (not (iLt y x)) k)
  (fun x y _ k => fB (iLt y x) k)
  (fun x y _ k => fB (not (iLt x y)) k)
  op x y no k
def binI (op : BinOp) (i : IntKind) (x : Int) (j : IntKind) (y : Int) (no : Ans) (k : Value → Ans) : Ans :=
 bA (isSh op) (bA (Nat.beq (kix i) (kix j)) no (iNat x (cmpI op x y no k) fun a => iNat y (cmpI op x y no k) fun b => opN op i a b no k)) (iNat x no fun a => iNat y no fun b => shN op i a b no k)
def Ok1 (o : Option Value) (f : Ans → (Value → Ans) → Ans) : Prop := ∀ no k, f no k = no ∨ ∃ v, o = some v ∧ f no k = k v
theorem Ok1.no {o : Option Value} : Ok1 o (fun no _ => no) := fun _ _ => .inl rfl
theorem Ok1.yes {o : Option Value} {v : Value} (h : o = some v) : Ok1 o (fun _ k => k v) := fun _ _ => .inr ⟨v, h, rfl⟩
theorem Ok1.bA {o : Option Value} {b : Bool} {f t : Ans → (Value → Ans) → Ans} (hf : b = false → Ok1 o f) (ht : b = true → Ok1 o t) : Ok1 o (fun no k => Z.bA b (f no k) (t no k)) := fun no k => by
 cases b with
 | false => exact hf rfl no k
 | true => exact ht rfl no k
theorem Ok1.fN {o : Option Value} {n : Nat} {f : Nat → Ans → (Value → Ans) → Ans} (h : Ok1 o (f n)) : Ok1 o (fun no k => Z.fN n fun n => f n no k) := fun no k => by have := h no k; simp only [fN_eq]; exact this
theorem Ok1.oV {o : Option Value} : Ok1 o (fun no k => Z.oV o no k) := fun no k => by cases o; exact .inl rfl; exact .inr ⟨_, rfl, rfl⟩
theorem Ok1.slow {o : Option Value} : Ok1 o (fun no k => Z.oV o no fun v => fV v k) := fun no k => by
 cases o with
 | none => exact .inl rfl
 | some v => exact .inr ⟨v, rfl, fV_eq v k⟩
theorem wrap_small {i : IntKind} {s : Nat} (h : s < lim i) : i.wrap (s : Int) = (s : Int) := by
 cases i <;> simp only [lim] at h <;> simp [IntKind.wrap, IntKind.bits, IntKind.signed] <;> omega
theorem Ok1.chk {o : Option Value} {i : IntKind} {s : Nat} (h : s < lim i → o = some (.int i (Int.ofNat s))) : Ok1 o (fun no k => Z.chk i s no k) :=
 Ok1.bA (fun _ => Ok1.no) fun hb => Ok1.fN (Ok1.yes (h (Nat.le_of_ble_eq_true hb)))
variable {P : Program} {H : Heap} {t : TypeId}
theorem pureP_int (i : IntKind) (z : Int) : pureP P (pure (.int i z)) = some (.int i z) := rfl
theorem pureP_bool (b : Bool) : pureP P (pure (.bool b)) = some (.bool b) := rfl
theorem Ok1.fB {o : Option Value} {b : Bool} (h : o = some (.bool b)) : Ok1 o (fun _ k => Z.fB b k) := fun no k => by simp only [fB_eq]; exact .inr ⟨_, h, rfl⟩
theorem lt_bits {i : IntKind} {a : Nat} (h : a < lim i) : a % 2 ^ i.bits = a := by
 refine Nat.mod_eq_of_lt ?_
 cases i <;> simp only [lim] at h <;> simp [IntKind.bits] <;> omega
theorem opN_ok (op : BinOp) (i : IntKind) (a b : Nat) (hs : isSh op = false) : Ok1 (pureP P (binOp op t (.int i (Int.ofNat a)) (.int i (Int.ofNat b)))) (opN op i a b) := by
 have e : ∀ {z : Int} {s : Nat}, z = (s : Int) → s < lim i → some (Value.int i (i.wrap z)) = some (.int i (Int.ofNat s)) := fun hz hl => by subst hz; rw [wrap_small hl]; rfl
 cases op with
 | add => exact Ok1.chk fun h => by simp only [binOp, ne_eq, not_true_eq_false, if_false, Op.intArith, pureP_int]; exact e (by simp) h
 | sub =>
  exact Ok1.bA (fun _ => Ok1.no) fun hb => Ok1.chk fun h => by
   have := Nat.le_of_ble_eq_true hb
   simp only [binOp, ne_eq, not_true_eq_false, if_false, Op.intArith, pureP_int]; exact e (by simp [Int.ofNat_sub this]) h
 | mul => exact Ok1.chk fun h => by simp only [binOp, ne_eq, not_true_eq_false, if_false, Op.intArith, pureP_int]; exact e (by simp) h
 | quo => exact Ok1.no
 | rem =>
  exact Ok1.bA (fun hb => Ok1.fN (Ok1.yes (by
   have hb : b ≠ 0 := fun e => by subst e; cases hb
   have hb' : ¬ (Int.ofNat b = 0) := fun e => hb (Int.ofNat.inj e)
   simp only [binOp, ne_eq, not_true_eq_false, if_false, Op.intDiv, hb', pureP_int]; rfl))) fun _ => Ok1.no
 | and =>
  exact Ok1.bA (fun _ => Ok1.no) fun h1 => Ok1.bA (fun _ => Ok1.no) fun h2 => Ok1.chk fun h => by
   have h1 := Nat.le_of_ble_eq_true h1; have h2 := Nat.le_of_ble_eq_true h2
   simp only [binOp, ne_eq, not_true_eq_false, if_false, Op.intBits, pureP_int]; exact e (by simp [lt_bits h1, lt_bits h2]) h
 | or =>
  exact Ok1.bA (fun _ => Ok1.no) fun h1 => Ok1.bA (fun _ => Ok1.no) fun h2 => Ok1.chk fun h => by
   have h1 := Nat.le_of_ble_eq_true h1; have h2 := Nat.le_of_ble_eq_true h2
   simp only [binOp, ne_eq, not_true_eq_false, if_false, Op.intBits, pureP_int]; exact e (by simp [lt_bits h1, lt_bits h2]) h
 | xor =>
  exact Ok1.bA (fun _ => Ok1.no) fun h1 => Ok1.bA (fun _ => Ok1.no) fun h2 => Ok1.chk fun h => by
   have h1 := Nat.le_of_ble_eq_true h1; have h2 := Nat.le_of_ble_eq_true h2
   simp only [binOp, ne_eq, not_true_eq_false, if_false, Op.intBits, pureP_int]; exact e (by simp [lt_bits h1, lt_bits h2]) h
 | shl => cases hs
 | shr => cases hs
 | andNot => exact Ok1.no
 | eql =>
  exact Ok1.fB (by
   have : pureP P (binOp .eql t (.int i (Int.ofNat a)) (.int i (Int.ofNat b))) = some (.bool (Int.ofNat a == Int.ofNat b)) := by simp [binOp, Op.intCmp, pureP_bool]
   rw [this]; congr 2; rw [Bool.eq_iff_iff]; simp [Nat.beq_eq, Int.natCast_inj])
 | neq =>
  exact Ok1.fB (by
   have : pureP P (binOp .neq t (.int i (Int.ofNat a)) (.int i (Int.ofNat b))) = some (.bool (!(Int.ofNat a == Int.ofNat b))) := by simp [binOp, Op.intCmp, pureP_bool, bne]
   have hb : (Int.ofNat a == Int.ofNat b) = Nat.beq a b := by rw [Bool.eq_iff_iff]; simp [Nat.beq_eq, Int.natCast_inj]
   rw [this, hb])
 | lss => exact Ok1.fB (by simp [binOp, Op.intCmp, pureP_bool]; rw [Bool.eq_iff_iff]; simp [Nat.blt_eq])
 | leq => exact Ok1.fB (by simp [binOp, Op.intCmp, pureP_bool]; rw [Bool.eq_iff_iff]; simp)
 | gtr => exact Ok1.fB (by simp [binOp, Op.intCmp, pureP_bool]; rw [Bool.eq_iff_iff]; simp [Nat.blt_eq])
 | geq => exact Ok1.fB (by simp [binOp, Op.intCmp, pureP_bool]; rw [Bool.eq_iff_iff]; simp)
theorem shN_ok (op : BinOp) (i j : IntKind) (a b : Nat) : Ok1 (pureP P (binOp op t (.int i (Int.ofNat a)) (.int j (Int.ofNat b)))) (shN op i a b) := by
 have hb : ∀ i : IntKind, bitsN i = i.bits := fun i => by cases i <;> rfl
 cases op with
 | shl =>
  exact Ok1.bA (fun _ => Ok1.no) fun h1 => Ok1.chk fun h => by
   have h1 := Nat.le_of_ble_eq_true h1
   rw [hb] at h1
   have hn : ¬ (Int.ofNat b < 0) := by simp
   simp only [binOp, Op.shift, hn, if_false]
   have : min (Int.ofNat b).toNat i.bits = b := by simp; omega
   rw [this]
   show some (Value.int i (i.wrap (Int.ofNat a * 2 ^ b))) = _
   have e : (Int.ofNat a * 2 ^ b) = ((Nat.shiftLeft a b : Nat) : Int) := by
    show _ = ((a <<< b : Nat) : Int)
    rw [Nat.shiftLeft_eq]; simp
   rw [e, wrap_small h]; rfl
 | shr =>
  exact Ok1.bA (fun _ => Ok1.no) fun h1 => Ok1.fN (Ok1.yes (by
   have h1 := Nat.le_of_ble_eq_true h1
   rw [hb] at h1
   have hn : ¬ (Int.ofNat b < 0) := by simp
   simp only [binOp, Op.shift, hn, if_false]
   have : min (Int.ofNat b).toNat i.bits = b := by simp; omega
   rw [this]
   show some (Value.int i ((Int.ofNat a).fdiv (2 ^ b))) = _
   have e : (Int.ofNat a).fdiv (2 ^ b) = ((Nat.shiftRight a b : Nat) : Int) := by
    show _ = ((a >>> b : Nat) : Int)
    rw [Nat.shiftRight_eq_div_pow, Int.fdiv_eq_ediv_of_nonneg _ (by exact_mod_cast Nat.zero_le (2 ^ b))]
    simp
   rw [e]; rfl))
 | _ => exact Ok1.no
theorem iLt_eq (x y : Int) : iLt x y = decide (x < y) := by
 rw [Bool.eq_iff_iff, decide_eq_true_eq]
 cases x <;> cases y <;> simp [iLt, Nat.blt_eq] <;> omega
theorem iEq_eq (x y : Int) : iEq x y = decide (x = y) := by
 rw [Bool.eq_iff_iff, decide_eq_true_eq]
 cases x <;> cases y <;> simp [iEq, Nat.beq_eq] <;> omega
theorem cmpI_ok (op : BinOp) (i : IntKind) (x y : Int) : Ok1 (pureP P (binOp op t (.int i x) (.int i y))) (cmpI op x y) := by
 cases op with
 | eql => exact Ok1.fB (by simp only [binOp, ne_eq, not_true_eq_false, if_false, Op.intCmp, pureP_bool, iEq_eq]; congr 2)
 | neq => exact Ok1.fB (by simp only [binOp, ne_eq, not_true_eq_false, if_false, Op.intCmp, pureP_bool, iEq_eq]; congr 2)
 | lss => exact Ok1.fB (by simp only [binOp, ne_eq, not_true_eq_false, if_false, Op.intCmp, pureP_bool, iLt_eq])
 | leq => exact Ok1.fB (by simp only [binOp, ne_eq, not_true_eq_false, if_false, Op.intCmp, pureP_bool, iLt_eq]; congr 2; rw [Bool.eq_iff_iff]; simp)
 | gtr => exact Ok1.fB (by simp only [binOp, ne_eq, not_true_eq_false, if_false, Op.intCmp, pureP_bool, iLt_eq])
 | geq => exact Ok1.fB (by simp only [binOp, ne_eq, not_true_eq_false, if_false, Op.intCmp, pureP_bool, iLt_eq]; congr 2; rw [Bool.eq_iff_iff]; simp)
 | _ => exact Ok1.no
theorem kix_inj {i j : IntKind} (h : Nat.beq (kix i) (kix j) = true) : i = j := by cases i <;> cases j <;> first | rfl | cases h
theorem Ok1.iNat {o : Option Value} {x : Int} {f : Ans → (Value → Ans) → Ans} {g : Nat → Ans → (Value → Ans) → Ans} (hf : Ok1 o f) (hg : ∀ a, x = Int.ofNat a → Ok1 o (g a)) : Ok1 o (fun no k => Z.iNat x (f no k) fun a => g a no k) := fun no k => by
 cases x with
 | ofNat a => exact hg a rfl no k
 | negSucc a => exact hf no k
theorem binI_ok (op : BinOp) (i j : IntKind) (x y : Int) : Ok1 (pureP P (binOp op t (.int i x) (.int j y))) (binI op i x j y) := by
 refine Ok1.bA (fun hs => Ok1.bA (fun _ => Ok1.no) fun hk => ?_) fun hs => ?_
 ·have := kix_inj hk; subst this
  refine Ok1.iNat (cmpI_ok op i x y) fun a ha => Ok1.iNat (cmpI_ok op i x y) fun b hb => ?_
  subst ha; subst hb
  exact opN_ok op i a b hs
 ·refine Ok1.iNat Ok1.no fun a ha => Ok1.iNat Ok1.no fun b hb => ?_
  subst ha; subst hb
  exact shN_ok op i j a b
abbrev Qt := Program → Heap → TypeId → List Value → Ans → (Value → Ans) → Ans
def qSlow (op : Op) : Qt := fun P h ty args no k => oV (quiet P h op ty args) no fun v => fV v k
def hCells (o : HO) (no : Ans) (k : List Value → Ans) : Ans := @HO.rec (fun _ => Ans → (List Value → Ans) → Ans) (fun _ l _ k => k l) (fun _ _ l _ k => k l) (fun _ no _ => no) (fun l _ k => k l) (fun _ no _ => no) (fun _ _ no _ => no) (fun no _ => no) (fun _ _ no _ => no) (fun _ _ no _ => no) (fun _ _ no _ => no) (fun no _ => no) (fun _ no _ => no) (fun _ _ no _ => no) o no k
def oneB (P : Program) (t : TypeId) : Bool := match P.underlying t with
 | some (.struct _) => false
 | some (.array _ _) => false
 | some _ => (match sizeB P t with | some n => Nat.beq n 1 | none => false)
 | none => false
def aggB (P : Program) (t : TypeId) : Bool := match P.underlying t with
 | some (.struct _) => true
 | some (.array _ _) => true
 | _ => false
def ldOne (l : List Value) (no : Ans) (k : Value → Ans) : Ans := @List.rec Value (fun _ => Ans → (Value → Ans) → Ans) (fun no _ => no) (fun x _ _ _ k => k x) l no k
def ldAgg (P : Program) (t : TypeId) (l : List Value) (no : Ans) (k : Value → Ans) : Ans :=
 oN (sizeB P t) no fun z => ltk z l no fun c => bA (aggB P t) (oV (asVar P t c) no fun v => fV v k) (k (.agg (Array.mk c)))
def ldL (P : Program) (t : TypeId) (l : List Value) (no : Ans) (k : Value → Ans) : Ans := bA (oneB P t) (ldAgg P t l no k) (ldOne l no k)
def loadA (P : Program) (h : Heap) (t : TypeId) (n off : Nat) (no : Ans) (k : Value → Ans) : Ans := oH (Tr.get h n) no fun o => hCells o no fun l => ldr off l fun l => ldL P t l no k
def fOff (P : Program) (s : TypeId) (f : Nat) : Option Nat := match P.underlying s with
 | some (.struct fs) => (match fs[f]? with | some x => some x.offset | none => none)
 | _ => none
def fTy (P : Program) (s : TypeId) (f : Nat) : TypeId := match P.underlying s with
 | some (.struct fs) => (match fs[f]? with | some x => x.type | none => 0)
 | _ => 0
def elZ (P : Program) (t : TypeId) : Option Nat := match P.underlying t with
 | some (.slice e) => sizeB P e
 | _ => none
def isStrB (P : Program) (t : TypeId) : Bool := match P.underlying t with | some .string => true | _ => false
def slB (P : Program) (ts : Array TypeId) : Bool := match ts[0]? with
 | some t => (match P.underlying t with | some (.slice _) => true | _ => false)
 | none => false
def eqOpA (op : BinOp) (b : Bool) (no : Ans) (k : Value → Ans) : Ans :=
 @BinOp.rec (fun _ => Bool → Ans → (Value → Ans) → Ans) (fun _ no _ => no) (fun _ no _ => no) (fun _ no _ => no) (fun _ no _ => no) (fun _ no _ => no) (fun _ no _ => no) (fun _ no _ => no) (fun _ no _ => no) (fun _ no _ => no) (fun _ no _ => no) (fun _ no _ => no)
  (fun b _ k => fB b k) (fun b _ k => fB (not b) k) (fun _ no _ => no) (fun _ no _ => no) (fun _ no _ => no) (fun _ no _ => no) op b no k
def nilA (op : BinOp) (a b : Option Addr) (no : Ans) (k : Value → Ans) : Ans :=
 @Option.rec Addr (fun _ => BinOp → Option Addr → Ans → (Value → Ans) → Ans) (fun op b no k => @Option.rec Addr (fun _ => BinOp → Ans → (Value → Ans) → Ans) (fun op no k => eqOpA op true no k) (fun _ op no k => eqOpA op false no k) b op no k)
  (fun _ op b no k => @Option.rec Addr (fun _ => BinOp → Ans → (Value → Ans) → Ans) (fun op no k => eqOpA op false no k) (fun _ _ no _ => no) b op no k) a op b no k
def binS (P : Program) (h : Heap) (op : BinOp) (t : TypeId) (a b : Value) : Option Value := match symBin op a b with | some v => some v | none => binZ P h op t a b
def qBinA (op : BinOp) (t : TypeId) (P : Program) (h : Heap) (a b : Value) (no : Ans) (k : Value → Ans) : Ans :=
 vInt a (vPA a (vSl a (oV (binS P h op t a b) no fun v => fV v k)
   fun p _ _ => vSl b no fun q _ _ => bA (isSlice P t) no (nilA op p q no k))
   fun p => vPA b no fun q => bA (isPtr P t) no (nilA op p q (oV (binS P h op t a b) no fun v => fV v k) k))
  fun i x => vInt b (oV (binS P h op t a b) no fun v => fV v k) fun j y => binI op i x j y (oV (binS P h op t a b) no fun v => fV v k) k
def dstK (P : Program) (s t : TypeId) : Option IntKind := match P.underlying s, P.underlying t with | some _, some (.int k) => some k | _, _ => none
def oK (o : Option IntKind) (no : Ans) (k : IntKind → Ans) : Ans := @Option.rec IntKind (fun _ => Ans → (IntKind → Ans) → Ans) (fun no _ => no) (fun v _ k => k v) o no k
def bnth (n : Nat) (l : List UInt8) (no : Ans) (k : UInt8 → Ans) : Ans :=
 @Nat.rec (fun _ => List UInt8 → Ans → (UInt8 → Ans) → Ans)
  (fun l no k => @List.rec UInt8 (fun _ => Ans → (UInt8 → Ans) → Ans) (fun no _ => no) (fun x _ _ _ k => k x) l no k)
  (fun _ ih l no k => @List.rec UInt8 (fun _ => (List UInt8 → Ans → (UInt8 → Ans) → Ans) → Ans → (UInt8 → Ans) → Ans) (fun _ no _ => no) (fun _ r _ ih no k => ih r no k) l ih no k) n l no k
def q_move (x : Operand) : Qt := fun _ _ _ args no k => l1 args no k
def q_pick (c a b : Operand) : Qt := fun _ _ _ args no k => l3 args no fun c a b => vBool c no fun t => bA t (k b) (k a)
def q_load (t : TypeId) (x : Operand) : Qt := fun P h ty args no k => l1 args no fun v => vPtr v (qSlow (.load t x) P h ty args no k) fun n off => loadA P h t n off no k
def q_nilCheck (x : Operand) : Qt := fun P h ty args no k => l1 args no fun v => vPtr v (qSlow (.nilCheck x) P h ty args no k) fun _ _ => k v
def q_binOp (op : BinOp) (t : TypeId) (x y : Operand) (u : TypeId) : Qt := fun P h _ args no k => l2 args no fun a b => qBinA op t P h a b no k
def q_unOp (op : UnOp) (t : TypeId) (x : Operand) : Qt := fun P h ty args no k => @UnOp.rec (fun _ => Ans → Ans) (fun s => s) (fun s => s) (fun s => l1 args no fun v => vBool v s fun b => fB (not b) k) (fun s => s) op (qSlow (.unOp op t x) P h ty args no k)
def q_convert (src dst : TypeId) (x : Operand) : Qt := fun P h ty args no k => l1 args no fun v => vInt v (qSlow (.convert src dst x) P h ty args no k) fun _ n => oK (dstK P src dst) no fun j => iNat n (qSlow (.convert src dst x) P h ty args no k) fun a => chk j (Nat.mod a (two j)) (qSlow (.convert src dst x) P h ty args no k) k
def q_fieldAddr (s : TypeId) (x : Operand) (f : Nat) : Qt := fun P _ _ args no k => l1 args no fun v => vPtr v no fun n off => oN (fieldOff P s f) no fun q => fN (Nat.add off q) fun m => k (.pointer (some ⟨n, m, none⟩))
def q_field (s : TypeId) (x : Operand) (f : Nat) : Qt := fun P _ _ args no k => l1 args no fun v => vAgg v no fun c => oN (fOff P s f) no fun q => ldr q c fun r => ldL P (fTy P s f) r no k
def q_indexAddr (t : TypeId) (x i : Operand) : Qt := fun P h ty args no k => l2 args no fun v j => vSl v (qSlow (.indexAddr t x i) P h ty args no k) fun a len _ => vInt j no fun _ m => iNat m no fun q => oN (elZ P t) no fun z => bA (Nat.blt q len) no (oA a no fun n off _ => fN (Nat.add off (Nat.mul q z)) fun m => k (.pointer (some ⟨n, m, none⟩)))
def q_index (t : TypeId) (x i : Operand) : Qt := fun P h ty args no k => l2 args no fun v i => vStr v no fun s => vInt i no fun _ m => iNat m no fun q => bA (isStrB P t) no (bnth q (bytesOf s) no fun b => fN b.toNat fun b => k (.int .u8 (.ofNat b)))
def q_extract (x : Operand) (i : Nat) : Qt := fun _ _ _ args no k => l1 args no fun v => vTup v no fun l => lnth i l no k
def q_len (a : Array Operand) (ts : Array TypeId) : Qt := fun P h ty args no k => l1 args no fun v => vSl v (qSlow (.call { callee := .builtin .len, args := a, argTypes := ts }) P h ty args no k) fun _ n _ => bA (slB P ts) no (k (.int .i64 (.ofNat n)))
def isLen : Builtin → Bool
 | .len => true
 | _ => false
def q_builtin (b : Builtin) (a : Array Operand) (ts : Array TypeId) : Qt := @Bool.rec (fun _ => Qt) (qSlow (.call { callee := .builtin b, args := a, argTypes := ts })) (q_len a ts) (isLen b)
def q_callee (c : Callee) (a : Array Operand) (ts : Array TypeId) : Qt := @Callee.rec (fun _ => Array Operand → Array TypeId → Qt) (fun _ _ _ _ _ _ _ no _ => no) (fun _ _ _ _ _ _ _ _ no _ => no) q_builtin c a ts
def q_call (c : Call) : Qt := q_callee c.callee c.args c.argTypes
def quietA (op : Op) : Qt := @Op.rec (fun _ => Qt) q_move q_move q_pick (fun (x0 : TypeId) => qSlow (.alloc x0)) (fun (x0 : TypeId) (x1 : Operand) => qSlow (.box x0 x1)) (fun (x0 : TypeId) (x1 : Array (Nat × Operand)) => qSlow (.build x0 x1)) (fun (x0 : TypeId) (x1 : Nat) (x2 : Array (Nat × Operand)) => qSlow (.buildSlice x0 x1 x2)) (fun (x0 : TypeId) (x1 : Operand) (x2 : Operand) (x3 : Operand) => qSlow (.insert x0 x1 x2 x3)) q_load (fun (x0 : TypeId) (x1 : Operand) (x2 : Operand) => qSlow (.store x0 x1 x2)) (fun (x0 : Nat) => qSlow (.ready x0)) (fun (x0 : Nat) => qSlow (.waits x0)) q_nilCheck q_binOp q_unOp q_convert (fun (x0 : TypeId) (x1 : Operand) => qSlow (.sliceToArrayPointer x0 x1)) (fun (x0 : TypeId) (x1 : Operand) => qSlow (.makeInterface x0 x1)) (fun (x0 : Fn) (x1 : Array Operand) (x2 : Array Operand) => qSlow (.makeFunc x0 x1 x2)) (fun (x0 : TypeId) (x1 : Option Operand) => qSlow (.makeMap x0 x1)) (fun (x0 : TypeId) (x1 : Operand) => qSlow (.makeChan x0 x1)) (fun (x0 : TypeId) (x1 : Operand) (x2 : Operand) => qSlow (.makeSlice x0 x1 x2)) (fun (x0 : TypeId) (x1 : Operand) (x2 : Option Operand) (x3 : Option Operand) (x4 : Option Operand) => qSlow (.slice x0 x1 x2 x3 x4)) q_fieldAddr q_field q_indexAddr q_index (fun (x0 : TypeId) (x1 : Operand) (x2 : Operand) (x3 : Bool) => qSlow (.lookup x0 x1 x2 x3)) (fun (x0 : TypeId) (x1 : Operand) (x2 : Operand) (x3 : Operand) => qSlow (.mapUpdate x0 x1 x2 x3)) (fun (x0 : TypeId) (x1 : Operand) (x2 : Operand) => qSlow (.mapEntry x0 x1 x2)) (fun (x0 : TypeId) (x1 : Operand) (x2 : Operand) (x3 : Operand) => qSlow (.entryStore x0 x1 x2 x3)) (fun (x0 : TypeId) (x1 : Operand) => qSlow (.range x0 x1)) (fun (x0 : Operand) (x1 : Bool) => qSlow (.next x0 x1)) (fun (x0 : Operand) => qSlow (.entry x0)) (fun (x0 : Operand) (x1 : TypeId) (x2 : TypeId) (x3 : Bool) => qSlow (.typeAssert x0 x1 x2 x3)) q_extract q_call (fun (x0 : Call) => qSlow (.go x0)) (fun (x0 : Call) => qSlow (.defer x0)) (fun (x0 : Operand) => qSlow (.panic x0)) (fun (x0 : Operand) (x1 : Operand) => qSlow (.send x0 x1)) (fun (x0 : TypeId) (x1 : Operand) (x2 : Bool) => qSlow (.recv x0 x1 x2)) (fun (x0 : Array SelectCase) (x1 : Bool) => qSlow (.select x0 x1)) op
section quietlaws
variable {o : Option Value} {P : Program} {h : Heap} {ty : TypeId}
theorem Ok1.l1 {args : List Value} {g : Value → Ans → (Value → Ans) → Ans} (hg : ∀ x, args = [x] → Ok1 o (g x)) : Ok1 o (fun no k => Z.l1 args no fun x => g x no k) := fun no k => by
 rcases args with _ | ⟨a, _ | ⟨b, r⟩⟩
 ·exact .inl rfl
 ·exact hg a rfl no k
 ·exact .inl rfl
theorem Ok1.l2 {args : List Value} {g : Value → Value → Ans → (Value → Ans) → Ans} (hg : ∀ x y, args = [x, y] → Ok1 o (g x y)) : Ok1 o (fun no k => Z.l2 args no fun x y => g x y no k) := fun no k => by
 rcases args with _ | ⟨a, _ | ⟨b, _ | ⟨c, r⟩⟩⟩
 ·exact .inl rfl
 ·exact .inl rfl
 ·exact hg a b rfl no k
 ·exact .inl rfl
theorem Ok1.l3 {args : List Value} {g : Value → Value → Value → Ans → (Value → Ans) → Ans} (hg : ∀ x y z, args = [x, y, z] → Ok1 o (g x y z)) : Ok1 o (fun no k => Z.l3 args no fun x y z => g x y z no k) := fun no k => by
 rcases args with _ | ⟨a, _ | ⟨b, _ | ⟨c, _ | ⟨d, r⟩⟩⟩⟩
 ·exact .inl rfl
 ·exact .inl rfl
 ·exact .inl rfl
 ·exact hg a b c rfl no k
 ·exact .inl rfl
theorem Ok1.vInt {v : Value} {f : Ans → (Value → Ans) → Ans} {g : IntKind → Int → Ans → (Value → Ans) → Ans} (hf : Ok1 o f) (hg : ∀ i n, v = .int i n → Ok1 o (g i n)) : Ok1 o (fun no k => Z.vInt v (f no k) fun i n => g i n no k) := fun no k => by
 cases v with
 | int i n => exact hg i n rfl no k
 | _ => exact hf no k
theorem Ok1.vBool {v : Value} {f : Ans → (Value → Ans) → Ans} {g : Bool → Ans → (Value → Ans) → Ans} (hf : Ok1 o f) (hg : ∀ b, v = .bool b → Ok1 o (g b)) : Ok1 o (fun no k => Z.vBool v (f no k) fun b => g b no k) := fun no k => by
 cases v with
 | bool b => exact hg b rfl no k
 | _ => exact hf no k
theorem Ok1.vPtr {v : Value} {f : Ans → (Value → Ans) → Ans} {g : Nat → Nat → Ans → (Value → Ans) → Ans} (hf : Ok1 o f) (hg : ∀ n off, v = .pointer (some ⟨n, off, none⟩) → Ok1 o (g n off)) : Ok1 o (fun no k => Z.vPtr v (f no k) fun n off => g n off no k) := fun no k => by
 cases v with
 | pointer a =>
  cases a with
  | none => exact hf no k
  | some a =>
   obtain ⟨n, off, s⟩ := a
   cases s with
   | none => exact hg n off rfl no k
   | some s => exact hf no k
 | _ => exact hf no k
theorem Ok1.vPA {v : Value} {f : Ans → (Value → Ans) → Ans} {g : Option Addr → Ans → (Value → Ans) → Ans} (hf : Ok1 o f) (hg : ∀ a, v = .pointer a → Ok1 o (g a)) : Ok1 o (fun no k => Z.vPA v (f no k) fun a => g a no k) := fun no k => by
 cases v with
 | pointer a => exact hg a rfl no k
 | _ => exact hf no k
theorem Ok1.vSl {v : Value} {f : Ans → (Value → Ans) → Ans} {g : Option Addr → Nat → Nat → Ans → (Value → Ans) → Ans} (hf : Ok1 o f) (hg : ∀ a l c, v = .slice a l c → Ok1 o (g a l c)) : Ok1 o (fun no k => Z.vSl v (f no k) fun a l c => g a l c no k) := fun no k => by
 cases v with
 | slice a l c => exact hg a l c rfl no k
 | _ => exact hf no k
theorem Ok1.vStr {v : Value} {f : Ans → (Value → Ans) → Ans} {g : ByteArray → Ans → (Value → Ans) → Ans} (hf : Ok1 o f) (hg : ∀ s, v = .string s → Ok1 o (g s)) : Ok1 o (fun no k => Z.vStr v (f no k) fun s => g s no k) := fun no k => by
 cases v with
 | string s => exact hg s rfl no k
 | _ => exact hf no k
theorem Ok1.vTup {v : Value} {f : Ans → (Value → Ans) → Ans} {g : List Value → Ans → (Value → Ans) → Ans} (hf : Ok1 o f) (hg : ∀ a, v = .tuple a → Ok1 o (g a.toList)) : Ok1 o (fun no k => Z.vTup v (f no k) fun s => g s no k) := fun no k => by
 cases v with
 | tuple s => exact hg s rfl no k
 | _ => exact hf no k
theorem Ok1.vAgg {v : Value} {f : Ans → (Value → Ans) → Ans} {g : List Value → Ans → (Value → Ans) → Ans} (hf : Ok1 o f) (hg : ∀ a, v = .agg a → Ok1 o (g a.toList)) : Ok1 o (fun no k => Z.vAgg v (f no k) fun s => g s no k) := fun no k => by
 cases v with
 | agg s => exact hg s rfl no k
 | _ => exact hf no k
theorem Ok1.oN {q : Option Nat} {g : Nat → Ans → (Value → Ans) → Ans} (hg : ∀ n, q = some n → Ok1 o (g n)) : Ok1 o (fun no k => Z.oN q no fun n => g n no k) := fun no k => by
 cases q with
 | none => exact .inl rfl
 | some n => exact hg n rfl no k
theorem Ok1.oK {q : Option IntKind} {g : IntKind → Ans → (Value → Ans) → Ans} (hg : ∀ n, q = some n → Ok1 o (g n)) : Ok1 o (fun no k => Z.oK q no fun n => g n no k) := fun no k => by
 cases q with
 | none => exact .inl rfl
 | some n => exact hg n rfl no k
theorem Ok1.oA {q : Option Addr} {f : Ans → (Value → Ans) → Ans} {g : Nat → Nat → Option Nat → Ans → (Value → Ans) → Ans} (hf : Ok1 o f) (hg : ∀ n off s, q = some ⟨n, off, s⟩ → Ok1 o (g n off s)) : Ok1 o (fun no k => Z.oA q (f no k) fun n off s => g n off s no k) := fun no k => by
 cases q with
 | none => exact hf no k
 | some a => exact hg a.block a.off a.spot rfl no k
theorem Ok1.oH {q : Option HO} {g : HO → Ans → (Value → Ans) → Ans} (hg : ∀ n, q = some n → Ok1 o (g n)) : Ok1 o (fun no k => Z.oH q no fun n => g n no k) := fun no k => by
 cases q with
 | none => exact .inl rfl
 | some n => exact hg n rfl no k
theorem Ok1.hCells {q : HO} {g : List Value → Ans → (Value → Ans) → Ans} (hg : ∀ l, cellsOf q = some l → Ok1 o (g l)) : Ok1 o (fun no k => Z.hCells q no fun n => g n no k) := fun no k => by
 cases q with
 | cells t l => exact hg l rfl no k
 | grown t z l => exact hg l rfl no k
 | ro l => exact .inl rfl
 | str l => exact hg l rfl no k
 | map es => exact .inl rfl
 | chan c b => exact .inl rfl
 | dead => exact .inl rfl
 | perm _ _ => exact .inl rfl
 | mapI _ _ => exact .inl rfl
 | iter _ _ => exact .inl rfl
 | iter0 => exact .inl rfl
 | mapS _ => exact .inl rfl
 | lab _ _ => exact .inl rfl
theorem Ok1.ldr {n : Nat} {l : List Value} {g : List Value → Ans → (Value → Ans) → Ans} (hg : Ok1 o (g (l.drop n))) : Ok1 o (fun no k => Z.ldr n l fun n => g n no k) := fun no k => by
 simp only [ldr_eq]; exact hg no k
theorem Ok1.ltk {n : Nat} {l : List Value} {g : List Value → Ans → (Value → Ans) → Ans} (hg : Nat.beq (l.take n).length n = true → Ok1 o (g (l.take n))) : Ok1 o (fun no k => Z.ltk n l no fun n => g n no k) := fun no k => by
 simp only [ltk_eq]
 cases hb : Nat.beq (l.take n).length n with
 | true => exact hg hb no k
 | false => exact .inl rfl
theorem Ok1.lnth {n : Nat} {l : List Value} (hg : ∀ v, l[n]? = some v → o = some v) : Ok1 o (fun no k => Z.lnth n l no k) := fun no k => by
 simp only [lnth_eq]
 cases hb : l[n]? with
 | none => exact .inl rfl
 | some v => exact .inr ⟨v, hg v hb, rfl⟩
theorem Ok1.cast {o' : Option Value} {f : Ans → (Value → Ans) → Ans} (h : o = o') (hf : Ok1 o' f) : Ok1 o f := h ▸ hf
def ldS (P : Program) (t : TypeId) (l : List Value) : Option Value := match sizeB P t with
 | some z => (match Nat.beq (l.take z).length z with
  | true => asVar P t (l.take z)
  | false => none)
 | none => none
theorem ldL_ok (t : TypeId) (l : List Value) : Ok1 (ldS P t l) (ldL P t l) := by
 refine Ok1.bA (fun _ => ?_) fun h1 => ?_
 ·refine Ok1.oN fun z hz => Ok1.ltk fun hl => ?_
  have e : ldS P t l = asVar P t (l.take z) := by unfold ldS; rw [hz]; simp only [hl]
  refine Ok1.bA (fun _ => Ok1.cast e Ok1.slow) fun ha => Ok1.yes ?_
  rw [e]
  unfold aggB at ha
  unfold asVar
  split at ha
  ·rename_i hu; rw [hu]
  ·rename_i hu; rw [hu]
  ·cases ha
 ·intro no k
  cases l with
  | nil => exact .inl rfl
  | cons x l =>
   refine .inr ⟨x, ?_, rfl⟩
   unfold oneB at h1
   split at h1
   ·cases h1
   ·cases h1
   ·rename_i d hs ha hu
    split at h1
    ·rename_i n hn
     have := Nat.eq_of_beq_eq_true h1
     subst this
     unfold ldS
     rw [hn]
     show asVar P t [x] = some x
     unfold asVar
     rw [hu]
     cases d with
     | struct _ => exact (hs _ rfl).elim
     | array _ _ => exact (ha _ _ rfl).elim
     | _ => rfl
    ·cases h1
   ·cases h1
theorem loadA_ok (t : TypeId) (n off : Nat) : Ok1 (loadZ P h t n off) (loadA P h t n off) := by
 refine Ok1.oH fun ob ho => Ok1.hCells fun l hl => Ok1.ldr (Ok1.cast ?_ (ldL_ok t _))
 unfold loadZ ldS
 rw [ho]
 simp only [hl]
 cases sizeB P t <;> rfl
theorem eqOpA_ok {op : BinOp} {b : Bool} : Ok1 (asEq op b) (eqOpA op b) := by
 cases op with
 | eql => exact Ok1.fB rfl
 | neq => exact Ok1.fB rfl
 | _ => exact Ok1.no
theorem Ok1.alt {f : Ans → (Value → Ans) → Ans} {g : Ans → (Value → Ans) → Ans} (hf : Ok1 o f) (hg : Ok1 o g) : Ok1 o (fun no k => f (g no k) k) := fun no k => by
 rcases hf (g no k) k with e | ⟨v, hv, e⟩
 ·simp only [e]; exact hg no k
 ·exact .inr ⟨v, hv, e⟩
theorem binS_ints (op : BinOp) (t : TypeId) (i j : IntKind) (x y : Int) : binS P h op t (.int i x) (.int j y) = pureP P (binOp op t (.int i x) (.int j y)) := by
 unfold binS
 have : symBin op (.int i x) (.int j y) = none := by cases x <;> rfl
 rw [this]
 rfl
theorem qBinA_ok (op : BinOp) (t : TypeId) (a b : Value) : Ok1 (binS P h op t a b) (qBinA op t P h a b) := by
 refine Ok1.vInt (Ok1.vPA (Ok1.vSl Ok1.slow fun p l c ha => Ok1.vSl Ok1.no fun q l' c' hb => Ok1.bA (fun _ => Ok1.no) fun ht => ?_) fun p ha => Ok1.vPA Ok1.no fun q hb => Ok1.bA (fun _ => Ok1.no) fun ht => ?_) fun i x ha => Ok1.vInt Ok1.slow fun j y hb => ?_
 ·subst ha; subst hb
  cases p with
  | none =>
   cases q with
   | none => exact Ok1.cast (show eqIf (isSlice P t) op true = _ by rw [ht]; rfl) eqOpA_ok
   | some q => exact Ok1.cast (show eqIf (isSlice P t) op false = _ by rw [ht]; rfl) eqOpA_ok
  | some p =>
   cases q with
   | none => exact Ok1.cast (show eqIf (isSlice P t) op false = _ by rw [ht]; rfl) eqOpA_ok
   | some q => exact Ok1.no
 ·subst ha; subst hb
  refine Ok1.alt (f := fun no k => nilA op p q no k) ?_ Ok1.slow
  cases p with
  | none =>
   cases q with
   | none => exact Ok1.cast (show eqIf (isPtr P t) op true = _ by rw [ht]; rfl) eqOpA_ok
   | some q => exact Ok1.cast (show eqIf (isPtr P t) op false = _ by rw [ht]; rfl) eqOpA_ok
  | some p =>
   cases q with
   | none => exact Ok1.cast (show eqIf (isPtr P t) op false = _ by rw [ht]; rfl) eqOpA_ok
   | some q => exact Ok1.no
 ·subst ha; subst hb
  exact Ok1.alt (f := fun no k => binI op i x j y no k) (Ok1.cast (binS_ints op t i j x y) (binI_ok (P := P) (t := t) op i j x y)) Ok1.slow
theorem bnth_eq (no : Ans) (k : UInt8 → Ans) : ∀ (n : Nat) (l : List UInt8), bnth n l no k = (match l[n]? with | some v => k v | none => no)
 | 0, [] => rfl
 | 0, _ :: _ => rfl
 | n + 1, [] => rfl
 | n + 1, _ :: l => bnth_eq no k n l
theorem quietA_ok (op : Op) (args : List Value) : Ok1 (quiet P h op ty args) (quietA op P h ty args) := by
 cases op with
 | move x => exact Ok1.l1 fun x hx => Ok1.yes (by rw [hx]; rfl)
 | assign x => exact Ok1.l1 fun x hx => Ok1.yes (by rw [hx]; rfl)
 | pick c a b => exact Ok1.l3 fun c a b hx => Ok1.vBool Ok1.no fun t ht => Ok1.bA (fun e => Ok1.yes (by rw [hx, ht, e]; rfl)) fun e => Ok1.yes (by rw [hx, ht, e]; rfl)
 | load t x => exact Ok1.l1 fun v hx => Ok1.vPtr Ok1.slow fun n off hv => Ok1.cast (by rw [hx, hv]; rfl) (loadA_ok t n off)
 | nilCheck x => exact Ok1.l1 fun v hx => Ok1.vPtr Ok1.slow fun n off hv => Ok1.yes (by rw [hx, hv]; rfl)
 | binOp op t x y u => exact Ok1.l2 fun a b hx => Ok1.cast (by rw [hx]; rfl) (qBinA_ok op t a b)
 | unOp op t x =>
  cases op with
  | not => exact Ok1.l1 fun v hx => Ok1.vBool Ok1.slow fun b hb => Ok1.fB (by rw [hx, hb]; rfl)
  | _ => exact Ok1.slow
 | convert src dst x =>
  refine Ok1.l1 fun v hx => Ok1.vInt Ok1.slow fun i n hv => Ok1.oK fun j hj => Ok1.iNat Ok1.slow fun a ha => ?_
  refine Ok1.alt (f := fun no k => Z.chk j (Nat.mod a (two j)) no k) (Ok1.chk fun hl => ?_) Ok1.slow
  unfold dstK at hj
  split at hj
  ·rename_i d kk hs hu
   cases hj
   subst hx; subst hv; subst ha
   have e : (j.wrap (Int.ofNat a)) = ((Nat.mod a (two j) : Nat) : Int) := by
    have h1 : j.wrap (Int.ofNat a) = j.wrap ((Nat.mod a (two j) : Nat) : Int) := by
     have hm : ∀ n, Nat.mod a n = a % n := fun _ => rfl
     rw [hm]
     cases j <;> simp [IntKind.wrap, IntKind.bits, two]
    rw [h1, wrap_small hl]
   have hc : pureRun P (convert src dst (.int i (Int.ofNat a))) = some (.int j (j.wrap (Int.ofNat a))) := by
    simp only [convert, underlying, program, bind, pure, Sem.bind, pureRun, hs, hu]
    rfl
   simp only [quiet, hu, pureP, hc, e]
   rfl
  ·cases hj
 | fieldAddr s x f => exact Ok1.l1 fun v hx => Ok1.vPtr Ok1.no fun n off hv => Ok1.oN fun q hq => Ok1.fN (Ok1.yes (by rw [hx, hv]; simp only [quiet, hq]; rfl))
 | field s x f =>
  refine Ok1.l1 fun v hx => Ok1.vAgg Ok1.no fun c hv => Ok1.oN fun q hq => Ok1.ldr (Ok1.cast ?_ (ldL_ok _ _))
  unfold fOff at hq
  unfold fTy ldS
  subst hx; subst hv
  split at hq
  ·rename_i fs hu
   split at hq
   ·rename_i x hf
    cases hq
    simp only [quiet, hu, hf]
    cases sizeB P x.type <;> rfl
   ·cases hq
  ·cases hq
 | indexAddr t x i =>
  refine Ok1.l2 fun v j hx => Ok1.vSl Ok1.slow fun a len cap hv => Ok1.vInt Ok1.no fun kk m hj => Ok1.iNat Ok1.no fun q hq => Ok1.oN fun z hz => Ok1.bA (fun _ => Ok1.no) fun hlt => Ok1.oA Ok1.no fun n off s ha => Ok1.fN (Ok1.yes ?_)
  subst hx; subst hv; subst hj; subst hq; subst ha
  unfold elZ at hz
  split at hz
  ·rename_i e hu
   show indexAddrZ P t _ _ = _
   unfold indexAddrZ
   rw [hu]
   simp only [hz, hlt]
   rfl
  ·cases hz
 | index t x i =>
  refine Ok1.l2 fun v j hx => Ok1.vStr Ok1.no fun s hv => Ok1.vInt Ok1.no fun kk m hj => Ok1.iNat Ok1.no fun q hq => Ok1.bA (fun _ => Ok1.no) fun hb => ?_
  subst hx; subst hv; subst hj; subst hq
  unfold isStrB at hb
  split at hb
  ·rename_i hu
   intro no k
   simp only [bnth_eq]
   have e : quiet P h (.index t x i) ty [.string s, .int kk (Int.ofNat q)] = (match (bytesOf s)[q]? with | some b => some (.int .u8 (.ofNat b.toNat)) | none => none) := by
    simp only [quiet, hu]
    rfl
   rw [e]
   cases (bytesOf s)[q]? with
   | none => exact .inl rfl
   | some b => exact .inr ⟨_, rfl, fN_eq _ _⟩
  ·cases hb
 | extract x i => exact Ok1.l1 fun v hx => Ok1.vTup Ok1.no fun a hv => Ok1.lnth fun w hw => by rw [hx, hv]; exact hw
 | call c =>
  obtain ⟨callee, cargs, ts⟩ := c
  cases callee with
  | value f => exact Ok1.no
  | invoke r m => exact Ok1.no
  | builtin b =>
   show Ok1 _ (q_builtin b cargs ts P h ty args)
   unfold q_builtin
   cases b with
   | len =>
    refine Ok1.l1 fun v hx => Ok1.vSl Ok1.slow fun a n c hv => Ok1.bA (fun _ => Ok1.no) fun hb => Ok1.yes ?_
    subst hx; subst hv
    unfold slB at hb
    split at hb
    ·rename_i t ht
     split at hb
     ·rename_i e hu
      simp only [quiet, ht, hu]
      rfl
     ·cases hb
    ·cases hb
   | _ => exact Ok1.slow
 | _ => exact Ok1.slow
end quietlaws
end
end Go.Z
end
