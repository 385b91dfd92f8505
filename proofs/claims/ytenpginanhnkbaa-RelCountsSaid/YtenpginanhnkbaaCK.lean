/- One part of a proof: an evaluator of the model, shown right, and contracts that it yields. No condition beyond those that each theorem names. -/
import Derived.Test.YtenpginanhnkbaaCJ
section
set_option linter.unusedSimpArgs false
set_option linter.unusedVariables false
namespace Go.Proofs.Ytenpginanhnkbaa
open Go.X
set_option maxRecDepth 100000

def evR (r : List Val) (e : E) : Val × Int := evalX (fun tb nm => colAt tb nm itemsT r) e
theorem rowC_T {r : List Val} (h : RowC colsT r) : ∃ x y z, r = [x, y, z] ∧ RowT x y z := by
  have hl : r.length = 3 := h.len
  match r, hl with
  | [x, y, z], _ => exact ⟨x, y, z, rfl, h.kind 0 _ x rfl rfl, h.kind 1 _ y rfl rfl, h.kind 2 _ z rfl rfl⟩
theorem or_hold (r : List Val) (e f : E) : holdsX (evR r (.bin 15 e f)) = (if (holdsX (evR r e)).2 ≠ 0 then (false, (holdsX (evR r e)).2) else if (holdsX (evR r e)).1 then (true, 0) else holdsX (evR r f)) := by
  have h1 : evR r (.bin 15 e f) = if (evR r e).2 ≠ 0 ∨ (evR r e).1.n = 15 - 14 then evR r e else evR r f := by
    show evalX _ (.bin 15 e f) = _
    rw [evalX, if_pos (.inr rfl)]; rfl
  rw [h1]
  by_cases h2 : (evR r e).2 = 0
  · by_cases h3 : (evR r e).1.n = 1
    · rw [if_pos (.inr h3)]
      simp [holdsX, h2, h3]
    · rw [if_neg (by intro h; rcases h with h | h; exact h h2; exact h3 h)]
      have h4 : ((evR r e).1.n == 1) = false := by simpa using h3
      simp [holdsX, h2, h4]
  · rw [if_pos (.inl h2)]
    simp [holdsX, h2]
def HW (hold : List Val → Bool × Int) (rows out l : List (List Val)) : Prop := whereX hold rows = (if (whereX hold l).2 = 0 then (out ++ (whereX hold l).1, 0) else ((whereX hold rows).1, (whereX hold l).2))
theorem step_err {hold : List Val → Bool × Int} {rows out l : List (List Val)} {r : List Val} (hw : HW hold rows out (r :: l)) (h : (hold r).2 ≠ 0) : (whereX hold rows).2 = (hold r).2 := by
  unfold HW at hw
  rw [whereX, if_pos h] at hw
  simp only [if_neg h] at hw
  exact congrArg Prod.snd hw
theorem step_in {hold : List Val → Bool × Int} {rows out l : List (List Val)} {r : List Val} (hw : HW hold rows out (r :: l)) (h : hold r = (true, 0)) : HW hold rows (out ++ [r]) l := by
  unfold HW at hw ⊢
  rw [whereX, h] at hw
  rw [List.append_assoc]
  exact hw
theorem step_out {hold : List Val → Bool × Int} {rows out l : List (List Val)} {r : List Val} (hw : HW hold rows out (r :: l)) (h : hold r = (false, 0)) : HW hold rows out l := by
  unfold HW at hw ⊢
  rw [whereX, h] at hw
  exact hw
theorem step_end {hold : List Val → Bool × Int} {rows out : List (List Val)} (hw : HW hold rows out []) : whereX hold rows = (out, 0) := by
  unfold HW at hw
  simpa [whereX] using hw
theorem tabT_items (p : Nat) (q : Option Addr) (ql qc : Nat) : itemsOf ⟨txt [116], p, colsT, 3, q, ql, qc⟩ = itemsT := rfl
theorem colsLie_T {V : View} {p : Nat} (h : V.has p 0 (colsT.flatMap ccells)) : ColsLie V colsT p := ⟨h, by decide, by decide⟩
end Go.Proofs.Ytenpginanhnkbaa
end
