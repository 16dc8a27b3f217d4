/- Contracts of both ApplyMatrix. Conditions: sizes. -/
import Derived.Test.YthdonnkekggbbaaGreatDoorDetOf
namespace Go.Proofs.YthdonnkekggbbaaGreatDoor
open Go.RowKit
set_option linter.unusedVariables false
set_option linter.unusedSimpArgs false
set_option maxRecDepth 100000

/-- A matrix applied to a list. -/
def applyW (xss : List (List Int)) (v : List Int) : List Int := xss.map fun r => dotW r v
theorem applyW_length (xss : List (List Int)) (v : List Int) : (applyW xss v).length = xss.length := by simp [applyW]
theorem applyW_take {xss : List (List Int)} {v : List Int} {k : Nat} (h : k < xss.length) : (applyW xss v).take (k + 1) = (applyW xss v).take k ++ [dotW (nthR xss k) v] := by
  rw [take_nth (by rw [applyW_length]; exact h), nth_eq (by rw [applyW_length]; exact h), nthR_eq h]
  simp [applyW]

def applyV (xss : List (List Int)) (v : List Int) : List Int × Bool := if isMat xss = true ∧ isVec v = true ∧ v.length = xss.length then vecIf (applyW xss v) else ([], false)
theorem applyV_len (xss : List (List Int)) (v : List Int) : (applyV xss v).1.length ≤ 3 := by
  unfold applyV
  split
  · exact vecIf_len _
  · simp

end Go.Proofs.YthdonnkekggbbaaGreatDoor
