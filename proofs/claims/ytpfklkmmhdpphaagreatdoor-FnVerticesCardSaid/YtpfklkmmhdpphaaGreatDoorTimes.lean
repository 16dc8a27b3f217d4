/- Contracts of matrixOf and both TimesMatrix. Conditions: sizes. -/
import Derived.Test.YtpfklkmmhdpphaaGreatDoorJnIsMat
import Derived.Test.YtpfklkmmhdpphaaGreatDoorNewMB
namespace Go.Proofs.YtpfklkmmhdpphaaGreatDoor
open Go.RowKit
set_option linter.unusedVariables false
set_option linter.unusedSimpArgs false
set_option maxRecDepth 100000

def matIf (xss : List (List Int)) : List (List Int) × Bool := if isMat xss = true then (xss, true) else ([], false)
theorem matIf_yes {xss : List (List Int)} (h : isMat xss = true) : matIf xss = (xss, true) := by simp [matIf, h]
theorem matIf_no {xss : List (List Int)} (h : isMat xss = false) : matIf xss = ([], false) := by simp [matIf, h]
def timesV (xss yss : List (List Int)) : List (List Int) × Bool := if isMat xss = true ∧ isMat yss = true ∧ xss.length = yss.length then matIf (timesW xss yss) else ([], false)

end Go.Proofs.YtpfklkmmhdpphaaGreatDoor
