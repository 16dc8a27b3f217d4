/- Contracts of both EqualRegion. Conditions: sizes. -/
import Derived.Test.YtpfklkmmhdpphaaGreatDoorReg3
namespace Go.Proofs.YtpfklkmmhdpphaaGreatDoor
open Go.RowKit
set_option linter.unusedVariables false
set_option linter.unusedSimpArgs false
set_option maxRecDepth 100000

/-- Two pairs are the same. -/
def beqP (a b : Pr) : Bool := beqL a.1 b.1 && decide (a.2 = b.2)
theorem beqP_iff {a b : Pr} : beqP a b = true ↔ a = b := by
  obtain ⟨a1, a2⟩ := a; obtain ⟨b1, b2⟩ := b
  simp [beqP, beqL]

end Go.Proofs.YtpfklkmmhdpphaaGreatDoor
