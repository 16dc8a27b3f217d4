/- Contracts of the laws' helpers on slices of halves. Conditions: sizes. -/
import Derived.Test.YtpfklkmmhdpphaaGreatDoorHalves2
namespace Go.Proofs.YtpfklkmmhdpphaaGreatDoor
open Go.RowKit
set_option linter.unusedVariables false
set_option linter.unusedSimpArgs false
set_option maxRecDepth 100000

theorem Tryz.infoHalf : (Tryz.prog.info? 47).map (fun i => (i.zero, i.size, i.bytes)) = some (some (.agg #[.slice none 0 0, .int .i64 0]), 2, 32) := by kernel_rfl
theorem halfNe : 47 ≠ 3 := by decide

def NewH (w : World) (n : Nat) (hs : List Pr) (e : Ending) (w' : World) : Prop :=
  ∃ p c, e = .returned (.slice p n c) ∧ OwnPM 47 w' w.heap.size w'.heap.size p n c hs ∧ Below w.heap.size w w'

end Go.Proofs.YtpfklkmmhdpphaaGreatDoor
