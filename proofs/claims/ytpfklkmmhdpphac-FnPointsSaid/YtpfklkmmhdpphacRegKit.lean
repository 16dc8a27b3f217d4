/- Contracts of the laws' helpers on slices of halves. Conditions: sizes. -/
import Derived.Test.YtpfklkmmhdpphacHalves2
namespace Go.Proofs.Ytpfklkmmhdpphac
open Go.RowKit
set_option linter.unusedVariables false
set_option linter.unusedSimpArgs false
set_option maxRecDepth 100000

theorem Try.infoHalf : (Try.prog.info? 48).map (fun i => (i.zero, i.size, i.bytes)) = some (some (.agg #[.slice none 0 0, .int .i64 0]), 2, 32) := by kernel_rfl
theorem halfNe : 48 ≠ 3 := by decide

def NewH (w : World) (n : Nat) (hs : List Pr) (e : Ending) (w' : World) : Prop :=
  ∃ p c, e = .returned (.slice p n c) ∧ OwnPM 48 w' w.heap.size w'.heap.size p n c hs ∧ Below w.heap.size w w'

end Go.Proofs.Ytpfklkmmhdpphac
