/- Contracts of the laws' helpers on a struct of a slice of numbers and a number (a half, a rational). Conditions: sizes. -/
import Derived.Test.YtpfklkmmhdpphaaGreatDoorJnIsMat
namespace Go.Proofs.YtpfklkmmhdpphaaGreatDoor
open Go.RowKit
set_option linter.unusedVariables false
set_option linter.unusedSimpArgs false
set_option maxRecDepth 100000

theorem Below.cells {w w1 : World} (hb : Below w.heap.size w w1) {a : Addr} {v : Value} (h : w.cell? a = some v) : w1.cell? a = some v :=
  (hb.cell (World.block_lt_of_cell? w a h)).trans h


/-- A new struct of a slice of numbers and a number. -/
def NewP (w : World) (n : Nat) (xs : List Int) (b : Int) (e : Ending) (w' : World) : Prop :=
  ∃ p c, e = .returned (.agg #[.slice p n c, .int .i64 b]) ∧ Own w' w.heap.size w'.heap.size p n c xs ∧ Below w.heap.size w w'

end Go.Proofs.YtpfklkmmhdpphaaGreatDoor
