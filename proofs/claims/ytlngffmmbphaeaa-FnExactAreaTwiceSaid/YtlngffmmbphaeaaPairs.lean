/- Contracts of the laws' helpers on a struct of a slice of numbers and a number (a half, a rational). Conditions: sizes. -/
import Derived.Test.YtlngffmmbphaeaaIsMat
namespace Go.Proofs.Ytlngffmmbphaeaa
open Go.RowKit
set_option linter.unusedVariables false
set_option linter.unusedSimpArgs false
set_option maxRecDepth 100000

theorem Below.cells {w w1 : World} (hb : Below w.heap.size w w1) {a : Addr} {v : Value} (h : w.cell? a = some v) : w1.cell? a = some v :=
  (hb.cell (World.block_lt_of_cell? w a h)).trans h


theorem szIntS_left (p : Option Addr) (n c : Nat) (left : Int) (w : World) (hn : n ≤ 9223372036854775807) (hl : -1 ≤ left) (hl2 : left ≤ 9223372036854775807) :
    Calls Try.prog 28 #[.slice p n c, .int .i64 left] w fun e w' => e = .returned (.int .i64 (leftOf n left)) ∧ w = w' := szIntS_any p n c left w hn hl hl2
/-- A new struct of a slice of numbers and a number. -/
def NewP (w : World) (n : Nat) (xs : List Int) (b : Int) (e : Ending) (w' : World) : Prop :=
  ∃ p c, e = .returned (.agg #[.slice p n c, .int .i64 b]) ∧ Own w' w.heap.size w'.heap.size p n c xs ∧ Below w.heap.size w w'

end Go.Proofs.Ytlngffmmbphaeaa
