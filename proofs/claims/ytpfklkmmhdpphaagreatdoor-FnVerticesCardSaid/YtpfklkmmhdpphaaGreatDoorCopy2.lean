/- Contracts of impl.regionOf, spec.l4One and spec.l4Copy. Conditions: sizes. -/
import Derived.Test.YtpfklkmmhdpphaaGreatDoorCopy
import Derived.Deep.DrawnRows
namespace Go.Proofs.YtpfklkmmhdpphaaGreatDoor
open Go.RowKit
set_option linter.unusedVariables false
set_option linter.unusedSimpArgs false
set_option maxRecDepth 100000

attribute [local go_sem ↓] Go.wp_at_zero Go.wp_at_succ

/-- What a call gives: a region of its own and a yes or no. -/
def NewRB (w : World) (r : (Int × List Pr) × Bool) (e : Ending) (w' : World) : Prop :=
  ∃ p n c, e = .returned (.tuple #[.agg #[.int .i64 r.1.1, .slice p n c], .bool r.2]) ∧ OwnPM 47 w' w.heap.size w'.heap.size p n c r.1.2 ∧ Below w.heap.size w w'
def regIf (z : Int) (hs : List Pr) : (Int × List Pr) × Bool := if isReg z hs = true then ((z, hs), true) else ((0, []), false)
theorem regIf_yes {z : Int} {hs : List Pr} (h : isReg z hs = true) : regIf z hs = ((z, hs), true) := by simp [regIf, h]
theorem regIf_no {z : Int} {hs : List Pr} (h : isReg z hs = false) : regIf z hs = ((0, []), false) := by simp [regIf, h]

/-- A new half. -/
def NewHalf (w : World) (n : Nat) (xs : List Int) (b : Int) (e : Ending) (w' : World) : Prop :=
  ∃ p c, e = .returned (.agg #[.slice p n c, .int .i64 b]) ∧ Own w' w.heap.size w'.heap.size p n c xs ∧ Below w.heap.size w w'

end Go.Proofs.YtpfklkmmhdpphaaGreatDoor
