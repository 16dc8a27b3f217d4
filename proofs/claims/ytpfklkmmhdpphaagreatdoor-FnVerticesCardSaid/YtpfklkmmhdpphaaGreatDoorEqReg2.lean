/- Contracts of both EqualRegion. Conditions: sizes. -/
import Derived.Test.YtpfklkmmhdpphaaGreatDoorEqReg
import Derived.Test.YtpfklkmmhdpphaaGreatDoorBox
namespace Go.Proofs.YtpfklkmmhdpphaaGreatDoor
open Go.RowKit
set_option linter.unusedVariables false
set_option linter.unusedSimpArgs false
set_option maxRecDepth 100000

theorem belowCell2 {w w1 : World} (hb : Below w.heap.size w w1) {a : Addr} {v : Value} (h : w.cell? a = some v) : w1.cell? a = some v :=
  (hb.cell (World.block_lt_of_cell? w a h)).trans h
theorem prAt_ext {us vs : List Pr} (h : us.length = vs.length) (hk : ∀ k, k < us.length → prAt us k = prAt vs k) : us = vs :=
  List.ext_getElem h fun i h1 h2 => by have := hk i h1; rwa [prAt_eq h1, prAt_eq h2] at this
def beqH (us vs : List Pr) : Bool := decide (us = vs)
theorem beqH_yes {us vs : List Pr} (h : us.length = vs.length) (hk : ∀ k, k < us.length → prAt us k = prAt vs k) : beqH us vs = true := by simp [beqH, prAt_ext h hk]
theorem beqH_no {us vs : List Pr} {k : Nat} (h : ¬ prAt us k = prAt vs k) : beqH us vs = false := by
  simp only [beqH, decide_eq_false_iff_not]
  intro e; exact h (by rw [e])
theorem beqH_len {us vs : List Pr} (h : ¬ us.length = vs.length) : beqH us vs = false := by
  simp only [beqH, decide_eq_false_iff_not]
  intro e; exact h (by rw [e])

def eqRegV (z : Int) (us : List Pr) (y : Int) (vs : List Pr) : Bool := decide (z = y) && beqH us vs

end Go.Proofs.YtpfklkmmhdpphaaGreatDoor
