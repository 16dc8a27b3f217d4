/- The reference's draws of regions: what a great law reads. Conditions: sizes. -/
import Derived.Test.YtpfklkmmhdpphaaGreatDoorRDraw2
import Derived.Test.YtpfklkmmhdpphaaGreatDoorMDraw2
import Derived.Deep.RegionHeld3
namespace Go.Proofs.YtpfklkmmhdpphaaGreatDoor
open Go.RowKit
set_option linter.unusedVariables false
set_option linter.unusedSimpArgs false
set_option maxRecDepth 100000

attribute [local go_sem ↓] Go.wp_at_zero Go.wp_at_succ

/-- A region that is read. -/
def ReadR (w : World) (e : Ending) (w' : World) : Prop :=
  ∃ (z : Int) (q : Option Addr) (k d : Nat) (hs : List Pr), e = .returned (.agg #[.int .i64 z, .slice q k d]) ∧ OwnPM 47 w' w.heap.size w'.heap.size q k d hs ∧ 0 ≤ z ∧ z ≤ 4 ∧ k ≤ 6 ∧ Hid (∀ j, j < k → (nrm hs j).length ≤ 3) ∧ Below w.heap.size w w'
/-- A region and a row that are read. -/
def ReadRV (w : World) (e : Ending) (w' : World) : Prop :=
  ∃ (z : Int) (q : Option Addr) (k d : Nat) (hs : List Pr) (q' : Option Addr) (m d' : Nat) (ys : List Int), e = .returned (.tuple #[.agg #[.int .i64 z, .slice q k d], .slice q' m d']) ∧ OwnPM 47 w' w.heap.size w'.heap.size q k d hs ∧ 0 ≤ z ∧ z ≤ 4 ∧ k ≤ 6 ∧ Hid (∀ j, j < k → (nrm hs j).length ≤ 3) ∧ Own w' w.heap.size w'.heap.size q' m d' ys ∧ m ≤ 5 ∧ Below w.heap.size w w'

end Go.Proofs.YtpfklkmmhdpphaaGreatDoor
