/- Contracts of the laws' helpers on regions. Conditions: sizes. -/
import Derived.Test.YtpfklkmmhdpphaaGreatDoorRegKit
namespace Go.Proofs.YtpfklkmmhdpphaaGreatDoor
open Go.RowKit
set_option linter.unusedVariables false
set_option linter.unusedSimpArgs false
set_option maxRecDepth 100000

/-- A new region. -/
def NewR (w : World) (z : Int) (n : Nat) (hs : List Pr) (e : Ending) (w' : World) : Prop :=
  ∃ p c, e = .returned (.agg #[.int .i64 z, .slice p n c]) ∧ OwnPM 47 w' w.heap.size w'.heap.size p n c hs ∧ Below w.heap.size w w'

theorem OwnPM.setBelow {E : TypeId} {w : World} {lo hi : Nat} {p : Option Addr} {n c : Nat} {hs : List Pr} (h : OwnPM E w lo hi p n c hs) {a : Addr} (ha : a.block < lo) (u : Value) : OwnPM E (w.setCell a u) lo hi p n c hs := by
  obtain ⟨rows, h⟩ := h
  refine ⟨rows, ⟨⟨ownsRow_setCell_below h.outer.row ha u, h.outer.top⟩, h.len, fun k hk => (h.inner k hk).setBelow ha u, h.apart⟩⟩

end Go.Proofs.YtpfklkmmhdpphaaGreatDoor
