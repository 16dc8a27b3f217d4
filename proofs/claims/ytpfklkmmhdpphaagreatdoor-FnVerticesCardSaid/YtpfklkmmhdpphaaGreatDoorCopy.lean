/- Contracts of impl.copyRegion. Conditions: sizes. -/
import Derived.Test.YtpfklkmmhdpphaaGreatDoorBox
import Derived.Test.YtpfklkmmhdpphaaGreatDoorReg3
import Derived.Deep.DrawnRows
namespace Go.Proofs.YtpfklkmmhdpphaaGreatDoor
open Go.RowKit
set_option linter.unusedVariables false
set_option linter.unusedSimpArgs false
set_option maxRecDepth 100000

attribute [local go_sem ↓] Go.wp_at_zero Go.wp_at_succ

theorem Box2.ofBelow {w w' : World} {b B : Nat} {v0 v1 : Value} {T : TypeId} (h : Box2 w b v0 v1 T) (hb : Below B w w') (hlt : b < B) : Box2 w' b v0 v1 T := (hb.block b hlt).trans h
theorem OwnP.setBelow {E : TypeId} {w : World} {lo hi : Nat} {p : Option Addr} {n c : Nat} {rows : List Row} {hs : List Pr} (h : OwnP E w lo hi p n c rows hs) {a : Addr} (ha : a.block < lo) (u : Value) : OwnP E (w.setCell a u) lo hi p n c rows hs :=
  ⟨⟨ownsRow_setCell_below h.outer.row ha u, h.outer.top⟩, h.len, fun k hk => (h.inner k hk).setBelow ha u, h.apart⟩
theorem Below.of {w w' : World} {B : Nat} (h : Below w.heap.size w w') (hB : B ≤ w.heap.size) : Below B w w' := h.mono hB

theorem cell_other {w : World} {a : Addr} {v u : Value} {b k : Nat} (h : w.cell? ⟨b, k, none⟩ = some v) (hne : b ≠ a.block) : (w.setCell a u).cell? ⟨b, k, none⟩ = some v :=
  (World.cell?_of_block (Below.heap_setCell w a u b hne)).trans h

/-- The struct that the call builds, at the head of the loop. -/
structure Building (w W0 wr : World) (z : Int) (p' : Option Addr) (k c' : Nat) (rows : List Row) (hs : List Pr) : Prop where
  out : Box2 wr (w.heap.size + 1 + 1) (.int .i64 z) (.slice p' k c') 26
  own : OwnP 47 wr (w.heap.size + 3) wr.heap.size p' k c' rows hs
  low : Below (w.heap.size + 1 + 1) W0 wr
  size : w.heap.size + 3 ≤ wr.heap.size

end Go.Proofs.YtpfklkmmhdpphaaGreatDoor
