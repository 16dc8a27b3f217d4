/- Contracts of the laws' helpers on a struct of a slice of numbers and a number (a half, a rational). Conditions: sizes. -/
import Derived.Test.YteamihmolpaoeaaDoorIsMat
namespace Go.Proofs.YteamihmolpaoeaaDoor
open Go.RowKit
set_option linter.unusedVariables false
set_option linter.unusedSimpArgs false
set_option maxRecDepth 100000

theorem Below.cells {w w1 : World} (hb : Below w.heap.size w w1) {a : Addr} {v : Value} (h : w.cell? a = some v) : w1.cell? a = some v :=
  (hb.cell (World.block_lt_of_cell? w a h)).trans h


/-- A new struct of a slice of numbers and a number. -/
def NewP (w : World) (n : Nat) (xs : List Int) (b : Int) (e : Ending) (w' : World) : Prop :=
  ∃ p c, e = .returned (.agg #[.slice p n c, .int .i64 b]) ∧ Own w' w.heap.size w'.heap.size p n c xs ∧ Below w.heap.size w w'

theorem eqHalf_self (p q : Option Addr) (n c m d : Nat) (xs : List Int) (b : Int) (w : World) (hx : Ints w p n xs) (hy : Ints w q m xs) (hn : n ≤ 9223372036854775807) (hm : m ≤ 9223372036854775807) :
    Calls Tryd.prog 44 #[.agg #[.slice p n c, .int .i64 b], .agg #[.slice q m d, .int .i64 b]] w (Ret (.bool true) w) := by
  go_enter Tryd.func44, Tryd.ntmps44
  go_wp2_with fail
  refine (eqIntS_self _ _ _ _ _ _ _ _ ((hx.alloc _).alloc _) ((hy.alloc _).alloc _) hn hm).mono ?_
  rintro e w1 ⟨rfl, hb⟩
  obtain ⟨hc, hf⟩ := bcell hb
  have hbb : Below w.heap.size w w1 := Below.step (boxed2 w _ _) hb
  go_wp2
  go_ret
  exact ⟨rfl, hbb⟩

end Go.Proofs.YteamihmolpaoeaaDoor
