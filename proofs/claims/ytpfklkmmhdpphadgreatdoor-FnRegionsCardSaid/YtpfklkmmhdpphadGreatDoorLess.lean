/- Rows beside written blocks; differences of two lists; copies of points. Conditions: sizes. -/
import Derived.Test.YtpfklkmmhdpphadGreatDoorJnVecFns2
import Derived.Test.YtpfklkmmhdpphadGreatDoorJnOps2
namespace Go.Proofs.YtpfklkmmhdpphadGreatDoor
open Go.RowKit
set_option linter.unusedVariables false
set_option linter.unusedSimpArgs false
set_option maxRecDepth 100000

theorem Within.cells0 {lo hi : Nat} {w w1 : World} (hw : Within lo hi w w1) {a : Addr} {v : Value} (h : w.cell? a = some v) (ha : a.block < lo ∨ hi ≤ a.block) : w1.cell? a = some v :=
  (World.cell?_of_block (hw.block a.block (World.block_lt_of_cell? w a h) ha)).trans h

/-- A slice that lies outside an interval of blocks. -/
def Out (lo hi : Nat) (q : Option Addr) : Prop := ∀ a, q = some a → a.block < lo ∨ hi ≤ a.block
theorem Ints.within {w w' : World} {lo hi : Nat} {q : Option Addr} {n : Nat} {ys : List Int} (h : Ints w q n ys) (hw : Within lo hi w w') (ho : Out lo hi q) : Ints w' q n ys :=
  ⟨h.len, fun k hk => by
    obtain ⟨b, o, hp, hc⟩ := h.cell k hk
    have := ho _ hp
    exact ⟨b, o, hp, hw.cells0 hc this⟩⟩

/-- The differences of two lists of numbers. -/
def lessW (xs ys : List Int) : List Int := (List.range xs.length).map fun j => wrap64 (nth xs j - nth ys j)
theorem lessW_length (xs ys : List Int) : (lessW xs ys).length = xs.length := by simp [lessW]
theorem lessW_nth {xs ys : List Int} {j : Nat} (h : j < xs.length) : nth (lessW xs ys) j = wrap64 (nth xs j - nth ys j) := by
  rw [nth_eq (by rw [lessW_length]; exact h)]; simp [lessW]
end Go.Proofs.YtpfklkmmhdpphadGreatDoor
