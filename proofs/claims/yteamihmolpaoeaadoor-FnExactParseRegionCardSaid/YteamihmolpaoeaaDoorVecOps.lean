/- Contracts of the functions that make vectors: copies, sums, multiples. Conditions: sizes. -/
import Derived.Test.YteamihmolpaoeaaDoorOps
import Derived.Test.YteamihmolpaoeaaDoorMark
import Derived.Deep.RegionLaw
import Derived.BigRegion
namespace Go.Proofs.YteamihmolpaoeaaDoor
open Go.RowKit
set_option linter.unusedVariables false
set_option linter.unusedSimpArgs false
set_option maxRecDepth 100000

/-- The sums of two lists of numbers, number by number, each as an int holds it. -/
def addW : List Int → List Int → List Int
  | x :: xs, y :: ys => wrap64 (x + y) :: addW xs ys
  | _, _ => []
theorem addW_length {xs ys : List Int} (h : xs.length = ys.length) : (addW xs ys).length = xs.length := by
  induction xs generalizing ys with
  | nil => rfl
  | cons x xs ih =>
    cases ys with
    | nil => simp at h
    | cons y ys => simp [addW, ih (by simpa using h)]
theorem addW_nth {xs ys : List Int} (h : xs.length = ys.length) {k : Nat} (hk : k < xs.length) : nth (addW xs ys) k = wrap64 (nth xs k + nth ys k) := by
  induction xs generalizing ys k with
  | nil => simp at hk
  | cons x xs ih =>
    cases ys with
    | nil => simp at h
    | cons y ys =>
      cases k with
      | zero => rfl
      | succ k => exact ih (by simpa using h) (by simpa using hk)

theorem wrapEq (x : Int) : IntKind.i64.wrap x = wrap64 x := by rw [IntKind.wrap_i64]; unfold wrap64; rfl

/-- The numbers times a number, each as an int holds it. -/
def scaleW (xs : List Int) (q : Int) : List Int := xs.map fun x => wrap64 (x * q)
theorem scaleW_length (xs : List Int) (q : Int) : (scaleW xs q).length = xs.length := by simp [scaleW]
theorem scaleW_nth {xs : List Int} {q : Int} {k : Nat} (h : k < xs.length) : nth (scaleW xs q) k = wrap64 (nth xs k * q) := by
  rw [nth_eq h, nth_eq (by rw [scaleW_length]; exact h)]; simp [scaleW]

/-- The sum of the first k products. -/
def dotTo (xs ys : List Int) : Nat → Int
  | 0 => 0
  | k + 1 => wrap64 (dotTo xs ys k + wrap64 (nth xs k * nth ys k))
def dotW (xs ys : List Int) : Int := dotTo xs ys xs.length

end Go.Proofs.YteamihmolpaoeaaDoor
