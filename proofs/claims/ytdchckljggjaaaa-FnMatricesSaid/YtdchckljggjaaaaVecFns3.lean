/- Contracts of both PrimitiveOf and BeforeVector. Conditions: sizes. -/
import Derived.Test.YtdchckljggjaaaaVecFns2
namespace Go.Proofs.Ytdchckljggjaaaa
open Go.RowKit
set_option linter.unusedVariables false
set_option linter.unusedSimpArgs false
set_option maxRecDepth 100000

/-- The numbers divided by g, cut towards nought. -/
def quoW (xs : List Int) (g : Int) : List Int := xs.map fun x => x.tdiv g
theorem quoW_length (xs : List Int) (g : Int) : (quoW xs g).length = xs.length := by simp [quoW]
theorem quoW_nth {xs : List Int} {g : Int} {k : Nat} (h : k < xs.length) : nth (quoW xs g) k = (nth xs k).tdiv g := by
  rw [nth_eq h, nth_eq (by rw [quoW_length]; exact h)]; simp [quoW]

theorem tdiv_in {a g : Int} (h : -1000 ≤ a ∧ a ≤ 1000) : -1000 ≤ a.tdiv g ∧ a.tdiv g ≤ 1000 := by
  have : (a.tdiv g).natAbs ≤ a.natAbs := by rw [Int.natAbs_tdiv]; exact Nat.div_le_self _ _
  omega

def primV (xs : List Int) : List Int × Bool := if isVec xs = true ∧ 1 ≤ gcdL xs then (quoW xs (gcdL xs), true) else ([], false)
theorem primV_len (xs : List Int) : (primV xs).1.length ≤ 3 := by
  unfold primV
  split
  · rename_i h; simp only [quoW_length]; exact (isVec_len h.1).2
  · simp

/-- The order of numbers, as the library tells it. -/
def cmpI (a b : Int) : Int := if a < b then -1 else if b < a then 1 else 0

/-- The order of lists of numbers. -/
def cmpL : List Int → List Int → Int
  | x :: xs, y :: ys => if cmpI x y = 0 then cmpL xs ys else cmpI x y
  | [], _ :: _ => -1
  | _ :: _, [] => 1
  | [], [] => 0

theorem cmpI_self (a : Int) : cmpI a a = 0 := by unfold cmpI; rw [if_neg (by omega), if_neg (by omega)]
theorem cmpI_ne {a b : Int} (h : cmpI a b = 0) : a = b := by
  unfold cmpI at h
  split at h
  · omega
  · split at h <;> omega
theorem cmpL_step {xs ys : List Int} {k : Nat} (h : k < xs.length) (h' : k < ys.length) (he : cmpI (nth xs k) (nth ys k) = 0) : cmpL (xs.drop k) (ys.drop k) = cmpL (xs.drop (k + 1)) (ys.drop (k + 1)) := by
  rw [drop_nth h, drop_nth h', cmpL, if_pos he]
theorem cmpL_stop {xs ys : List Int} {k : Nat} (h : k < xs.length) (h' : k < ys.length) (he : ¬ cmpI (nth xs k) (nth ys k) = 0) : cmpL (xs.drop k) (ys.drop k) = cmpI (nth xs k) (nth ys k) := by
  rw [drop_nth h, drop_nth h', cmpL, if_neg he]

/-- The first list comes before the second. -/
def befL (xs ys : List Int) : Bool := decide (cmpL xs ys < 0)

def befV (xs ys : List Int) : Bool := isVec xs && (isVec ys && (decide (xs.length = ys.length) && befL xs ys))

end Go.Proofs.Ytdchckljggjaaaa
