/- Contracts of both IsHalf and of both CompareRationals. Conditions: sizes. -/
import Derived.Test.YtlngffmmbphaeaaPairs
namespace Go.Proofs.Ytlngffmmbphaeaa
open Go.RowKit
set_option linter.unusedVariables false
set_option linter.unusedSimpArgs false
set_option maxRecDepth 100000

def isHalf (z : Int) (xs : List Int) (b : Int) : Bool := inR z 1 3 && (decide ((xs.length : Int) = z) && (allR xs (-20) 20 && (decide (0 < gcdL xs) && inR b (-200) 200)))

theorem allR_in62 {xs : List Int} {lo hi : Int} (h : allR xs lo hi = true) (h1 : -4611686018427387904 ≤ lo) (h2 : hi ≤ 4611686018427387904) : ∀ k, k < xs.length → In62 (nth xs k) := fun k hk => by
  have := allR_nth h k hk
  unfold In62; omega

end Go.Proofs.Ytlngffmmbphaeaa
