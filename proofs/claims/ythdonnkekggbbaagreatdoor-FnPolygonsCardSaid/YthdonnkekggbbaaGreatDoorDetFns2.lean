/- Contracts of determinants. Conditions: sizes. -/
import Derived.Test.YthdonnkekggbbaaGreatDoorDetFns
namespace Go.Proofs.YthdonnkekggbbaaGreatDoor
open Go.RowKit
set_option linter.unusedVariables false
set_option linter.unusedSimpArgs false
set_option maxRecDepth 100000

def s3 (xss : List (List Int)) : Nat → Int
  | 0 => 0
  | k + 1 => wrap64 (s3 xss k + wrap64 (nth (nthR xss 0) k * wrap64 (wrap64 (nth (nthR xss 1) ((k + 1) % 3) * nth (nthR xss 2) ((k + 2) % 3)) - wrap64 (nth (nthR xss 1) ((k + 2) % 3) * nth (nthR xss 2) ((k + 1) % 3)))))

end Go.Proofs.YthdonnkekggbbaaGreatDoor
