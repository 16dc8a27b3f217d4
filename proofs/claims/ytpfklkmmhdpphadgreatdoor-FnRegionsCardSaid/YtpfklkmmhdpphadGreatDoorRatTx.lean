/- Contracts of both RationalText. Conditions: sizes; the library's table. -/
import Derived.Test.YtpfklkmmhdpphadGreatDoorTexts
import Derived.Test.YtpfklkmmhdpphadGreatDoorJnVecFns2
import Derived.Test.YtpfklkmmhdpphadGreatDoorJnOps2
import Derived.Lib.QuietBelow
namespace Go.Proofs.YtpfklkmmhdpphadGreatDoor
open Go.RowKit
set_option linter.unusedVariables false
set_option linter.unusedSimpArgs false
set_option maxRecDepth 100000

open Classical in
noncomputable def ratT (xs : List Int) (d : Int) : List UInt8 := if xs.length = 0 ∨ d < 1 then [] else if d = 1 then commaT xs else commaT xs ++ ([47] ++ Lib.itoa d)

end Go.Proofs.YtpfklkmmhdpphadGreatDoor
