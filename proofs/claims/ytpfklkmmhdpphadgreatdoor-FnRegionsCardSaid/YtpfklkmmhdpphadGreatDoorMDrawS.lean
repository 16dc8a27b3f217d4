/- The reference's draws of rows, for a seat that has texts: in place of MDraw, whose words VecDraw has too. Conditions: sizes. -/
import Derived.Test.YtpfklkmmhdpphadGreatDoorVecDraw3
import Derived.Test.YtpfklkmmhdpphadGreatDoorJnBase
import Derived.Test.YtpfklkmmhdpphadGreatDoorLess
namespace Go.Proofs.YtpfklkmmhdpphadGreatDoor
set_option linter.unusedVariables false
set_option linter.unusedSimpArgs false
set_option maxRecDepth 100000

theorem mdrawS : True := trivial

end Go.Proofs.YtpfklkmmhdpphadGreatDoor
