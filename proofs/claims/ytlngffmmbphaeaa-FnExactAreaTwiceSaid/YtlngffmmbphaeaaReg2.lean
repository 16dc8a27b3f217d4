/- Contracts of spec.IsRegion and of both HasPoint. Conditions: sizes. -/
import Derived.Test.YtlngffmmbphaeaaReg
namespace Go.Proofs.Ytlngffmmbphaeaa
open Go.RowKit
set_option linter.unusedVariables false
set_option linter.unusedSimpArgs false
set_option maxRecDepth 100000

end Go.Proofs.Ytlngffmmbphaeaa
