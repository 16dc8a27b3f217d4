/- Contracts of the laws' helpers on slices of halves. Conditions: sizes. -/
import Derived.Test.YtlngffmmbphaeaaHalves2
namespace Go.Proofs.Ytlngffmmbphaeaa
open Go.RowKit
set_option linter.unusedVariables false
set_option linter.unusedSimpArgs false
set_option maxRecDepth 100000

end Go.Proofs.Ytlngffmmbphaeaa
