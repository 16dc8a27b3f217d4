/- Contract of spec.MoveRegion. Conditions: sizes. -/
import Derived.Test.YtdchckljggjaaaaMove
import Derived.Deep.DrawnRows
namespace Go.Proofs.Ytdchckljggjaaaa
open Go.RowKit
set_option linter.unusedVariables false
set_option linter.unusedSimpArgs false
set_option maxRecDepth 100000

attribute [local go_sem ↓] Go.wp_at_zero Go.wp_at_succ

end Go.Proofs.Ytdchckljggjaaaa
