/- The law FnExactFormatInt: the walk: for every input it returns true and writes nothing that was there. Conditions: the library's table holds what its initialiser lays. -/
import Derived.Test.YtmbdegjombjbiaaDoorStrLib
import Derived.Test.YtmbdegjombjbiaaDoorStrFns3
namespace Go.Proofs.YtmbdegjombjbiaaDoor
open Go.RowKit
set_option linter.unusedVariables false
set_option linter.unusedSimpArgs false
set_option maxRecDepth 100000

theorem lawFormatInt_walk (z0 : Int) (w : World) (flo0 : -9223372036854775808 ≤ z0) (fhi0 : z0 ≤ 9223372036854775807) (ht : TabW w) :
    Calls Tryd.prog 3 #[.int .i64 z0] w fun e w' => e = .returned (.bool true) ∧ Below w.heap.size w w' := by
  go_enter Tryd.func3, Tryd.ntmps3
  go_wp2_with fail
  refine (specFormat_any _ _ flo0 fhi0).mono ?_
  rintro e w1 ⟨rfl, hb1⟩
  go_wp2_with fail
  refine (implFormat_any _ _ flo0 fhi0 (ht.below hb1)).mono ?_
  rintro e w2 ⟨rfl, hb2⟩
  have hT := Below.step hb1 hb2
  go_wp2_with fail
  go_ret
  exact ⟨rfl, hT⟩

end Go.Proofs.YtmbdegjombjbiaaDoor
