/- The law FnExactVectorText: the walk: for every input it returns true and writes nothing that was there. Conditions: none. -/
import Derived.Test.YtmbdegjombjbiaaDoorTexts
import Derived.Test.YtmbdegjombjbiaaDoorLawKit
namespace Go.Proofs.YtmbdegjombjbiaaDoor
open Go.RowKit
set_option linter.unusedVariables false
set_option linter.unusedSimpArgs false
set_option maxRecDepth 100000

theorem lawVectorText_walk (q0 : Option Addr) (n0 c0 : Nat) (x0 : List Int) (w : World) (fm0 : n0 ≤ 9223372036854775807) (fr0 : Ints w q0 n0 x0) (h_tab : TabW w) :
    Calls Tryd.prog 6 #[.slice q0 n0 c0] w fun e w' => e = .returned (.bool true) ∧ Below w.heap.size w w' := by
  by_cases hbig0 : 1048576 < n0
  · go_enter Tryd.func6, Tryd.ntmps6
    go_wp2
    go_ret
    exact ⟨rfl, Below.refl _ _⟩
  go_enter Tryd.func6, Tryd.ntmps6
  go_wp2_with fail
  refine (toIntS_any _ _ _ _ _ fr0 (by omega)).mono ?_
  rintro e w1 ⟨p1, c1, rfl, ho1, hb1⟩
  have hsw1 := hb1.size
  have hT := hb1
  go_wp2_with fail
  refine (specVecText_any _ _ _ _ _ ho1.rd (by omega)).mono ?_
  rintro e w2 ⟨rfl, hb2⟩
  have hsw2 := hb2.size
  replace ho1 := ho1.below hb2
  replace hT := Below.step hT hb2
  go_wp2_with fail
  refine (toIntS_any _ _ _ _ _ (fr0.below hT) (by omega)).mono ?_
  rintro e w3 ⟨p3, c3, rfl, ho3, hb3⟩
  have hsw3 := hb3.size
  replace hT := Below.step hT hb3
  go_wp2_with fail
  refine (implVecText_any _ _ _ _ _ ho3.rd (by omega) (h_tab.below hT)).mono ?_
  rintro e w4 ⟨rfl, hb4⟩
  have hsw4 := hb4.size
  replace ho3 := ho3.below hb4
  replace hT := Below.step hT hb4
  go_wp2_with fail
  refine (toIntS_any _ _ _ _ _ (fr0.below hT) (by omega)).mono ?_
  rintro e w5 ⟨p5, c5, rfl, ho5, hb5⟩
  have hsw5 := hb5.size
  replace ho3 := ho3.below hb5
  replace hT := Below.step hT hb5
  go_wp2_with fail
  refine (eqIntS_self _ _ _ _ _ _ _ _ ho3.rd ho5.rd (by omega) (by omega)).mono ?_
  rintro e w6 ⟨rfl, hb6⟩
  have hsw6 := hb6.size
  replace ho3 := ho3.below hb6
  replace ho5 := ho5.below hb6
  replace hT := Below.step hT hb6
  go_wp2_with fail
  go_ret
  exact ⟨rfl, hT⟩

end Go.Proofs.YtmbdegjombjbiaaDoor
