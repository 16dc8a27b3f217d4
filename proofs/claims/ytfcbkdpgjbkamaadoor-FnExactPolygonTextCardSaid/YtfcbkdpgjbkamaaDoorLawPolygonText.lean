/- The law FnExactPolygonText: the walk: for every input it returns true and writes nothing that was there. Conditions: none. -/
import Derived.Test.YtfcbkdpgjbkamaaDoorPTx
namespace Go.Proofs.YtfcbkdpgjbkamaaDoor
open Go.RowKit
set_option linter.unusedVariables false
set_option linter.unusedSimpArgs false
set_option maxRecDepth 100000

theorem lawPolygonText_walk (q0 : Option Addr) (n0 c0 : Nat) (x0 : List (List Int)) (w : World) (fm0 : n0 ≤ 9223372036854775807) (fr0 : Intss w q0 n0 x0) (h_tab : TabW w) :
    Calls Tryd.prog 8 #[.slice q0 n0 c0] w fun e w' => e = .returned (.bool true) ∧ Below w.heap.size w w' := by
  by_cases hfit0 : ((n0 + tot x0 : Nat) : Int) ≤ 1048576
  rotate_left
  · go_enter Tryd.func8, Tryd.ntmps8
    go_wp2_with fail
    refine (ret_of_same (szIntSS_any _ _ _ _ _ _ fm0 fr0 (by omega) (by omega))).mono ?_
    rw [leftOf_no (by omega)]
    rintro e w1 ⟨rfl, hb1⟩
    have hsw1 := hb1.size
    have hT := hb1
    go_wp2
    go_ret
    exact ⟨rfl, hT⟩
  go_enter Tryd.func8, Tryd.ntmps8
  go_wp2_with fail
  refine (ret_of_same (szIntSS_any _ _ _ _ _ _ fm0 fr0 (by omega) (by omega))).mono ?_
  rw [leftOf_yes (by omega)]
  rintro e w1 ⟨rfl, hb1⟩
  have hsw1 := hb1.size
  have hT := hb1
  go_wp2_with fail
  refine (toIntSS_any _ _ _ _ _ (fr0.below hT) (by omega) (by omega)).mono ?_
  rintro e w2 ⟨p2, c2, rfl, ho2, hb2⟩
  have hsw2 := hb2.size
  replace hT := Below.step hT hb2
  go_wp2_with fail
  refine (specPolyText_any _ _ _ _ _ (by omega) ho2.rd).mono ?_
  rintro e w3 ⟨rfl, hb3⟩
  have hsw3 := hb3.size
  replace ho2 := ho2.below hb3
  replace hT := Below.step hT hb3
  go_wp2_with fail
  refine (toIntSS_any _ _ _ _ _ (fr0.below hT) (by omega) (by omega)).mono ?_
  rintro e w4 ⟨p4, c4, rfl, ho4, hb4⟩
  have hsw4 := hb4.size
  replace hT := Below.step hT hb4
  go_wp2_with fail
  refine (implPolyText_any _ _ _ _ _ (by omega) ho4.rd (h_tab.below hT)).mono ?_
  rintro e w5 ⟨rfl, hb5⟩
  have hsw5 := hb5.size
  replace ho4 := ho4.below hb5
  replace hT := Below.step hT hb5
  go_wp2_with fail
  refine (toIntSS_any _ _ _ _ _ (fr0.below hT) (by omega) (by omega)).mono ?_
  rintro e w6 ⟨p6, c6, rfl, ho6, hb6⟩
  have hsw6 := hb6.size
  replace ho4 := ho4.below hb6
  replace hT := Below.step hT hb6
  go_wp2_with fail
  refine (eqIntSS_self _ _ _ _ _ _ _ _ ho4.rd ho6.rd (by omega) (by omega)).mono ?_
  rintro e w7 ⟨rfl, hb7⟩
  have hsw7 := hb7.size
  replace ho4 := ho4.below hb7
  replace ho6 := ho6.below hb7
  replace hT := Below.step hT hb7
  go_wp2_with fail
  go_ret
  exact ⟨rfl, hT⟩

end Go.Proofs.YtfcbkdpgjbkamaaDoor
