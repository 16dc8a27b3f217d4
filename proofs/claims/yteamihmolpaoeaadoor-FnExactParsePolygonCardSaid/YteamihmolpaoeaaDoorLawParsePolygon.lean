/- The law FnExactParsePolygon: the walk: for every input it returns true and writes nothing that was there. Conditions: none. -/
import Derived.Test.YteamihmolpaoeaaDoorPPol
import Derived.Test.YteamihmolpaoeaaDoorLawKit
namespace Go.Proofs.YteamihmolpaoeaaDoor
open Go.RowKit
set_option linter.unusedVariables false
set_option linter.unusedSimpArgs false
set_option maxRecDepth 100000

theorem lawParsePolygon_walk (s0 : List UInt8) (w : World) (fm0 : s0.length ≤ 9223372036854775807) (h_tab : TabW w) (h_err : ErrW w) (h_max : MaxW w) :
    Calls Tryd.prog 4 #[.string ⟨s0.toArray⟩] w fun e w' => e = .returned (.bool true) ∧ Below w.heap.size w w' := by
  have hsz0 : (⟨s0.toArray⟩ : ByteArray).size = s0.length := by simp [ByteArray.size]
  by_cases hbig0 : 1048576 < s0.length
  · go_enter Tryd.func4, Tryd.ntmps4
    go_wp2
    go_ret
    exact ⟨rfl, Below.refl _ _⟩
  go_enter Tryd.func4, Tryd.ntmps4
  go_wp2_with fail
  refine (specPPol_any _ _ (by omega)).mono ?_
  rintro e w1 ⟨p1, n1', c1, rfl, ho1, hb1⟩
  have hsw1 := hb1.size
  have hT := hb1
  obtain ⟨hl1, ht1⟩ := ppolV_len s0
  rw [ho1.len] at hl1
  go_wp2_with fail
  refine (implPPol_any _ _ (by omega) (h_tab.below hT) (h_err.below hT) (h_max.below hT)).mono ?_
  rintro e w2 ⟨p2, n2', c2, rfl, ho2, hb2⟩
  have hsw2 := hb2.size
  replace ho1 := ho1.below hb2
  replace hT := Below.step hT hb2
  obtain ⟨hl2, ht2⟩ := ppolV_len s0
  rw [ho2.len] at hl2
  go_wp2_with fail
  refine (eqIntSS_self _ _ _ _ _ _ _ _ ho2.rd ho1.rd (by omega) (by omega)).mono ?_
  rintro e w3 ⟨rfl, hb3⟩
  have hsw3 := hb3.size
  replace ho1 := ho1.below hb3
  replace ho2 := ho2.below hb3
  replace hT := Below.step hT hb3
  go_wp2_with fail
  refine (markIntSS_any _ _ _ _ _ _ _ _ ho2 (by omega) (by omega)).mono ?_
  rintro e w4 ⟨rfl, hm4, hb4⟩
  have hsw4 := hb4.size
  replace ho1 := ho1.within hb4 (by omega)
  replace hT := Below.mark hT hb4 (by omega)
  clear ho2
  go_wp2_with fail
  refine (ret_of_same (heldIntSS_any _ _ _ _ _ _ hm4.rd (by omega) (by omega) (by omega))).mono ?_
  rintro e w5 ⟨rfl, hb5⟩
  have hsw5 := hb5.size
  replace ho1 := ho1.below hb5
  replace hm4 := hm4.below hb5
  replace hT := Below.step hT hb5
  go_wp2_with fail
  refine (implPPol_any _ _ (by omega) (h_tab.below hT) (h_err.below hT) (h_max.below hT)).mono ?_
  rintro e w6 ⟨p6, n6', c6, rfl, ho6, hb6⟩
  have hsw6 := hb6.size
  replace ho1 := ho1.below hb6
  replace hm4 := hm4.below hb6
  replace hT := Below.step hT hb6
  obtain ⟨hl6, ht6⟩ := ppolV_len s0
  rw [ho6.len] at hl6
  go_wp2_with fail
  refine (eqIntSS_self _ _ _ _ _ _ _ _ ho6.rd ho1.rd (by omega) (by omega)).mono ?_
  rintro e w7 ⟨rfl, hb7⟩
  have hsw7 := hb7.size
  replace ho1 := ho1.below hb7
  replace hm4 := hm4.below hb7
  replace ho6 := ho6.below hb7
  replace hT := Below.step hT hb7
  go_wp2_with fail
  refine (ret_of_same (heldIntSS_any _ _ _ _ _ _ hm4.rd (by omega) (by omega) (by omega))).mono ?_
  rintro e w8 ⟨rfl, hb8⟩
  have hsw8 := hb8.size
  replace ho1 := ho1.below hb8
  replace hm4 := hm4.below hb8
  replace ho6 := ho6.below hb8
  replace hT := Below.step hT hb8
  go_wp2_with fail
  go_ret
  exact ⟨rfl, hT⟩

end Go.Proofs.YteamihmolpaoeaaDoor
