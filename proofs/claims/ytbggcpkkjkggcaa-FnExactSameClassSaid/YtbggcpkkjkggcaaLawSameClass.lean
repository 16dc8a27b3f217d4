/- The law FnExactSameClass: the walk: for every input it returns true and writes nothing that was there. Conditions: none. -/
import Derived.Test.YtbggcpkkjkggcaaLead2
import Derived.Test.YtbggcpkkjkggcaaMark2
namespace Go.Proofs.Ytbggcpkkjkggcaa
open Go.RowKit
set_option linter.unusedVariables false
set_option linter.unusedSimpArgs false
set_option maxRecDepth 100000

theorem lawSameClass_walk (q0 : Option Addr) (n0 c0 : Nat) (x0 : List (List Int)) (q1 : Option Addr) (n1 c1 : Nat) (x1 : List Int) (q2 : Option Addr) (n2 c2 : Nat) (x2 : List Int) (w : World) (fm0 : n0 ≤ 9223372036854775807) (fr0 : Intss w q0 n0 x0) (fm1 : n1 ≤ 9223372036854775807) (fr1 : Ints w q1 n1 x1) (fm2 : n2 ≤ 9223372036854775807) (fr2 : Ints w q2 n2 x2) :
    Calls Try.prog 5 #[.slice q0 n0 c0, .slice q1 n1 c1, .slice q2 n2 c2] w fun e w' => e = .returned (.bool true) ∧ Below w.heap.size w w' := by
  by_cases hbig1 : 1048576 < n1
  · go_enter Try.func5, Try.ntmps5
    go_wp2
    go_ret
    exact ⟨rfl, Below.refl _ _⟩
  by_cases hbig2 : 1048576 < n2
  · go_enter Try.func5, Try.ntmps5
    go_wp2
    go_ret
    exact ⟨rfl, Below.refl _ _⟩
  by_cases hfit0 : ((n0 + tot x0 : Nat) : Int) ≤ 1048576
  rotate_left
  · go_enter Try.func5, Try.ntmps5
    go_wp2_with fail
    refine (ret_of_same (szIntSS_any _ _ _ _ _ _ fm0 fr0 (by omega) (by omega))).mono ?_
    rw [leftOf_no (by omega)]
    rintro e w1 ⟨rfl, hb1⟩
    have hsw1 := hb1.size
    have hT := hb1
    go_wp2
    go_ret
    exact ⟨rfl, hT⟩
  go_enter Try.func5, Try.ntmps5
  go_wp2_with fail
  refine (ret_of_same (szIntSS_any _ _ _ _ _ _ fm0 fr0 (by omega) (by omega))).mono ?_
  rw [leftOf_yes (by omega)]
  rintro e w1 ⟨rfl, hb1⟩
  have hsw1 := hb1.size
  have hT := hb1
  go_wp2_with fail
  refine (toIntSS_any _ _ _ _ _ (fr0.below hT) (by omega) (by omega)).mono ?_
  rintro e w2 ⟨p2, c2, rfl, ho2, hb2⟩
  have hsw2 := hb2.size
  replace hT := Below.step hT hb2
  go_wp2_with fail
  refine (toIntS_any _ _ _ _ _ (fr1.below hT) (by omega)).mono ?_
  rintro e w3 ⟨p3, c3, rfl, ho3, hb3⟩
  have hsw3 := hb3.size
  replace ho2 := ho2.below hb3
  replace hT := Below.step hT hb3
  go_wp2_with fail
  refine (toIntS_any _ _ _ _ _ (fr2.below hT) (by omega)).mono ?_
  rintro e w4 ⟨p4, c4, rfl, ho4, hb4⟩
  have hsw4 := hb4.size
  replace ho2 := ho2.below hb4
  replace ho3 := ho3.below hb4
  replace hT := Below.step hT hb4
  go_wp2_with fail
  refine (specSameClass_any _ _ _ _ _ _ _ _ _ _ _ _ _ (by omega) (by omega) (by omega) ho2.rd ho3.rd ho4.rd).mono ?_
  rintro e w5 ⟨rfl, hb5⟩
  have hsw5 := hb5.size
  replace ho2 := ho2.below hb5
  replace ho3 := ho3.below hb5
  replace ho4 := ho4.below hb5
  replace hT := Below.step hT hb5
  go_wp2_with fail
  refine (toIntSS_any _ _ _ _ _ (fr0.below hT) (by omega) (by omega)).mono ?_
  rintro e w6 ⟨p6, c6, rfl, ho6, hb6⟩
  have hsw6 := hb6.size
  replace hT := Below.step hT hb6
  go_wp2_with fail
  refine (toIntS_any _ _ _ _ _ (fr1.below hT) (by omega)).mono ?_
  rintro e w7 ⟨p7, c7, rfl, ho7, hb7⟩
  have hsw7 := hb7.size
  replace ho6 := ho6.below hb7
  replace hT := Below.step hT hb7
  go_wp2_with fail
  refine (toIntS_any _ _ _ _ _ (fr2.below hT) (by omega)).mono ?_
  rintro e w8 ⟨p8, c8, rfl, ho8, hb8⟩
  have hsw8 := hb8.size
  replace ho6 := ho6.below hb8
  replace ho7 := ho7.below hb8
  replace hT := Below.step hT hb8
  go_wp2_with fail
  refine (implSameClass_any _ _ _ _ _ _ _ _ _ _ _ _ _ (by omega) (by omega) (by omega) ho6.rd ho7.rd ho8.rd).mono ?_
  rintro e w9 ⟨rfl, hb9⟩
  have hsw9 := hb9.size
  replace ho6 := ho6.below hb9
  replace ho7 := ho7.below hb9
  replace ho8 := ho8.below hb9
  replace hT := Below.step hT hb9
  go_wp2_with fail
  refine (toIntSS_any _ _ _ _ _ (fr0.below hT) (by omega) (by omega)).mono ?_
  rintro e w10 ⟨p10, c10, rfl, ho10, hb10⟩
  have hsw10 := hb10.size
  replace ho6 := ho6.below hb10
  replace ho7 := ho7.below hb10
  replace ho8 := ho8.below hb10
  replace hT := Below.step hT hb10
  go_wp2_with fail
  refine (eqIntSS_self _ _ _ _ _ _ _ _ ho6.rd ho10.rd (by omega) (by omega)).mono ?_
  rintro e w11 ⟨rfl, hb11⟩
  have hsw11 := hb11.size
  replace ho6 := ho6.below hb11
  replace ho7 := ho7.below hb11
  replace ho8 := ho8.below hb11
  replace ho10 := ho10.below hb11
  replace hT := Below.step hT hb11
  go_wp2_with fail
  refine (toIntS_any _ _ _ _ _ (fr1.below hT) (by omega)).mono ?_
  rintro e w12 ⟨p12, c12, rfl, ho12, hb12⟩
  have hsw12 := hb12.size
  replace ho6 := ho6.below hb12
  replace ho7 := ho7.below hb12
  replace ho8 := ho8.below hb12
  replace hT := Below.step hT hb12
  go_wp2_with fail
  refine (eqIntS_self _ _ _ _ _ _ _ _ ho7.rd ho12.rd (by omega) (by omega)).mono ?_
  rintro e w13 ⟨rfl, hb13⟩
  have hsw13 := hb13.size
  replace ho6 := ho6.below hb13
  replace ho7 := ho7.below hb13
  replace ho8 := ho8.below hb13
  replace ho12 := ho12.below hb13
  replace hT := Below.step hT hb13
  go_wp2_with fail
  refine (toIntS_any _ _ _ _ _ (fr2.below hT) (by omega)).mono ?_
  rintro e w14 ⟨p14, c14, rfl, ho14, hb14⟩
  have hsw14 := hb14.size
  replace ho6 := ho6.below hb14
  replace ho7 := ho7.below hb14
  replace ho8 := ho8.below hb14
  replace hT := Below.step hT hb14
  go_wp2_with fail
  refine (eqIntS_self _ _ _ _ _ _ _ _ ho8.rd ho14.rd (by omega) (by omega)).mono ?_
  rintro e w15 ⟨rfl, hb15⟩
  have hsw15 := hb15.size
  replace ho6 := ho6.below hb15
  replace ho7 := ho7.below hb15
  replace ho8 := ho8.below hb15
  replace ho14 := ho14.below hb15
  replace hT := Below.step hT hb15
  go_wp2_with fail
  go_ret
  exact ⟨rfl, hT⟩

end Go.Proofs.Ytbggcpkkjkggcaa
