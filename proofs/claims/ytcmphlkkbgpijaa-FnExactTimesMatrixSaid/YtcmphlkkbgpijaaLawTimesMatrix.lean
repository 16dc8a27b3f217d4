/- The law FnExactTimesMatrix: the walk: for every input it returns true and writes nothing that was there. Conditions: none. -/
import Derived.Test.YtcmphlkkbgpijaaTimes2
import Derived.Test.YtcmphlkkbgpijaaMark2
namespace Go.Proofs.Ytcmphlkkbgpijaa
open Go.RowKit
set_option linter.unusedVariables false
set_option linter.unusedSimpArgs false

theorem lawTimesMatrix_walk (q0 : Option Addr) (n0 c0 : Nat) (x0 : List (List Int)) (q1 : Option Addr) (n1 c1 : Nat) (x1 : List (List Int)) (w : World) (fm0 : n0 ≤ 9223372036854775807) (fr0 : Intss w q0 n0 x0) (fm1 : n1 ≤ 9223372036854775807) (fr1 : Intss w q1 n1 x1) :
    Calls Try.prog 8 #[.slice q0 n0 c0, .slice q1 n1 c1] w fun e w' => e = .returned (.bool true) ∧ Below w.heap.size w w' := by
  by_cases hfit0 : ((n0 + tot x0 : Nat) : Int) ≤ 1048576
  rotate_left
  · go_enter Try.func8, Try.ntmps8
    go_wp2_with fail
    refine (ret_of_same (szIntSS_any _ _ _ _ _ _ fm0 fr0 (by omega) (by omega))).mono ?_
    rw [leftOf_no (by omega)]
    rintro e w1 ⟨rfl, hb1⟩
    have hsw1 := hb1.size
    have hT := hb1
    go_wp2
    go_ret
    exact ⟨rfl, hT⟩
  by_cases hfit1 : ((n0 + tot x0 : Nat) : Int) + ((n1 + tot x1 : Nat) : Int) ≤ 1048576
  rotate_left
  · go_enter Try.func8, Try.ntmps8
    go_wp2_with fail
    refine (ret_of_same (szIntSS_any _ _ _ _ _ _ fm0 fr0 (by omega) (by omega))).mono ?_
    rw [leftOf_yes (by omega)]
    rintro e w1 ⟨rfl, hb1⟩
    have hsw1 := hb1.size
    have hT := hb1
    go_wp2_with fail
    refine (ret_of_same (szIntSS_any _ _ _ _ _ _ fm1 (fr1.below hT) (by omega) (by omega))).mono ?_
    rw [leftOf_no (by omega)]
    rintro e w2 ⟨rfl, hb2⟩
    have hsw2 := hb2.size
    replace hT := Below.step hT hb2
    go_wp2
    go_ret
    exact ⟨rfl, hT⟩
  go_enter Try.func8, Try.ntmps8
  go_wp2_with fail
  refine (ret_of_same (szIntSS_any _ _ _ _ _ _ fm0 fr0 (by omega) (by omega))).mono ?_
  rw [leftOf_yes (by omega)]
  rintro e w1 ⟨rfl, hb1⟩
  have hsw1 := hb1.size
  have hT := hb1
  go_wp2_with fail
  refine (ret_of_same (szIntSS_any _ _ _ _ _ _ fm1 (fr1.below hT) (by omega) (by omega))).mono ?_
  rw [leftOf_yes (by omega)]
  rintro e w2 ⟨rfl, hb2⟩
  have hsw2 := hb2.size
  replace hT := Below.step hT hb2
  go_wp2_with fail
  refine (toIntSS_any _ _ _ _ _ (fr0.below hT) (by omega) (by omega)).mono ?_
  rintro e w3 ⟨p3, c3, rfl, ho3, hb3⟩
  have hsw3 := hb3.size
  replace hT := Below.step hT hb3
  go_wp2_with fail
  refine (toIntSS_any _ _ _ _ _ (fr1.below hT) (by omega) (by omega)).mono ?_
  rintro e w4 ⟨p4, c4, rfl, ho4, hb4⟩
  have hsw4 := hb4.size
  replace ho3 := ho3.below hb4
  replace hT := Below.step hT hb4
  go_wp2_with fail
  refine (specTimes_any _ _ _ _ _ _ _ _ _ (by omega) (by omega) ho3.rd ho4.rd).mono ?_
  rintro e w5 ⟨p5, n5', c5, rfl, ho5, hb5⟩
  have hsw5 := hb5.size
  replace ho3 := ho3.below hb5
  replace ho4 := ho4.below hb5
  replace hT := Below.step hT hb5
  obtain ⟨hl5, ht5⟩ := timesV_len x0 x1
  rw [ho5.len] at hl5
  go_wp2_with fail
  refine (toIntSS_any _ _ _ _ _ (fr0.below hT) (by omega) (by omega)).mono ?_
  rintro e w6 ⟨p6, c6, rfl, ho6, hb6⟩
  have hsw6 := hb6.size
  replace ho5 := ho5.below hb6
  replace hT := Below.step hT hb6
  go_wp2_with fail
  refine (toIntSS_any _ _ _ _ _ (fr1.below hT) (by omega) (by omega)).mono ?_
  rintro e w7 ⟨p7, c7, rfl, ho7, hb7⟩
  have hsw7 := hb7.size
  replace ho5 := ho5.below hb7
  replace ho6 := ho6.below hb7
  replace hT := Below.step hT hb7
  go_wp2_with fail
  refine (implTimes_any _ _ _ _ _ _ _ _ _ (by omega) (by omega) ho6.rd ho7.rd).mono ?_
  rintro e w8 ⟨p8, n8', c8, rfl, ho8, hb8⟩
  have hsw8 := hb8.size
  replace ho5 := ho5.below hb8
  replace ho6 := ho6.below hb8
  replace ho7 := ho7.below hb8
  replace hT := Below.step hT hb8
  obtain ⟨hl8, ht8⟩ := timesV_len x0 x1
  rw [ho8.len] at hl8
  go_wp2_with fail
  refine (eqIntSS_self _ _ _ _ _ _ _ _ ho8.rd ho5.rd (by omega) (by omega)).mono ?_
  rintro e w9 ⟨rfl, hb9⟩
  have hsw9 := hb9.size
  replace ho5 := ho5.below hb9
  replace ho6 := ho6.below hb9
  replace ho7 := ho7.below hb9
  replace ho8 := ho8.below hb9
  replace hT := Below.step hT hb9
  go_wp2_with fail
  refine (toIntSS_any _ _ _ _ _ (fr0.below hT) (by omega) (by omega)).mono ?_
  rintro e w10 ⟨p10, c10, rfl, ho10, hb10⟩
  have hsw10 := hb10.size
  replace ho5 := ho5.below hb10
  replace ho6 := ho6.below hb10
  replace ho7 := ho7.below hb10
  replace ho8 := ho8.below hb10
  replace hT := Below.step hT hb10
  go_wp2_with fail
  refine (eqIntSS_self _ _ _ _ _ _ _ _ ho6.rd ho10.rd (by omega) (by omega)).mono ?_
  rintro e w11 ⟨rfl, hb11⟩
  have hsw11 := hb11.size
  replace ho5 := ho5.below hb11
  replace ho6 := ho6.below hb11
  replace ho7 := ho7.below hb11
  replace ho8 := ho8.below hb11
  replace ho10 := ho10.below hb11
  replace hT := Below.step hT hb11
  go_wp2_with fail
  refine (toIntSS_any _ _ _ _ _ (fr1.below hT) (by omega) (by omega)).mono ?_
  rintro e w12 ⟨p12, c12, rfl, ho12, hb12⟩
  have hsw12 := hb12.size
  replace ho5 := ho5.below hb12
  replace ho6 := ho6.below hb12
  replace ho7 := ho7.below hb12
  replace ho8 := ho8.below hb12
  replace hT := Below.step hT hb12
  go_wp2_with fail
  refine (eqIntSS_self _ _ _ _ _ _ _ _ ho7.rd ho12.rd (by omega) (by omega)).mono ?_
  rintro e w13 ⟨rfl, hb13⟩
  have hsw13 := hb13.size
  replace ho5 := ho5.below hb13
  replace ho6 := ho6.below hb13
  replace ho7 := ho7.below hb13
  replace ho8 := ho8.below hb13
  replace ho12 := ho12.below hb13
  replace hT := Below.step hT hb13
  go_wp2_with fail
  refine (markIntSS_any _ _ _ _ _ _ _ _ ho6 (by omega) (by omega)).mono ?_
  rintro e w14 ⟨rfl, hm14, hb14⟩
  have hsw14 := hb14.size
  replace ho5 := ho5.within hb14 (by omega)
  replace ho7 := ho7.within hb14 (by omega)
  replace ho8 := ho8.within hb14 (by omega)
  replace hT := Below.mark hT hb14 (by omega)
  clear ho6
  go_wp2_with fail
  refine (markIntSS_any _ _ _ _ _ _ _ _ ho7 (by omega) (by omega)).mono ?_
  rintro e w15 ⟨rfl, hm15, hb15⟩
  have hsw15 := hb15.size
  replace ho5 := ho5.within hb15 (by omega)
  replace hm14 := hm14.within hb15 (by omega)
  replace ho8 := ho8.within hb15 (by omega)
  replace hT := Below.mark hT hb15 (by omega)
  clear ho7
  go_wp2_with fail
  refine (eqIntSS_self _ _ _ _ _ _ _ _ ho8.rd ho5.rd (by omega) (by omega)).mono ?_
  rintro e w16 ⟨rfl, hb16⟩
  have hsw16 := hb16.size
  replace ho5 := ho5.below hb16
  replace hm14 := hm14.below hb16
  replace hm15 := hm15.below hb16
  replace ho8 := ho8.below hb16
  replace hT := Below.step hT hb16
  go_wp2_with fail
  refine (markIntSS_any _ _ _ _ _ _ _ _ ho8 (by omega) (by omega)).mono ?_
  rintro e w17 ⟨rfl, hm17, hb17⟩
  have hsw17 := hb17.size
  replace ho5 := ho5.within hb17 (by omega)
  replace hm14 := hm14.within hb17 (by omega)
  replace hm15 := hm15.within hb17 (by omega)
  replace hT := Below.mark hT hb17 (by omega)
  clear ho8
  go_wp2_with fail
  refine (ret_of_same (heldIntSS_any _ _ _ _ _ _ hm17.rd (by omega) (by omega) (by omega))).mono ?_
  rintro e w18 ⟨rfl, hb18⟩
  have hsw18 := hb18.size
  replace ho5 := ho5.below hb18
  replace hm14 := hm14.below hb18
  replace hm15 := hm15.below hb18
  replace hm17 := hm17.below hb18
  replace hT := Below.step hT hb18
  go_wp2_with fail
  refine (toIntSS_any _ _ _ _ _ (fr0.below hT) (by omega) (by omega)).mono ?_
  rintro e w19 ⟨p19, c19, rfl, ho19, hb19⟩
  have hsw19 := hb19.size
  replace ho5 := ho5.below hb19
  replace hm14 := hm14.below hb19
  replace hm15 := hm15.below hb19
  replace hm17 := hm17.below hb19
  replace hT := Below.step hT hb19
  go_wp2_with fail
  refine (toIntSS_any _ _ _ _ _ (fr1.below hT) (by omega) (by omega)).mono ?_
  rintro e w20 ⟨p20, c20, rfl, ho20, hb20⟩
  have hsw20 := hb20.size
  replace ho5 := ho5.below hb20
  replace hm14 := hm14.below hb20
  replace hm15 := hm15.below hb20
  replace hm17 := hm17.below hb20
  replace ho19 := ho19.below hb20
  replace hT := Below.step hT hb20
  go_wp2_with fail
  refine (implTimes_any _ _ _ _ _ _ _ _ _ (by omega) (by omega) ho19.rd ho20.rd).mono ?_
  rintro e w21 ⟨p21, n21', c21, rfl, ho21, hb21⟩
  have hsw21 := hb21.size
  replace ho5 := ho5.below hb21
  replace hm14 := hm14.below hb21
  replace hm15 := hm15.below hb21
  replace hm17 := hm17.below hb21
  replace ho19 := ho19.below hb21
  replace ho20 := ho20.below hb21
  replace hT := Below.step hT hb21
  obtain ⟨hl21, ht21⟩ := timesV_len x0 x1
  rw [ho21.len] at hl21
  go_wp2_with fail
  refine (eqIntSS_self _ _ _ _ _ _ _ _ ho21.rd ho5.rd (by omega) (by omega)).mono ?_
  rintro e w22 ⟨rfl, hb22⟩
  have hsw22 := hb22.size
  replace ho5 := ho5.below hb22
  replace hm14 := hm14.below hb22
  replace hm15 := hm15.below hb22
  replace hm17 := hm17.below hb22
  replace ho21 := ho21.below hb22
  replace hT := Below.step hT hb22
  go_wp2_with fail
  refine (ret_of_same (heldIntSS_any _ _ _ _ _ _ hm17.rd (by omega) (by omega) (by omega))).mono ?_
  rintro e w23 ⟨rfl, hb23⟩
  have hsw23 := hb23.size
  replace ho5 := ho5.below hb23
  replace hm14 := hm14.below hb23
  replace hm15 := hm15.below hb23
  replace hm17 := hm17.below hb23
  replace ho21 := ho21.below hb23
  replace hT := Below.step hT hb23
  go_wp2_with fail
  go_ret
  exact ⟨rfl, hT⟩

end Go.Proofs.Ytcmphlkkbgpijaa
