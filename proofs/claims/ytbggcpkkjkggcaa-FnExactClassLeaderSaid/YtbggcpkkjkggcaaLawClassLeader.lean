/- The law FnExactClassLeader: the walk: for every input it returns true and writes nothing that was there. Conditions: none. -/
import Derived.Test.YtbggcpkkjkggcaaLead2
import Derived.Test.YtbggcpkkjkggcaaMark2
namespace Go.Proofs.Ytbggcpkkjkggcaa
open Go.RowKit
set_option linter.unusedVariables false
set_option linter.unusedSimpArgs false
set_option maxRecDepth 100000

theorem lawClassLeader_walk (q0 : Option Addr) (n0 c0 : Nat) (x0 : List (List Int)) (q1 : Option Addr) (n1 c1 : Nat) (x1 : List Int) (w : World) (fm0 : n0 ≤ 9223372036854775807) (fr0 : Intss w q0 n0 x0) (fm1 : n1 ≤ 9223372036854775807) (fr1 : Ints w q1 n1 x1) :
    Calls Try.prog 4 #[.slice q0 n0 c0, .slice q1 n1 c1] w fun e w' => e = .returned (.bool true) ∧ Below w.heap.size w w' := by
  by_cases hbig1 : 1048576 < n1
  · go_enter Try.func4, Try.ntmps4
    go_wp2
    go_ret
    exact ⟨rfl, Below.refl _ _⟩
  by_cases hfit0 : ((n0 + tot x0 : Nat) : Int) ≤ 1048576
  rotate_left
  · go_enter Try.func4, Try.ntmps4
    go_wp2_with fail
    refine (ret_of_same (szIntSS_any _ _ _ _ _ _ fm0 fr0 (by omega) (by omega))).mono ?_
    rw [leftOf_no (by omega)]
    rintro e w1 ⟨rfl, hb1⟩
    have hsw1 := hb1.size
    have hT := hb1
    go_wp2
    go_ret
    exact ⟨rfl, hT⟩
  go_enter Try.func4, Try.ntmps4
  go_wp2_with fail
  refine (ret_of_same (szIntSS_any _ _ _ _ _ _ fm0 fr0 (by omega) (by omega))).mono ?_
  rw [leftOf_yes (by omega)]
  rintro e w1 ⟨rfl, hb1⟩
  have hsw1 := hb1.size
  have hT := hb1
  go_wp2_with fail
  refine (toIntSS_any _ _ _ _ _ (fr0.below hT) (by omega) (by omega)).mono ?_
  rintro e w2 ⟨p2, c2, rfl, ho2, hb2⟩
  have hsw2 := hb2.size
  replace hT := Below.step hT hb2
  go_wp2_with fail
  refine (toIntS_any _ _ _ _ _ (fr1.below hT) (by omega)).mono ?_
  rintro e w3 ⟨p3, c3, rfl, ho3, hb3⟩
  have hsw3 := hb3.size
  replace ho2 := ho2.below hb3
  replace hT := Below.step hT hb3
  go_wp2_with fail
  refine (specClassLeader_any _ _ _ _ _ _ _ _ _ (by omega) (by omega) ho2.rd ho3.rd).mono ?_
  rintro e w4 ⟨p4, n4', c4, rfl, ho4, hb4⟩
  have hsw4 := hb4.size
  replace ho2 := ho2.below hb4
  replace ho3 := ho3.below hb4
  replace hT := Below.step hT hb4
  have hl4 := leadV_len x0 x1
  rw [ho4.len] at hl4
  go_wp2_with fail
  refine (toIntSS_any _ _ _ _ _ (fr0.below hT) (by omega) (by omega)).mono ?_
  rintro e w5 ⟨p5, c5, rfl, ho5, hb5⟩
  have hsw5 := hb5.size
  replace ho4 := ho4.below hb5
  replace hT := Below.step hT hb5
  go_wp2_with fail
  refine (toIntS_any _ _ _ _ _ (fr1.below hT) (by omega)).mono ?_
  rintro e w6 ⟨p6, c6, rfl, ho6, hb6⟩
  have hsw6 := hb6.size
  replace ho4 := ho4.below hb6
  replace ho5 := ho5.below hb6
  replace hT := Below.step hT hb6
  go_wp2_with fail
  refine (implClassLeader_any _ _ _ _ _ _ _ _ _ (by omega) (by omega) ho5.rd ho6.rd).mono ?_
  rintro e w7 ⟨p7, n7', c7, rfl, ho7, hb7⟩
  have hsw7 := hb7.size
  replace ho4 := ho4.below hb7
  replace ho5 := ho5.below hb7
  replace ho6 := ho6.below hb7
  replace hT := Below.step hT hb7
  have hl7 := leadV_len x0 x1
  rw [ho7.len] at hl7
  go_wp2_with fail
  refine (eqIntS_self _ _ _ _ _ _ _ _ ho7.rd ho4.rd (by omega) (by omega)).mono ?_
  rintro e w8 ⟨rfl, hb8⟩
  have hsw8 := hb8.size
  replace ho4 := ho4.below hb8
  replace ho5 := ho5.below hb8
  replace ho6 := ho6.below hb8
  replace ho7 := ho7.below hb8
  replace hT := Below.step hT hb8
  go_wp2_with fail
  refine (toIntSS_any _ _ _ _ _ (fr0.below hT) (by omega) (by omega)).mono ?_
  rintro e w9 ⟨p9, c9, rfl, ho9, hb9⟩
  have hsw9 := hb9.size
  replace ho4 := ho4.below hb9
  replace ho5 := ho5.below hb9
  replace ho6 := ho6.below hb9
  replace ho7 := ho7.below hb9
  replace hT := Below.step hT hb9
  go_wp2_with fail
  refine (eqIntSS_self _ _ _ _ _ _ _ _ ho5.rd ho9.rd (by omega) (by omega)).mono ?_
  rintro e w10 ⟨rfl, hb10⟩
  have hsw10 := hb10.size
  replace ho4 := ho4.below hb10
  replace ho5 := ho5.below hb10
  replace ho6 := ho6.below hb10
  replace ho7 := ho7.below hb10
  replace ho9 := ho9.below hb10
  replace hT := Below.step hT hb10
  go_wp2_with fail
  refine (toIntS_any _ _ _ _ _ (fr1.below hT) (by omega)).mono ?_
  rintro e w11 ⟨p11, c11, rfl, ho11, hb11⟩
  have hsw11 := hb11.size
  replace ho4 := ho4.below hb11
  replace ho5 := ho5.below hb11
  replace ho6 := ho6.below hb11
  replace ho7 := ho7.below hb11
  replace hT := Below.step hT hb11
  go_wp2_with fail
  refine (eqIntS_self _ _ _ _ _ _ _ _ ho6.rd ho11.rd (by omega) (by omega)).mono ?_
  rintro e w12 ⟨rfl, hb12⟩
  have hsw12 := hb12.size
  replace ho4 := ho4.below hb12
  replace ho5 := ho5.below hb12
  replace ho6 := ho6.below hb12
  replace ho7 := ho7.below hb12
  replace ho11 := ho11.below hb12
  replace hT := Below.step hT hb12
  go_wp2_with fail
  refine (markIntSS_any _ _ _ _ _ _ _ _ ho5 (by omega) (by omega)).mono ?_
  rintro e w13 ⟨rfl, hm13, hb13⟩
  have hsw13 := hb13.size
  replace ho4 := ho4.within hb13 (by omega)
  replace ho6 := ho6.within hb13 (by omega)
  replace ho7 := ho7.within hb13 (by omega)
  replace hT := Below.mark hT hb13 (by omega)
  clear ho5
  go_wp2_with fail
  refine (markIntS_any _ _ _ _ _ _ _ _ ho6 (by omega) (by omega)).mono ?_
  rintro e w14 ⟨rfl, hm14, hb14⟩
  have hsw14 := hb14.size
  replace ho4 := ho4.within hb14 (by omega)
  replace hm13 := hm13.within hb14 (by omega)
  replace ho7 := ho7.within hb14 (by omega)
  replace hT := Below.mark hT hb14 (by omega)
  clear ho6
  go_wp2_with fail
  refine (eqIntS_self _ _ _ _ _ _ _ _ ho7.rd ho4.rd (by omega) (by omega)).mono ?_
  rintro e w15 ⟨rfl, hb15⟩
  have hsw15 := hb15.size
  replace ho4 := ho4.below hb15
  replace hm13 := hm13.below hb15
  replace hm14 := hm14.below hb15
  replace ho7 := ho7.below hb15
  replace hT := Below.step hT hb15
  go_wp2_with fail
  refine (markIntS_any _ _ _ _ _ _ _ _ ho7 (by omega) (by omega)).mono ?_
  rintro e w16 ⟨rfl, hm16, hb16⟩
  have hsw16 := hb16.size
  replace ho4 := ho4.within hb16 (by omega)
  replace hm13 := hm13.within hb16 (by omega)
  replace hm14 := hm14.within hb16 (by omega)
  replace hT := Below.mark hT hb16 (by omega)
  clear ho7
  go_wp2_with fail
  refine (ret_of_same (heldIntS_any _ _ _ _ _ hm16.rd (by omega) (by omega))).mono ?_
  rintro e w17 ⟨rfl, hb17⟩
  have hsw17 := hb17.size
  replace ho4 := ho4.below hb17
  replace hm13 := hm13.below hb17
  replace hm14 := hm14.below hb17
  replace hm16 := hm16.below hb17
  replace hT := Below.step hT hb17
  go_wp2_with fail
  refine (toIntSS_any _ _ _ _ _ (fr0.below hT) (by omega) (by omega)).mono ?_
  rintro e w18 ⟨p18, c18, rfl, ho18, hb18⟩
  have hsw18 := hb18.size
  replace ho4 := ho4.below hb18
  replace hm13 := hm13.below hb18
  replace hm14 := hm14.below hb18
  replace hm16 := hm16.below hb18
  replace hT := Below.step hT hb18
  go_wp2_with fail
  refine (toIntS_any _ _ _ _ _ (fr1.below hT) (by omega)).mono ?_
  rintro e w19 ⟨p19, c19, rfl, ho19, hb19⟩
  have hsw19 := hb19.size
  replace ho4 := ho4.below hb19
  replace hm13 := hm13.below hb19
  replace hm14 := hm14.below hb19
  replace hm16 := hm16.below hb19
  replace ho18 := ho18.below hb19
  replace hT := Below.step hT hb19
  go_wp2_with fail
  refine (implClassLeader_any _ _ _ _ _ _ _ _ _ (by omega) (by omega) ho18.rd ho19.rd).mono ?_
  rintro e w20 ⟨p20, n20', c20, rfl, ho20, hb20⟩
  have hsw20 := hb20.size
  replace ho4 := ho4.below hb20
  replace hm13 := hm13.below hb20
  replace hm14 := hm14.below hb20
  replace hm16 := hm16.below hb20
  replace ho18 := ho18.below hb20
  replace ho19 := ho19.below hb20
  replace hT := Below.step hT hb20
  have hl20 := leadV_len x0 x1
  rw [ho20.len] at hl20
  go_wp2_with fail
  refine (eqIntS_self _ _ _ _ _ _ _ _ ho20.rd ho4.rd (by omega) (by omega)).mono ?_
  rintro e w21 ⟨rfl, hb21⟩
  have hsw21 := hb21.size
  replace ho4 := ho4.below hb21
  replace hm13 := hm13.below hb21
  replace hm14 := hm14.below hb21
  replace hm16 := hm16.below hb21
  replace ho20 := ho20.below hb21
  replace hT := Below.step hT hb21
  go_wp2_with fail
  refine (ret_of_same (heldIntS_any _ _ _ _ _ hm16.rd (by omega) (by omega))).mono ?_
  rintro e w22 ⟨rfl, hb22⟩
  have hsw22 := hb22.size
  replace ho4 := ho4.below hb22
  replace hm13 := hm13.below hb22
  replace hm14 := hm14.below hb22
  replace hm16 := hm16.below hb22
  replace ho20 := ho20.below hb22
  replace hT := Below.step hT hb22
  go_wp2_with fail
  go_ret
  exact ⟨rfl, hT⟩

end Go.Proofs.Ytbggcpkkjkggcaa
