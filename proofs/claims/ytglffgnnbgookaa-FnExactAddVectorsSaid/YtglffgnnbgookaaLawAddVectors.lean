/- The law FnExactAddVectors: the walk: for every input it returns true and writes nothing that was there. Conditions: none. -/
import Derived.Test.YtglffgnnbgookaaLawKit
namespace Go.Proofs.Ytglffgnnbgookaa
open Go.RowKit
set_option linter.unusedVariables false
set_option linter.unusedSimpArgs false

theorem lawAddVectors_walk (q0 : Option Addr) (n0 c0 : Nat) (x0 : List Int) (q1 : Option Addr) (n1 c1 : Nat) (x1 : List Int) (w : World) (fm0 : n0 ≤ 9223372036854775807) (fr0 : Ints w q0 n0 x0) (fm1 : n1 ≤ 9223372036854775807) (fr1 : Ints w q1 n1 x1) :
    Calls Try.prog 6 #[.slice q0 n0 c0, .slice q1 n1 c1] w fun e w' => e = .returned (.bool true) ∧ Below w.heap.size w w' := by
  by_cases hbig0 : 1048576 < n0
  · go_enter Try.func6, Try.ntmps6
    go_wp2
    go_ret
    exact ⟨rfl, Below.refl _ _⟩
  by_cases hbig1 : 1048576 < n1
  · go_enter Try.func6, Try.ntmps6
    go_wp2
    go_ret
    exact ⟨rfl, Below.refl _ _⟩
  go_enter Try.func6, Try.ntmps6
  go_wp2_with fail
  refine (toIntS_any _ _ _ _ _ fr0 (by omega)).mono ?_
  rintro e w1 ⟨p1, c1, rfl, ho1, hb1⟩
  have hsw1 := hb1.size
  have hT := hb1
  go_wp2_with fail
  refine (toIntS_any _ _ _ _ _ (fr1.below hT) (by omega)).mono ?_
  rintro e w2 ⟨p2, c2, rfl, ho2, hb2⟩
  have hsw2 := hb2.size
  replace ho1 := ho1.below hb2
  replace hT := Below.step hT hb2
  go_wp2_with fail
  refine (specAdd_any _ _ _ _ _ _ _ _ _ (by omega) (by omega) ho1.rd ho2.rd).mono ?_
  rintro e w3 ⟨p3, n3', c3, rfl, ho3, hb3⟩
  have hsw3 := hb3.size
  replace ho1 := ho1.below hb3
  replace ho2 := ho2.below hb3
  replace hT := Below.step hT hb3
  have hl3 := addV_len x0 x1
  rw [ho3.len] at hl3
  go_wp2_with fail
  refine (toIntS_any _ _ _ _ _ (fr0.below hT) (by omega)).mono ?_
  rintro e w4 ⟨p4, c4, rfl, ho4, hb4⟩
  have hsw4 := hb4.size
  replace ho3 := ho3.below hb4
  replace hT := Below.step hT hb4
  go_wp2_with fail
  refine (toIntS_any _ _ _ _ _ (fr1.below hT) (by omega)).mono ?_
  rintro e w5 ⟨p5, c5, rfl, ho5, hb5⟩
  have hsw5 := hb5.size
  replace ho3 := ho3.below hb5
  replace ho4 := ho4.below hb5
  replace hT := Below.step hT hb5
  go_wp2_with fail
  refine (implAdd_any _ _ _ _ _ _ _ _ _ (by omega) (by omega) ho4.rd ho5.rd).mono ?_
  rintro e w6 ⟨p6, n6', c6, rfl, ho6, hb6⟩
  have hsw6 := hb6.size
  replace ho3 := ho3.below hb6
  replace ho4 := ho4.below hb6
  replace ho5 := ho5.below hb6
  replace hT := Below.step hT hb6
  have hl6 := addV_len x0 x1
  rw [ho6.len] at hl6
  go_wp2_with fail
  refine (eqIntS_self _ _ _ _ _ _ _ _ ho6.rd ho3.rd (by omega) (by omega)).mono ?_
  rintro e w7 ⟨rfl, hb7⟩
  have hsw7 := hb7.size
  replace ho3 := ho3.below hb7
  replace ho4 := ho4.below hb7
  replace ho5 := ho5.below hb7
  replace ho6 := ho6.below hb7
  replace hT := Below.step hT hb7
  go_wp2_with fail
  refine (toIntS_any _ _ _ _ _ (fr0.below hT) (by omega)).mono ?_
  rintro e w8 ⟨p8, c8, rfl, ho8, hb8⟩
  have hsw8 := hb8.size
  replace ho3 := ho3.below hb8
  replace ho4 := ho4.below hb8
  replace ho5 := ho5.below hb8
  replace ho6 := ho6.below hb8
  replace hT := Below.step hT hb8
  go_wp2_with fail
  refine (eqIntS_self _ _ _ _ _ _ _ _ ho4.rd ho8.rd (by omega) (by omega)).mono ?_
  rintro e w9 ⟨rfl, hb9⟩
  have hsw9 := hb9.size
  replace ho3 := ho3.below hb9
  replace ho4 := ho4.below hb9
  replace ho5 := ho5.below hb9
  replace ho6 := ho6.below hb9
  replace ho8 := ho8.below hb9
  replace hT := Below.step hT hb9
  go_wp2_with fail
  refine (toIntS_any _ _ _ _ _ (fr1.below hT) (by omega)).mono ?_
  rintro e w10 ⟨p10, c10, rfl, ho10, hb10⟩
  have hsw10 := hb10.size
  replace ho3 := ho3.below hb10
  replace ho4 := ho4.below hb10
  replace ho5 := ho5.below hb10
  replace ho6 := ho6.below hb10
  replace hT := Below.step hT hb10
  go_wp2_with fail
  refine (eqIntS_self _ _ _ _ _ _ _ _ ho5.rd ho10.rd (by omega) (by omega)).mono ?_
  rintro e w11 ⟨rfl, hb11⟩
  have hsw11 := hb11.size
  replace ho3 := ho3.below hb11
  replace ho4 := ho4.below hb11
  replace ho5 := ho5.below hb11
  replace ho6 := ho6.below hb11
  replace ho10 := ho10.below hb11
  replace hT := Below.step hT hb11
  go_wp2_with fail
  refine (markIntS_any _ _ _ _ _ _ _ _ ho4 (by omega) (by omega)).mono ?_
  rintro e w12 ⟨rfl, hm12, hb12⟩
  have hsw12 := hb12.size
  replace ho3 := ho3.within hb12 (by omega)
  replace ho5 := ho5.within hb12 (by omega)
  replace ho6 := ho6.within hb12 (by omega)
  replace hT := Below.mark hT hb12 (by omega)
  clear ho4
  go_wp2_with fail
  refine (markIntS_any _ _ _ _ _ _ _ _ ho5 (by omega) (by omega)).mono ?_
  rintro e w13 ⟨rfl, hm13, hb13⟩
  have hsw13 := hb13.size
  replace ho3 := ho3.within hb13 (by omega)
  replace hm12 := hm12.within hb13 (by omega)
  replace ho6 := ho6.within hb13 (by omega)
  replace hT := Below.mark hT hb13 (by omega)
  clear ho5
  go_wp2_with fail
  refine (eqIntS_self _ _ _ _ _ _ _ _ ho6.rd ho3.rd (by omega) (by omega)).mono ?_
  rintro e w14 ⟨rfl, hb14⟩
  have hsw14 := hb14.size
  replace ho3 := ho3.below hb14
  replace hm12 := hm12.below hb14
  replace hm13 := hm13.below hb14
  replace ho6 := ho6.below hb14
  replace hT := Below.step hT hb14
  go_wp2_with fail
  refine (markIntS_any _ _ _ _ _ _ _ _ ho6 (by omega) (by omega)).mono ?_
  rintro e w15 ⟨rfl, hm15, hb15⟩
  have hsw15 := hb15.size
  replace ho3 := ho3.within hb15 (by omega)
  replace hm12 := hm12.within hb15 (by omega)
  replace hm13 := hm13.within hb15 (by omega)
  replace hT := Below.mark hT hb15 (by omega)
  clear ho6
  go_wp2_with fail
  refine (ret_of_same (heldIntS_any _ _ _ _ _ hm15.rd (by omega) (by omega))).mono ?_
  rintro e w16 ⟨rfl, hb16⟩
  have hsw16 := hb16.size
  replace ho3 := ho3.below hb16
  replace hm12 := hm12.below hb16
  replace hm13 := hm13.below hb16
  replace hm15 := hm15.below hb16
  replace hT := Below.step hT hb16
  go_wp2_with fail
  refine (toIntS_any _ _ _ _ _ (fr0.below hT) (by omega)).mono ?_
  rintro e w17 ⟨p17, c17, rfl, ho17, hb17⟩
  have hsw17 := hb17.size
  replace ho3 := ho3.below hb17
  replace hm12 := hm12.below hb17
  replace hm13 := hm13.below hb17
  replace hm15 := hm15.below hb17
  replace hT := Below.step hT hb17
  go_wp2_with fail
  refine (toIntS_any _ _ _ _ _ (fr1.below hT) (by omega)).mono ?_
  rintro e w18 ⟨p18, c18, rfl, ho18, hb18⟩
  have hsw18 := hb18.size
  replace ho3 := ho3.below hb18
  replace hm12 := hm12.below hb18
  replace hm13 := hm13.below hb18
  replace hm15 := hm15.below hb18
  replace ho17 := ho17.below hb18
  replace hT := Below.step hT hb18
  go_wp2_with fail
  refine (implAdd_any _ _ _ _ _ _ _ _ _ (by omega) (by omega) ho17.rd ho18.rd).mono ?_
  rintro e w19 ⟨p19, n19', c19, rfl, ho19, hb19⟩
  have hsw19 := hb19.size
  replace ho3 := ho3.below hb19
  replace hm12 := hm12.below hb19
  replace hm13 := hm13.below hb19
  replace hm15 := hm15.below hb19
  replace ho17 := ho17.below hb19
  replace ho18 := ho18.below hb19
  replace hT := Below.step hT hb19
  have hl19 := addV_len x0 x1
  rw [ho19.len] at hl19
  go_wp2_with fail
  refine (eqIntS_self _ _ _ _ _ _ _ _ ho19.rd ho3.rd (by omega) (by omega)).mono ?_
  rintro e w20 ⟨rfl, hb20⟩
  have hsw20 := hb20.size
  replace ho3 := ho3.below hb20
  replace hm12 := hm12.below hb20
  replace hm13 := hm13.below hb20
  replace hm15 := hm15.below hb20
  replace ho19 := ho19.below hb20
  replace hT := Below.step hT hb20
  go_wp2_with fail
  refine (ret_of_same (heldIntS_any _ _ _ _ _ hm15.rd (by omega) (by omega))).mono ?_
  rintro e w21 ⟨rfl, hb21⟩
  have hsw21 := hb21.size
  replace ho3 := ho3.below hb21
  replace hm12 := hm12.below hb21
  replace hm13 := hm13.below hb21
  replace hm15 := hm15.below hb21
  replace ho19 := ho19.below hb21
  replace hT := Below.step hT hb21
  go_wp2_with fail
  go_ret
  exact ⟨rfl, hT⟩

end Go.Proofs.Ytglffgnnbgookaa
