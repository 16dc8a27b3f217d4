/- The law FnExactPrimitiveOf: the walk: for every input it returns true and writes nothing that was there. Conditions: none. -/
import Derived.Test.YtglffgnnbgookaaLawKit
namespace Go.Proofs.Ytglffgnnbgookaa
open Go.RowKit
set_option linter.unusedVariables false
set_option linter.unusedSimpArgs false

theorem lawPrimitiveOf_walk (q0 : Option Addr) (n0 c0 : Nat) (x0 : List Int) (w : World) (fm0 : n0 ≤ 9223372036854775807) (fr0 : Ints w q0 n0 x0) :
    Calls Try.prog 14 #[.slice q0 n0 c0] w fun e w' => e = .returned (.bool true) ∧ Below w.heap.size w w' := by
  by_cases hbig0 : 1048576 < n0
  · go_enter Try.func14, Try.ntmps14
    go_wp2
    go_ret
    exact ⟨rfl, Below.refl _ _⟩
  go_enter Try.func14, Try.ntmps14
  go_wp2_with fail
  refine (toIntS_any _ _ _ _ _ fr0 (by omega)).mono ?_
  rintro e w1 ⟨p1, c1, rfl, ho1, hb1⟩
  have hsw1 := hb1.size
  have hT := hb1
  go_wp2_with fail
  refine (specPrimitive_any _ _ _ _ _ (by omega) ho1.rd).mono ?_
  rintro e w2 ⟨p2, n2', c2, rfl, ho2, hb2⟩
  have hsw2 := hb2.size
  replace ho1 := ho1.below hb2
  replace hT := Below.step hT hb2
  have hl2 := primV_len x0
  rw [ho2.len] at hl2
  go_wp2_with fail
  refine (toIntS_any _ _ _ _ _ (fr0.below hT) (by omega)).mono ?_
  rintro e w3 ⟨p3, c3, rfl, ho3, hb3⟩
  have hsw3 := hb3.size
  replace ho2 := ho2.below hb3
  replace hT := Below.step hT hb3
  go_wp2_with fail
  refine (implPrimitive_any _ _ _ _ _ (by omega) ho3.rd).mono ?_
  rintro e w4 ⟨p4, n4', c4, rfl, ho4, hb4⟩
  have hsw4 := hb4.size
  replace ho2 := ho2.below hb4
  replace ho3 := ho3.below hb4
  replace hT := Below.step hT hb4
  have hl4 := primV_len x0
  rw [ho4.len] at hl4
  go_wp2_with fail
  refine (eqIntS_self _ _ _ _ _ _ _ _ ho4.rd ho2.rd (by omega) (by omega)).mono ?_
  rintro e w5 ⟨rfl, hb5⟩
  have hsw5 := hb5.size
  replace ho2 := ho2.below hb5
  replace ho3 := ho3.below hb5
  replace ho4 := ho4.below hb5
  replace hT := Below.step hT hb5
  go_wp2_with fail
  refine (toIntS_any _ _ _ _ _ (fr0.below hT) (by omega)).mono ?_
  rintro e w6 ⟨p6, c6, rfl, ho6, hb6⟩
  have hsw6 := hb6.size
  replace ho2 := ho2.below hb6
  replace ho3 := ho3.below hb6
  replace ho4 := ho4.below hb6
  replace hT := Below.step hT hb6
  go_wp2_with fail
  refine (eqIntS_self _ _ _ _ _ _ _ _ ho3.rd ho6.rd (by omega) (by omega)).mono ?_
  rintro e w7 ⟨rfl, hb7⟩
  have hsw7 := hb7.size
  replace ho2 := ho2.below hb7
  replace ho3 := ho3.below hb7
  replace ho4 := ho4.below hb7
  replace ho6 := ho6.below hb7
  replace hT := Below.step hT hb7
  go_wp2_with fail
  refine (markIntS_any _ _ _ _ _ _ _ _ ho3 (by omega) (by omega)).mono ?_
  rintro e w8 ⟨rfl, hm8, hb8⟩
  have hsw8 := hb8.size
  replace ho2 := ho2.within hb8 (by omega)
  replace ho4 := ho4.within hb8 (by omega)
  replace hT := Below.mark hT hb8 (by omega)
  clear ho3
  go_wp2_with fail
  refine (eqIntS_self _ _ _ _ _ _ _ _ ho4.rd ho2.rd (by omega) (by omega)).mono ?_
  rintro e w9 ⟨rfl, hb9⟩
  have hsw9 := hb9.size
  replace ho2 := ho2.below hb9
  replace hm8 := hm8.below hb9
  replace ho4 := ho4.below hb9
  replace hT := Below.step hT hb9
  go_wp2_with fail
  refine (markIntS_any _ _ _ _ _ _ _ _ ho4 (by omega) (by omega)).mono ?_
  rintro e w10 ⟨rfl, hm10, hb10⟩
  have hsw10 := hb10.size
  replace ho2 := ho2.within hb10 (by omega)
  replace hm8 := hm8.within hb10 (by omega)
  replace hT := Below.mark hT hb10 (by omega)
  clear ho4
  go_wp2_with fail
  refine (ret_of_same (heldIntS_any _ _ _ _ _ hm10.rd (by omega) (by omega))).mono ?_
  rintro e w11 ⟨rfl, hb11⟩
  have hsw11 := hb11.size
  replace ho2 := ho2.below hb11
  replace hm8 := hm8.below hb11
  replace hm10 := hm10.below hb11
  replace hT := Below.step hT hb11
  go_wp2_with fail
  refine (toIntS_any _ _ _ _ _ (fr0.below hT) (by omega)).mono ?_
  rintro e w12 ⟨p12, c12, rfl, ho12, hb12⟩
  have hsw12 := hb12.size
  replace ho2 := ho2.below hb12
  replace hm8 := hm8.below hb12
  replace hm10 := hm10.below hb12
  replace hT := Below.step hT hb12
  go_wp2_with fail
  refine (implPrimitive_any _ _ _ _ _ (by omega) ho12.rd).mono ?_
  rintro e w13 ⟨p13, n13', c13, rfl, ho13, hb13⟩
  have hsw13 := hb13.size
  replace ho2 := ho2.below hb13
  replace hm8 := hm8.below hb13
  replace hm10 := hm10.below hb13
  replace ho12 := ho12.below hb13
  replace hT := Below.step hT hb13
  have hl13 := primV_len x0
  rw [ho13.len] at hl13
  go_wp2_with fail
  refine (eqIntS_self _ _ _ _ _ _ _ _ ho13.rd ho2.rd (by omega) (by omega)).mono ?_
  rintro e w14 ⟨rfl, hb14⟩
  have hsw14 := hb14.size
  replace ho2 := ho2.below hb14
  replace hm8 := hm8.below hb14
  replace hm10 := hm10.below hb14
  replace ho13 := ho13.below hb14
  replace hT := Below.step hT hb14
  go_wp2_with fail
  refine (ret_of_same (heldIntS_any _ _ _ _ _ hm10.rd (by omega) (by omega))).mono ?_
  rintro e w15 ⟨rfl, hb15⟩
  have hsw15 := hb15.size
  replace ho2 := ho2.below hb15
  replace hm8 := hm8.below hb15
  replace hm10 := hm10.below hb15
  replace ho13 := ho13.below hb15
  replace hT := Below.step hT hb15
  go_wp2_with fail
  go_ret
  exact ⟨rfl, hT⟩

end Go.Proofs.Ytglffgnnbgookaa
