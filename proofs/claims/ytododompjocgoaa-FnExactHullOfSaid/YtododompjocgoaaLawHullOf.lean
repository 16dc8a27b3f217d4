/- The law FnExactHullOf: the walk: for every input it returns true and writes nothing that was there. Conditions: none. -/
import Derived.Test.YtododompjocgoaaHullLen
namespace Go.Proofs.Ytododompjocgoaa
open Go.RowKit
set_option linter.unusedVariables false
set_option linter.unusedSimpArgs false
set_option maxRecDepth 100000

theorem lawHullOf_walk (q0 : Option Addr) (n0 c0 : Nat) (x0 : List (List Int)) (w : World) (fm0 : n0 ≤ 9223372036854775807) (fr0 : Intss w q0 n0 x0) :
    Calls Try.prog 4 #[.slice q0 n0 c0] w fun e w' => e = .returned (.bool true) ∧ Below w.heap.size w w' := by
  by_cases hfit0 : ((n0 + tot x0 : Nat) : Int) ≤ 1048576
  rotate_left
  · go_enter Try.func4, Try.ntmps4
    go_wp2_with fail
    refine (ret_of_same (szIntSS_any _ _ _ _ _ _ fm0 fr0 (by omega) (by omega))).mono ?_
    rw [leftOf_no (by omega)]
    rintro e w1 ⟨rfl, hb1⟩
    have hsw1 := hb1.size
    have hT := hb1
    go_wp2
    go_ret
    exact ⟨rfl, hT⟩
  go_enter Try.func4, Try.ntmps4
  go_wp2_with fail
  refine (ret_of_same (szIntSS_any _ _ _ _ _ _ fm0 fr0 (by omega) (by omega))).mono ?_
  rw [leftOf_yes (by omega)]
  rintro e w1 ⟨rfl, hb1⟩
  have hsw1 := hb1.size
  have hT := hb1
  go_wp2_with fail
  refine (toIntSS_any _ _ _ _ _ (fr0.below hT) (by omega) (by omega)).mono ?_
  rintro e w2 ⟨p2, c2, rfl, ho2, hb2⟩
  have hsw2 := hb2.size
  replace hT := Below.step hT hb2
  go_wp2_with fail
  refine (specHull_any _ _ _ _ _ (by omega) ho2.rd).mono ?_
  rintro e w3 ⟨p3, n3', c3, rfl, ho3, hb3⟩
  have hsw3 := hb3.size
  replace ho2 := ho2.below hb3
  replace hT := Below.step hT hb3
  obtain ⟨hl3, ht3⟩ := hullV_len x0
  rw [ho3.len] at hl3
  go_wp2_with fail
  refine (toIntSS_any _ _ _ _ _ (fr0.below hT) (by omega) (by omega)).mono ?_
  rintro e w4 ⟨p4, c4, rfl, ho4, hb4⟩
  have hsw4 := hb4.size
  replace ho3 := ho3.below hb4
  replace hT := Below.step hT hb4
  go_wp2_with fail
  refine (implHullOf_any _ _ _ _ _ (by omega) ho4.rd).mono ?_
  rintro e w5 ⟨p5, n5', c5, rfl, ho5, hb5⟩
  have hsw5 := hb5.size
  replace ho3 := ho3.below hb5
  replace ho4 := ho4.below hb5
  replace hT := Below.step hT hb5
  obtain ⟨hl5, ht5⟩ := hullV_len x0
  rw [ho5.len] at hl5
  go_wp2_with fail
  refine (eqIntSS_self _ _ _ _ _ _ _ _ ho5.rd ho3.rd (by omega) (by omega)).mono ?_
  rintro e w6 ⟨rfl, hb6⟩
  have hsw6 := hb6.size
  replace ho3 := ho3.below hb6
  replace ho4 := ho4.below hb6
  replace ho5 := ho5.below hb6
  replace hT := Below.step hT hb6
  go_wp2_with fail
  refine (toIntSS_any _ _ _ _ _ (fr0.below hT) (by omega) (by omega)).mono ?_
  rintro e w7 ⟨p7, c7, rfl, ho7, hb7⟩
  have hsw7 := hb7.size
  replace ho3 := ho3.below hb7
  replace ho4 := ho4.below hb7
  replace ho5 := ho5.below hb7
  replace hT := Below.step hT hb7
  go_wp2_with fail
  refine (eqIntSS_self _ _ _ _ _ _ _ _ ho4.rd ho7.rd (by omega) (by omega)).mono ?_
  rintro e w8 ⟨rfl, hb8⟩
  have hsw8 := hb8.size
  replace ho3 := ho3.below hb8
  replace ho4 := ho4.below hb8
  replace ho5 := ho5.below hb8
  replace ho7 := ho7.below hb8
  replace hT := Below.step hT hb8
  go_wp2_with fail
  refine (markIntSS_any _ _ _ _ _ _ _ _ ho4 (by omega) (by omega)).mono ?_
  rintro e w9 ⟨rfl, hm9, hb9⟩
  have hsw9 := hb9.size
  replace ho3 := ho3.within hb9 (by omega)
  replace ho5 := ho5.within hb9 (by omega)
  replace hT := Below.mark hT hb9 (by omega)
  clear ho4
  go_wp2_with fail
  refine (eqIntSS_self _ _ _ _ _ _ _ _ ho5.rd ho3.rd (by omega) (by omega)).mono ?_
  rintro e w10 ⟨rfl, hb10⟩
  have hsw10 := hb10.size
  replace ho3 := ho3.below hb10
  replace hm9 := hm9.below hb10
  replace ho5 := ho5.below hb10
  replace hT := Below.step hT hb10
  go_wp2_with fail
  refine (markIntSS_any _ _ _ _ _ _ _ _ ho5 (by omega) (by omega)).mono ?_
  rintro e w11 ⟨rfl, hm11, hb11⟩
  have hsw11 := hb11.size
  replace ho3 := ho3.within hb11 (by omega)
  replace hm9 := hm9.within hb11 (by omega)
  replace hT := Below.mark hT hb11 (by omega)
  clear ho5
  go_wp2_with fail
  refine (ret_of_same (heldIntSS_any _ _ _ _ _ _ hm11.rd (by omega) (by omega) (by omega))).mono ?_
  rintro e w12 ⟨rfl, hb12⟩
  have hsw12 := hb12.size
  replace ho3 := ho3.below hb12
  replace hm9 := hm9.below hb12
  replace hm11 := hm11.below hb12
  replace hT := Below.step hT hb12
  go_wp2_with fail
  refine (toIntSS_any _ _ _ _ _ (fr0.below hT) (by omega) (by omega)).mono ?_
  rintro e w13 ⟨p13, c13, rfl, ho13, hb13⟩
  have hsw13 := hb13.size
  replace ho3 := ho3.below hb13
  replace hm9 := hm9.below hb13
  replace hm11 := hm11.below hb13
  replace hT := Below.step hT hb13
  go_wp2_with fail
  refine (implHullOf_any _ _ _ _ _ (by omega) ho13.rd).mono ?_
  rintro e w14 ⟨p14, n14', c14, rfl, ho14, hb14⟩
  have hsw14 := hb14.size
  replace ho3 := ho3.below hb14
  replace hm9 := hm9.below hb14
  replace hm11 := hm11.below hb14
  replace ho13 := ho13.below hb14
  replace hT := Below.step hT hb14
  obtain ⟨hl14, ht14⟩ := hullV_len x0
  rw [ho14.len] at hl14
  go_wp2_with fail
  refine (eqIntSS_self _ _ _ _ _ _ _ _ ho14.rd ho3.rd (by omega) (by omega)).mono ?_
  rintro e w15 ⟨rfl, hb15⟩
  have hsw15 := hb15.size
  replace ho3 := ho3.below hb15
  replace hm9 := hm9.below hb15
  replace hm11 := hm11.below hb15
  replace ho14 := ho14.below hb15
  replace hT := Below.step hT hb15
  go_wp2_with fail
  refine (ret_of_same (heldIntSS_any _ _ _ _ _ _ hm11.rd (by omega) (by omega) (by omega))).mono ?_
  rintro e w16 ⟨rfl, hb16⟩
  have hsw16 := hb16.size
  replace ho3 := ho3.below hb16
  replace hm9 := hm9.below hb16
  replace hm11 := hm11.below hb16
  replace ho14 := ho14.below hb16
  replace hT := Below.step hT hb16
  go_wp2_with fail
  go_ret
  exact ⟨rfl, hT⟩

end Go.Proofs.Ytododompjocgoaa
