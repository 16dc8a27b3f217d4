/- The law FnExactBeforeVector: the walk: for every input it returns true and writes nothing that was there. Conditions: none. -/
import Derived.Test.YtglffgnnbgookaaLawKit
namespace Go.Proofs.Ytglffgnnbgookaa
open Go.RowKit
set_option linter.unusedVariables false
set_option linter.unusedSimpArgs false

theorem lawBeforeVector_walk (q0 : Option Addr) (n0 c0 : Nat) (x0 : List Int) (q1 : Option Addr) (n1 c1 : Nat) (x1 : List Int) (w : World) (fm0 : n0 ≤ 9223372036854775807) (fr0 : Ints w q0 n0 x0) (fm1 : n1 ≤ 9223372036854775807) (fr1 : Ints w q1 n1 x1) :
    Calls Try.prog 9 #[.slice q0 n0 c0, .slice q1 n1 c1] w fun e w' => e = .returned (.bool true) ∧ Below w.heap.size w w' := by
  by_cases hbig0 : 1048576 < n0
  · go_enter Try.func9, Try.ntmps9
    go_wp2
    go_ret
    exact ⟨rfl, Below.refl _ _⟩
  by_cases hbig1 : 1048576 < n1
  · go_enter Try.func9, Try.ntmps9
    go_wp2
    go_ret
    exact ⟨rfl, Below.refl _ _⟩
  go_enter Try.func9, Try.ntmps9
  go_wp2_with fail
  refine (toIntS_any _ _ _ _ _ fr0 (by omega)).mono ?_
  rintro e w1 ⟨p1, c1, rfl, ho1, hb1⟩
  have hsw1 := hb1.size
  have hT := hb1
  go_wp2_with fail
  refine (toIntS_any _ _ _ _ _ (fr1.below hT) (by omega)).mono ?_
  rintro e w2 ⟨p2, c2, rfl, ho2, hb2⟩
  have hsw2 := hb2.size
  replace ho1 := ho1.below hb2
  replace hT := Below.step hT hb2
  go_wp2_with fail
  refine (ret_of_drew (specBefore_any _ _ _ _ _ _ _ _ _ (by omega) (by omega) ho1.rd ho2.rd)).mono ?_
  rintro e w3 ⟨rfl, hb3⟩
  have hsw3 := hb3.size
  replace ho1 := ho1.below hb3
  replace ho2 := ho2.below hb3
  replace hT := Below.step hT hb3
  go_wp2_with fail
  refine (toIntS_any _ _ _ _ _ (fr0.below hT) (by omega)).mono ?_
  rintro e w4 ⟨p4, c4, rfl, ho4, hb4⟩
  have hsw4 := hb4.size
  replace hT := Below.step hT hb4
  go_wp2_with fail
  refine (toIntS_any _ _ _ _ _ (fr1.below hT) (by omega)).mono ?_
  rintro e w5 ⟨p5, c5, rfl, ho5, hb5⟩
  have hsw5 := hb5.size
  replace ho4 := ho4.below hb5
  replace hT := Below.step hT hb5
  go_wp2_with fail
  refine (ret_of_same (implBefore_any _ _ _ _ _ _ _ _ _ (by omega) (by omega) ho4.rd ho5.rd)).mono ?_
  rintro e w6 ⟨rfl, hb6⟩
  have hsw6 := hb6.size
  replace ho4 := ho4.below hb6
  replace ho5 := ho5.below hb6
  replace hT := Below.step hT hb6
  go_wp2_with fail
  refine (toIntS_any _ _ _ _ _ (fr0.below hT) (by omega)).mono ?_
  rintro e w7 ⟨p7, c7, rfl, ho7, hb7⟩
  have hsw7 := hb7.size
  replace ho4 := ho4.below hb7
  replace ho5 := ho5.below hb7
  replace hT := Below.step hT hb7
  go_wp2_with fail
  refine (eqIntS_self _ _ _ _ _ _ _ _ ho4.rd ho7.rd (by omega) (by omega)).mono ?_
  rintro e w8 ⟨rfl, hb8⟩
  have hsw8 := hb8.size
  replace ho4 := ho4.below hb8
  replace ho5 := ho5.below hb8
  replace ho7 := ho7.below hb8
  replace hT := Below.step hT hb8
  go_wp2_with fail
  refine (toIntS_any _ _ _ _ _ (fr1.below hT) (by omega)).mono ?_
  rintro e w9 ⟨p9, c9, rfl, ho9, hb9⟩
  have hsw9 := hb9.size
  replace ho4 := ho4.below hb9
  replace ho5 := ho5.below hb9
  replace hT := Below.step hT hb9
  go_wp2_with fail
  refine (eqIntS_self _ _ _ _ _ _ _ _ ho5.rd ho9.rd (by omega) (by omega)).mono ?_
  rintro e w10 ⟨rfl, hb10⟩
  have hsw10 := hb10.size
  replace ho4 := ho4.below hb10
  replace ho5 := ho5.below hb10
  replace ho9 := ho9.below hb10
  replace hT := Below.step hT hb10
  go_wp2_with fail
  go_ret
  exact ⟨rfl, hT⟩

end Go.Proofs.Ytglffgnnbgookaa
