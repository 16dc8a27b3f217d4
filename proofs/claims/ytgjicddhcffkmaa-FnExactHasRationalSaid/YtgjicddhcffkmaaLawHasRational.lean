/- The law FnExactHasRational: the walk: for every input it returns true and writes nothing that was there. Conditions: none. -/
import Derived.Test.YtgjicddhcffkmaaRatReg2
namespace Go.Proofs.Ytgjicddhcffkmaa
open Go.RowKit
set_option linter.unusedVariables false
set_option linter.unusedSimpArgs false

theorem lawHasRational_walk (z0 : Int) (q0 : Option Addr) (n0 c0 : Nat) (x0 : List Pr) (q1 : Option Addr) (n1 c1 : Nat) (x1 : List Int) (b1 : Int) (w : World) (fm0 : n0 ≤ 9223372036854775807) (fr0 : Prs w q0 n0 x0) (flo0 : -9223372036854775808 ≤ z0) (fhi0 : z0 ≤ 9223372036854775807) (fm1 : n1 ≤ 9223372036854775807) (fr1 : Ints w q1 n1 x1) (flo1 : -9223372036854775808 ≤ b1) (fhi1 : b1 ≤ 9223372036854775807) :
    Calls Try.prog 4 #[.agg #[.int .i64 z0, .slice q0 n0 c0], .agg #[.slice q1 n1 c1, .int .i64 b1]] w fun e w' => e = .returned (.bool true) ∧ Below w.heap.size w w' := by
  obtain ⟨k0, k1, k2, k3⟩ := box2c w (.int .i64 z0) (.slice q0 n0 c0) (.slice q1 n1 c1) (.int .i64 b1) 24 34
  have hT := boxed2 w (.cells #[.int .i64 z0, .slice q0 n0 c0] 24) (.cells #[.slice q1 n1 c1, .int .i64 b1] 34)
  have hW0 : w.heap.size + 2 ≤ ((w.alloc (.cells #[.int .i64 z0, .slice q0 n0 c0] 24)).alloc (.cells #[.slice q1 n1 c1, .int .i64 b1] 34)).heap.size := by simp
  by_cases hfit0 : ((n0 + totH x0 : Nat) : Int) ≤ 1048576
  rotate_left
  · go_enter Try.func4, Try.ntmps4
    go_wp2_with fail
    generalize ((w.alloc (.cells #[.int .i64 z0, .slice q0 n0 c0] 24)).alloc (.cells #[.slice q1 n1 c1, .int .i64 b1] 34)) = W at *
    refine (szRegion_any _ _ _ _ _ _ _ fm0 (fr0.below hT) (by omega) (by omega)).mono ?_
    rw [leftOf_no (by omega)]
    rintro e w1 ⟨rfl, hb1⟩
    have hsw1 := hb1.size
    replace k0 := Below.cells hb1 k0
    replace k1 := Below.cells hb1 k1
    replace k2 := Below.cells hb1 k2
    replace k3 := Below.cells hb1 k3
    replace hT := Below.step hT hb1
    go_wp2
    go_ret
    exact ⟨rfl, hT⟩
  by_cases hfit1 : ((n0 + totH x0 : Nat) : Int) + (n1 : Int) ≤ 1048576
  rotate_left
  · go_enter Try.func4, Try.ntmps4
    go_wp2_with fail
    generalize ((w.alloc (.cells #[.int .i64 z0, .slice q0 n0 c0] 24)).alloc (.cells #[.slice q1 n1 c1, .int .i64 b1] 34)) = W at *
    refine (szRegion_any _ _ _ _ _ _ _ fm0 (fr0.below hT) (by omega) (by omega)).mono ?_
    rw [leftOf_yes (by omega)]
    rintro e w1 ⟨rfl, hb1⟩
    have hsw1 := hb1.size
    replace k0 := Below.cells hb1 k0
    replace k1 := Below.cells hb1 k1
    replace k2 := Below.cells hb1 k2
    replace k3 := Below.cells hb1 k3
    replace hT := Below.step hT hb1
    go_wp2_with fail
    refine (szRational_any _ _ _ _ _ _ fm1 (by omega) (by omega)).mono ?_
    rw [leftOf_no (by omega)]
    rintro e w2 ⟨rfl, hb2⟩
    have hsw2 := hb2.size
    replace k0 := Below.cells hb2 k0
    replace k1 := Below.cells hb2 k1
    replace k2 := Below.cells hb2 k2
    replace k3 := Below.cells hb2 k3
    replace hT := Below.step hT hb2
    go_wp2
    go_ret
    exact ⟨rfl, hT⟩
  go_enter Try.func4, Try.ntmps4
  go_wp2_with fail
  generalize ((w.alloc (.cells #[.int .i64 z0, .slice q0 n0 c0] 24)).alloc (.cells #[.slice q1 n1 c1, .int .i64 b1] 34)) = W at *
  refine (szRegion_any _ _ _ _ _ _ _ fm0 (fr0.below hT) (by omega) (by omega)).mono ?_
  rw [leftOf_yes (by omega)]
  rintro e w1 ⟨rfl, hb1⟩
  have hsw1 := hb1.size
  replace k0 := Below.cells hb1 k0
  replace k1 := Below.cells hb1 k1
  replace k2 := Below.cells hb1 k2
  replace k3 := Below.cells hb1 k3
  replace hT := Below.step hT hb1
  go_wp2_with fail
  refine (szRational_any _ _ _ _ _ _ fm1 (by omega) (by omega)).mono ?_
  rw [leftOf_yes (by omega)]
  rintro e w2 ⟨rfl, hb2⟩
  have hsw2 := hb2.size
  replace k0 := Below.cells hb2 k0
  replace k1 := Below.cells hb2 k1
  replace k2 := Below.cells hb2 k2
  replace k3 := Below.cells hb2 k3
  replace hT := Below.step hT hb2
  go_wp2_with fail
  have hbd2 := drewBelow w2
  have hsd2 := hbd2.size
  replace k0 := Below.cells hbd2 k0
  replace k1 := Below.cells hbd2 k1
  replace k2 := Below.cells hbd2 k2
  replace k3 := Below.cells hbd2 k3
  replace hT := Below.step hT hbd2
  go_region_held3 (fun w' => w'.cell? ⟨w.heap.size, 0, none⟩ = some (.int .i64 z0) ∧ w'.cell? ⟨w.heap.size, 1, none⟩ = some (.slice q0 n0 c0) ∧ w'.cell? ⟨w.heap.size + 1, 0, none⟩ = some (.slice q1 n1 c1) ∧ w'.cell? ⟨w.heap.size + 1, 1, none⟩ = some (.int .i64 b1)) (exact ⟨k0, k1, k2, k3⟩) (first | (go_at_call 13; (with_reducible refine (toRegion_any _ _ _ _ _ _ (fr0.below hT) (by omega) (by omega)).mono ?_); rintro e w3 ⟨p3, c3, rfl, ho3, hb3⟩; have hsw3 := hb3.size; replace k0 := Below.cells hb3 k0; replace k1 := Below.cells hb3 k1; replace k2 := Below.cells hb3 k2; replace k3 := Below.cells hb3 k3; replace hT := Below.step hT hb3) | (go_at_call 18; (with_reducible refine (toRational_any _ _ _ _ _ _ (fr1.below hT) (by omega)).mono ?_); rintro e w4 ⟨p4, c4, rfl, ho4, hb4⟩; have hsw4 := hb4.size; replace ho3 := ho3.below hb4; replace k0 := Below.cells hb4 k0; replace k1 := Below.cells hb4 k1; replace k2 := Below.cells hb4 k2; replace k3 := Below.cells hb4 k3; replace hT := Below.step hT hb4) | (go_at_call 17; (with_reducible refine (specHasRat_any _ _ _ _ _ _ _ _ _ _ _ (by omega) (by omega) ho3.rd ho4.rd).mono ?_); rintro e w5 ⟨rfl, hb5⟩; have hsw5 := hb5.size; replace ho3 := ho3.below hb5; replace ho4 := ho4.below hb5; replace k0 := Below.cells hb5 k0; replace k1 := Below.cells hb5 k1; replace k2 := Below.cells hb5 k2; replace k3 := Below.cells hb5 k3; replace hT := Below.step hT hb5))
  go_wp2_with fail
  refine (toRegion_any _ _ _ _ _ _ (fr0.below hT) (by omega) (by omega)).mono ?_
  rintro e w6 ⟨p6, c6, rfl, ho6, hb6⟩
  have hsw6 := hb6.size
  replace k0 := Below.cells hb6 k0
  replace k1 := Below.cells hb6 k1
  replace k2 := Below.cells hb6 k2
  replace k3 := Below.cells hb6 k3
  replace hT := Below.step hT hb6
  obtain ⟨kx0a, kx0b⟩ := box1c w6 (.int .i64 z0) (.slice p6 n0 c6) 29
  have hbxx0 := boxed w6 (.cells #[.int .i64 z0, .slice p6 n0 c6] 29)
  have hsxx0 : w6.heap.size + 1 ≤ (w6.alloc (.cells #[.int .i64 z0, .slice p6 n0 c6] 29)).heap.size := by simp
  replace ho6 := ho6.below hbxx0
  replace k0 := Below.cells hbxx0 k0
  replace k1 := Below.cells hbxx0 k1
  replace k2 := Below.cells hbxx0 k2
  replace k3 := Below.cells hbxx0 k3
  replace hT := Below.step hT hbxx0
  go_wp2_with fail
  generalize w6.alloc (.cells #[.int .i64 z0, .slice p6 n0 c6] 29) = Wx0 at *
  refine (toRational_any _ _ _ _ _ _ (fr1.below hT) (by omega)).mono ?_
  rintro e w7 ⟨p7, c7, rfl, ho7, hb7⟩
  have hsw7 := hb7.size
  replace ho6 := ho6.below hb7
  replace k0 := Below.cells hb7 k0
  replace k1 := Below.cells hb7 k1
  replace k2 := Below.cells hb7 k2
  replace k3 := Below.cells hb7 k3
  replace kx0a := Below.cells hb7 kx0a
  replace kx0b := Below.cells hb7 kx0b
  replace hT := Below.step hT hb7
  obtain ⟨kx1a, kx1b⟩ := box1c w7 (.slice p7 n1 c7) (.int .i64 b1) 37
  have hbxx1 := boxed w7 (.cells #[.slice p7 n1 c7, .int .i64 b1] 37)
  have hsxx1 : w7.heap.size + 1 ≤ (w7.alloc (.cells #[.slice p7 n1 c7, .int .i64 b1] 37)).heap.size := by simp
  replace ho6 := ho6.below hbxx1
  replace ho7 := ho7.below hbxx1
  replace k0 := Below.cells hbxx1 k0
  replace k1 := Below.cells hbxx1 k1
  replace k2 := Below.cells hbxx1 k2
  replace k3 := Below.cells hbxx1 k3
  replace kx0a := Below.cells hbxx1 kx0a
  replace kx0b := Below.cells hbxx1 kx0b
  replace hT := Below.step hT hbxx1
  go_wp2_with fail
  generalize w7.alloc (.cells #[.slice p7 n1 c7, .int .i64 b1] 37) = Wx1 at *
  refine (implHasRat_any _ _ _ _ _ _ _ _ _ _ _ (by omega) (by omega) ho6.rd ho7.rd).mono ?_
  rintro e w8 ⟨rfl, hb8⟩
  have hsw8 := hb8.size
  replace ho6 := ho6.below hb8
  replace ho7 := ho7.below hb8
  replace k0 := Below.cells hb8 k0
  replace k1 := Below.cells hb8 k1
  replace k2 := Below.cells hb8 k2
  replace k3 := Below.cells hb8 k3
  replace kx0a := Below.cells hb8 kx0a
  replace kx0b := Below.cells hb8 kx0b
  replace kx1a := Below.cells hb8 kx1a
  replace kx1b := Below.cells hb8 kx1b
  replace hT := Below.step hT hb8
  go_wp2_with fail
  have hbd8 := drewBelow w8
  have hsd8 := hbd8.size
  replace ho6 := ho6.below hbd8
  replace ho7 := ho7.below hbd8
  replace k0 := Below.cells hbd8 k0
  replace k1 := Below.cells hbd8 k1
  replace k2 := Below.cells hbd8 k2
  replace k3 := Below.cells hbd8 k3
  replace kx0a := Below.cells hbd8 kx0a
  replace kx0b := Below.cells hbd8 kx0b
  replace kx1a := Below.cells hbd8 kx1a
  replace kx1b := Below.cells hbd8 kx1b
  replace hT := Below.step hT hbd8
  go_region_held3 (fun w' => w'.cell? ⟨w.heap.size, 0, none⟩ = some (.int .i64 z0) ∧ w'.cell? ⟨w.heap.size, 1, none⟩ = some (.slice q0 n0 c0) ∧ w'.cell? ⟨w.heap.size + 1, 0, none⟩ = some (.slice q1 n1 c1) ∧ w'.cell? ⟨w.heap.size + 1, 1, none⟩ = some (.int .i64 b1) ∧ w'.cell? ⟨w6.heap.size, 0, none⟩ = some (.int .i64 z0) ∧ w'.cell? ⟨w6.heap.size, 1, none⟩ = some (.slice p6 n0 c6) ∧ w'.cell? ⟨w7.heap.size, 0, none⟩ = some (.slice p7 n1 c7) ∧ w'.cell? ⟨w7.heap.size, 1, none⟩ = some (.int .i64 b1)) (exact ⟨k0, k1, k2, k3, kx0a, kx0b, kx1a, kx1b⟩) (first | (go_at_call 13; (with_reducible refine (toRegion_any _ _ _ _ _ _ (fr0.below hT) (by omega) (by omega)).mono ?_); rintro e w9 ⟨p9, c9, rfl, ho9, hb9⟩; have hsw9 := hb9.size; replace ho6 := ho6.below hb9; replace ho7 := ho7.below hb9; replace k0 := Below.cells hb9 k0; replace k1 := Below.cells hb9 k1; replace k2 := Below.cells hb9 k2; replace k3 := Below.cells hb9 k3; replace kx0a := Below.cells hb9 kx0a; replace kx0b := Below.cells hb9 kx0b; replace kx1a := Below.cells hb9 kx1a; replace kx1b := Below.cells hb9 kx1b; replace hT := Below.step hT hb9) | (go_at_call 15; (with_reducible refine (eqRegion_self _ _ _ _ _ _ _ _ _ ho6.rd ho9.rd (by omega) (by omega)).mono ?_); rintro e w10 ⟨rfl, hb10⟩; have hsw10 := hb10.size; replace ho6 := ho6.below hb10; replace ho7 := ho7.below hb10; replace ho9 := ho9.below hb10; replace k0 := Below.cells hb10 k0; replace k1 := Below.cells hb10 k1; replace k2 := Below.cells hb10 k2; replace k3 := Below.cells hb10 k3; replace kx0a := Below.cells hb10 kx0a; replace kx0b := Below.cells hb10 kx0b; replace kx1a := Below.cells hb10 kx1a; replace kx1b := Below.cells hb10 kx1b; replace hT := Below.step hT hb10))
  go_wp2_with fail
  have hbd10 := drewBelow w10
  have hsd10 := hbd10.size
  replace ho6 := ho6.below hbd10
  replace ho7 := ho7.below hbd10
  replace k0 := Below.cells hbd10 k0
  replace k1 := Below.cells hbd10 k1
  replace k2 := Below.cells hbd10 k2
  replace k3 := Below.cells hbd10 k3
  replace kx0a := Below.cells hbd10 kx0a
  replace kx0b := Below.cells hbd10 kx0b
  replace kx1a := Below.cells hbd10 kx1a
  replace kx1b := Below.cells hbd10 kx1b
  replace hT := Below.step hT hbd10
  go_region_held3 (fun w' => w'.cell? ⟨w.heap.size, 0, none⟩ = some (.int .i64 z0) ∧ w'.cell? ⟨w.heap.size, 1, none⟩ = some (.slice q0 n0 c0) ∧ w'.cell? ⟨w.heap.size + 1, 0, none⟩ = some (.slice q1 n1 c1) ∧ w'.cell? ⟨w.heap.size + 1, 1, none⟩ = some (.int .i64 b1) ∧ w'.cell? ⟨w6.heap.size, 0, none⟩ = some (.int .i64 z0) ∧ w'.cell? ⟨w6.heap.size, 1, none⟩ = some (.slice p6 n0 c6) ∧ w'.cell? ⟨w7.heap.size, 0, none⟩ = some (.slice p7 n1 c7) ∧ w'.cell? ⟨w7.heap.size, 1, none⟩ = some (.int .i64 b1)) (exact ⟨k0, k1, k2, k3, kx0a, kx0b, kx1a, kx1b⟩) (first | (go_at_call 18; (with_reducible refine (toRational_any _ _ _ _ _ _ (fr1.below hT) (by omega)).mono ?_); rintro e w11 ⟨p11, c11, rfl, ho11, hb11⟩; have hsw11 := hb11.size; replace ho6 := ho6.below hb11; replace ho7 := ho7.below hb11; replace k0 := Below.cells hb11 k0; replace k1 := Below.cells hb11 k1; replace k2 := Below.cells hb11 k2; replace k3 := Below.cells hb11 k3; replace kx0a := Below.cells hb11 kx0a; replace kx0b := Below.cells hb11 kx0b; replace kx1a := Below.cells hb11 kx1a; replace kx1b := Below.cells hb11 kx1b; replace hT := Below.step hT hb11) | (go_at_call 20; (with_reducible refine (eqRational_self _ _ _ _ _ _ _ _ _ ho7.rd ho11.rd (by omega) (by omega)).mono ?_); rintro e w12 ⟨rfl, hb12⟩; have hsw12 := hb12.size; replace ho6 := ho6.below hb12; replace ho7 := ho7.below hb12; replace ho11 := ho11.below hb12; replace k0 := Below.cells hb12 k0; replace k1 := Below.cells hb12 k1; replace k2 := Below.cells hb12 k2; replace k3 := Below.cells hb12 k3; replace kx0a := Below.cells hb12 kx0a; replace kx0b := Below.cells hb12 kx0b; replace kx1a := Below.cells hb12 kx1a; replace kx1b := Below.cells hb12 kx1b; replace hT := Below.step hT hb12))
  go_wp2_with fail
  go_ret
  exact ⟨rfl, hT⟩

end Go.Proofs.Ytgjicddhcffkmaa
