/- The law FnExactIsHalf: the walk: for every input it returns true and writes nothing that was there. Conditions: none. -/
import Derived.Test.YtglffgnnbgookaaRat2
namespace Go.Proofs.Ytglffgnnbgookaa
open Go.RowKit
set_option linter.unusedVariables false
set_option linter.unusedSimpArgs false

theorem lawIsHalf_walk (z0 : Int) (q1 : Option Addr) (n1 c1 : Nat) (x1 : List Int) (b1 : Int) (w : World) (flo0 : -9223372036854775808 ≤ z0) (fhi0 : z0 ≤ 9223372036854775807) (fm1 : n1 ≤ 9223372036854775807) (fr1 : Ints w q1 n1 x1) (flo1 : -9223372036854775808 ≤ b1) (fhi1 : b1 ≤ 9223372036854775807) :
    Calls Try.prog 11 #[.int .i64 z0, .agg #[.slice q1 n1 c1, .int .i64 b1]] w fun e w' => e = .returned (.bool true) ∧ Below w.heap.size w w' := by
  obtain ⟨k0, k1⟩ := box1c w (.slice q1 n1 c1) (.int .i64 b1) 40
  have hT := boxed w (.cells #[.slice q1 n1 c1, .int .i64 b1] 40)
  have hW0 : w.heap.size + 1 ≤ (w.alloc (.cells #[.slice q1 n1 c1, .int .i64 b1] 40)).heap.size := by simp
  by_cases hfit0 : (n1 : Int) ≤ 1048576
  rotate_left
  · go_enter Try.func11, Try.ntmps11
    go_wp2_with fail
    generalize (w.alloc (.cells #[.slice q1 n1 c1, .int .i64 b1] 40)) = W at *
    refine (szHalf_any _ _ _ _ _ _ fm1 (by omega) (by omega)).mono ?_
    rw [leftOf_no (by omega)]
    rintro e w1 ⟨rfl, hb1⟩
    have hsw1 := hb1.size
    replace k0 := Below.cells hb1 k0
    replace k1 := Below.cells hb1 k1
    replace hT := Below.step hT hb1
    go_wp2
    go_ret
    exact ⟨rfl, hT⟩
  go_enter Try.func11, Try.ntmps11
  go_wp2_with fail
  generalize (w.alloc (.cells #[.slice q1 n1 c1, .int .i64 b1] 40)) = W at *
  refine (szHalf_any _ _ _ _ _ _ fm1 (by omega) (by omega)).mono ?_
  rw [leftOf_yes (by omega)]
  rintro e w1 ⟨rfl, hb1⟩
  have hsw1 := hb1.size
  replace k0 := Below.cells hb1 k0
  replace k1 := Below.cells hb1 k1
  replace hT := Below.step hT hb1
  go_wp2_with fail
  refine (toHalf_any _ _ _ _ _ _ (fr1.below hT) (by omega)).mono ?_
  rintro e w2 ⟨p2, c2, rfl, ho2, hb2⟩
  have hsw2 := hb2.size
  replace k0 := Below.cells hb2 k0
  replace k1 := Below.cells hb2 k1
  replace hT := Below.step hT hb2
  go_wp2_with fail
  refine (specIsHalf_any _ _ _ _ _ _ _ (by omega) ho2.rd).mono ?_
  rintro e w3 ⟨rfl, hb3⟩
  have hsw3 := hb3.size
  replace ho2 := ho2.below hb3
  replace k0 := Below.cells hb3 k0
  replace k1 := Below.cells hb3 k1
  replace hT := Below.step hT hb3
  go_wp2_with fail
  refine (toHalf_any _ _ _ _ _ _ (fr1.below hT) (by omega)).mono ?_
  rintro e w4 ⟨p4, c4, rfl, ho4, hb4⟩
  have hsw4 := hb4.size
  replace k0 := Below.cells hb4 k0
  replace k1 := Below.cells hb4 k1
  replace hT := Below.step hT hb4
  obtain ⟨kx1a, kx1b⟩ := box1c w4 (.slice p4 n1 c4) (.int .i64 b1) 43
  have hbxx1 := boxed w4 (.cells #[.slice p4 n1 c4, .int .i64 b1] 43)
  have hsxx1 : w4.heap.size + 1 ≤ (w4.alloc (.cells #[.slice p4 n1 c4, .int .i64 b1] 43)).heap.size := by simp
  replace ho4 := ho4.below hbxx1
  replace k0 := Below.cells hbxx1 k0
  replace k1 := Below.cells hbxx1 k1
  replace hT := Below.step hT hbxx1
  go_wp2_with fail
  generalize w4.alloc (.cells #[.slice p4 n1 c4, .int .i64 b1] 43) = Wx1 at *
  refine (implIsHalf_any _ _ _ _ _ _ _ (by omega) ho4.rd).mono ?_
  rintro e w5 ⟨rfl, hb5⟩
  have hsw5 := hb5.size
  replace ho4 := ho4.below hb5
  replace k0 := Below.cells hb5 k0
  replace k1 := Below.cells hb5 k1
  replace kx1a := Below.cells hb5 kx1a
  replace kx1b := Below.cells hb5 kx1b
  replace hT := Below.step hT hb5
  go_wp2_with fail
  have hbd5 := drewBelow w5
  replace ho4 := ho4.below hbd5
  replace k0 := Below.cells hbd5 k0
  replace k1 := Below.cells hbd5 k1
  replace kx1a := Below.cells hbd5 kx1a
  replace kx1b := Below.cells hbd5 kx1b
  replace hT := Below.step hT hbd5
  go_region_held3 (fun w' => w'.cell? ⟨w.heap.size, 0, none⟩ = some (.slice q1 n1 c1) ∧ w'.cell? ⟨w.heap.size, 1, none⟩ = some (.int .i64 b1) ∧ w'.cell? ⟨w4.heap.size, 0, none⟩ = some (.slice p4 n1 c4) ∧ w'.cell? ⟨w4.heap.size, 1, none⟩ = some (.int .i64 b1)) (exact ⟨k0, k1, kx1a, kx1b⟩) (first | (go_at_call 38; (with_reducible refine (toHalf_any _ _ _ _ _ _ (fr1.below hT) (by omega)).mono ?_); rintro e w6 ⟨p6, c6, rfl, ho6, hb6⟩; have hsw6 := hb6.size; replace ho4 := ho4.below hb6; replace k0 := Below.cells hb6 k0; replace k1 := Below.cells hb6 k1; replace kx1a := Below.cells hb6 kx1a; replace kx1b := Below.cells hb6 kx1b; replace hT := Below.step hT hb6) | (go_at_call 40; (with_reducible refine (eqHalf_self _ _ _ _ _ _ _ _ _ ho4.rd ho6.rd (by omega) (by omega)).mono ?_); rintro e w7 ⟨rfl, hb7⟩; have hsw7 := hb7.size; replace ho4 := ho4.below hb7; replace ho6 := ho6.below hb7; replace k0 := Below.cells hb7 k0; replace k1 := Below.cells hb7 k1; replace kx1a := Below.cells hb7 kx1a; replace kx1b := Below.cells hb7 kx1b; replace hT := Below.step hT hb7))
  go_wp2_with fail
  go_ret
  exact ⟨rfl, hT⟩

end Go.Proofs.Ytglffgnnbgookaa
