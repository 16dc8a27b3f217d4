/- The law FnExactHasPoint: the walk: for every input it returns true and writes nothing that was there. Conditions: none. -/
import Derived.Test.YtcmphlkkbgpijaaReg3
namespace Go.Proofs.Ytcmphlkkbgpijaa
open Go.RowKit
set_option linter.unusedVariables false
set_option linter.unusedSimpArgs false

theorem lawHasPoint_walk (z0 : Int) (q0 : Option Addr) (n0 c0 : Nat) (x0 : List Pr) (q1 : Option Addr) (n1 c1 : Nat) (x1 : List Int) (w : World) (fm0 : n0 ≤ 9223372036854775807) (fr0 : Prs w q0 n0 x0) (flo0 : -9223372036854775808 ≤ z0) (fhi0 : z0 ≤ 9223372036854775807) (fm1 : n1 ≤ 9223372036854775807) (fr1 : Ints w q1 n1 x1) :
    Calls Try.prog 9 #[.agg #[.int .i64 z0, .slice q0 n0 c0], .slice q1 n1 c1] w fun e w' => e = .returned (.bool true) ∧ Below w.heap.size w w' := by
  obtain ⟨k0, k1⟩ := box1c w (.int .i64 z0) (.slice q0 n0 c0) 37
  have hT := boxed w (.cells #[.int .i64 z0, .slice q0 n0 c0] 37)
  have hW0 : w.heap.size + 1 ≤ (w.alloc (.cells #[.int .i64 z0, .slice q0 n0 c0] 37)).heap.size := by simp
  by_cases hbig1 : 1048576 < n1
  · go_enter Try.func9, Try.ntmps9
    go_wp2
    go_ret
    exact ⟨rfl, hT⟩
  by_cases hfit0 : ((n0 + totH x0 : Nat) : Int) ≤ 1048576
  rotate_left
  · go_enter Try.func9, Try.ntmps9
    go_wp2_with fail
    generalize (w.alloc (.cells #[.int .i64 z0, .slice q0 n0 c0] 37)) = W at *
    refine (szRegion_any _ _ _ _ _ _ _ fm0 (fr0.below hT) (by omega) (by omega)).mono ?_
    rw [leftOf_no (by omega)]
    rintro e w1 ⟨rfl, hb1⟩
    have hsw1 := hb1.size
    replace k0 := Below.cells hb1 k0
    replace k1 := Below.cells hb1 k1
    replace hT := Below.step hT hb1
    go_wp2
    go_ret
    exact ⟨rfl, hT⟩
  go_enter Try.func9, Try.ntmps9
  go_wp2_with fail
  generalize (w.alloc (.cells #[.int .i64 z0, .slice q0 n0 c0] 37)) = W at *
  refine (szRegion_any _ _ _ _ _ _ _ fm0 (fr0.below hT) (by omega) (by omega)).mono ?_
  rw [leftOf_yes (by omega)]
  rintro e w1 ⟨rfl, hb1⟩
  have hsw1 := hb1.size
  replace k0 := Below.cells hb1 k0
  replace k1 := Below.cells hb1 k1
  replace hT := Below.step hT hb1
  go_wp2_with fail
  refine (toRegion_any _ _ _ _ _ _ (fr0.below hT) (by omega) (by omega)).mono ?_
  rintro e w2 ⟨p2, c2, rfl, ho2, hb2⟩
  have hsw2 := hb2.size
  replace k0 := Below.cells hb2 k0
  replace k1 := Below.cells hb2 k1
  replace hT := Below.step hT hb2
  go_wp2_with fail
  refine (toIntS_any _ _ _ _ _ (fr1.below hT) (by omega)).mono ?_
  rintro e w3 ⟨p3, c3, rfl, ho3, hb3⟩
  have hsw3 := hb3.size
  replace ho2 := ho2.below hb3
  replace k0 := Below.cells hb3 k0
  replace k1 := Below.cells hb3 k1
  replace hT := Below.step hT hb3
  go_wp2_with fail
  refine (specHas_any _ _ _ _ _ _ _ _ _ _ (by omega) (by omega) ho2.rd ho3.rd).mono ?_
  rintro e w4 ⟨rfl, hb4⟩
  have hsw4 := hb4.size
  replace ho2 := ho2.below hb4
  replace ho3 := ho3.below hb4
  replace k0 := Below.cells hb4 k0
  replace k1 := Below.cells hb4 k1
  replace hT := Below.step hT hb4
  go_wp2_with fail
  refine (toRegion_any _ _ _ _ _ _ (fr0.below hT) (by omega) (by omega)).mono ?_
  rintro e w5 ⟨p5, c5, rfl, ho5, hb5⟩
  have hsw5 := hb5.size
  replace k0 := Below.cells hb5 k0
  replace k1 := Below.cells hb5 k1
  replace hT := Below.step hT hb5
  obtain ⟨kx0a, kx0b⟩ := box1c w5 (.int .i64 z0) (.slice p5 n0 c5) 42
  have hbxx0 := boxed w5 (.cells #[.int .i64 z0, .slice p5 n0 c5] 42)
  have hsxx0 : w5.heap.size + 1 ≤ (w5.alloc (.cells #[.int .i64 z0, .slice p5 n0 c5] 42)).heap.size := by simp
  replace ho5 := ho5.below hbxx0
  replace k0 := Below.cells hbxx0 k0
  replace k1 := Below.cells hbxx0 k1
  replace hT := Below.step hT hbxx0
  go_wp2_with fail
  generalize w5.alloc (.cells #[.int .i64 z0, .slice p5 n0 c5] 42) = Wx0 at *
  refine (toIntS_any _ _ _ _ _ (fr1.below hT) (by omega)).mono ?_
  rintro e w6 ⟨p6, c6, rfl, ho6, hb6⟩
  have hsw6 := hb6.size
  replace ho5 := ho5.below hb6
  replace k0 := Below.cells hb6 k0
  replace k1 := Below.cells hb6 k1
  replace kx0a := Below.cells hb6 kx0a
  replace kx0b := Below.cells hb6 kx0b
  replace hT := Below.step hT hb6
  go_wp2_with fail
  refine (implHas_any _ _ _ _ _ _ _ _ _ _ (by omega) (by omega) ho5.rd ho6.rd).mono ?_
  rintro e w7 ⟨rfl, hb7⟩
  have hsw7 := hb7.size
  replace ho5 := ho5.below hb7
  replace ho6 := ho6.below hb7
  replace k0 := Below.cells hb7 k0
  replace k1 := Below.cells hb7 k1
  replace kx0a := Below.cells hb7 kx0a
  replace kx0b := Below.cells hb7 kx0b
  replace hT := Below.step hT hb7
  go_wp2_with fail
  have hbd7 := drewBelow w7
  replace ho5 := ho5.below hbd7
  replace ho6 := ho6.below hbd7
  replace k0 := Below.cells hbd7 k0
  replace k1 := Below.cells hbd7 k1
  replace kx0a := Below.cells hbd7 kx0a
  replace kx0b := Below.cells hbd7 kx0b
  replace hT := Below.step hT hbd7
  go_region_held3 (fun w' => w'.cell? ⟨w.heap.size, 0, none⟩ = some (.int .i64 z0) ∧ w'.cell? ⟨w.heap.size, 1, none⟩ = some (.slice q0 n0 c0) ∧ w'.cell? ⟨w5.heap.size, 0, none⟩ = some (.int .i64 z0) ∧ w'.cell? ⟨w5.heap.size, 1, none⟩ = some (.slice p5 n0 c5)) (exact ⟨k0, k1, kx0a, kx0b⟩) (first | (go_at_call 33; (with_reducible refine (toRegion_any _ _ _ _ _ _ (fr0.below hT) (by omega) (by omega)).mono ?_); rintro e w8 ⟨p8, c8, rfl, ho8, hb8⟩; have hsw8 := hb8.size; replace ho5 := ho5.below hb8; replace ho6 := ho6.below hb8; replace k0 := Below.cells hb8 k0; replace k1 := Below.cells hb8 k1; replace kx0a := Below.cells hb8 kx0a; replace kx0b := Below.cells hb8 kx0b; replace hT := Below.step hT hb8) | (go_at_call 35; (with_reducible refine (eqRegion_self _ _ _ _ _ _ _ _ _ ho5.rd ho8.rd (by omega) (by omega)).mono ?_); rintro e w9 ⟨rfl, hb9⟩; have hsw9 := hb9.size; replace ho5 := ho5.below hb9; replace ho6 := ho6.below hb9; replace ho8 := ho8.below hb9; replace k0 := Below.cells hb9 k0; replace k1 := Below.cells hb9 k1; replace kx0a := Below.cells hb9 kx0a; replace kx0b := Below.cells hb9 kx0b; replace hT := Below.step hT hb9))
  go_wp2_with fail
  refine (toIntS_any _ _ _ _ _ (fr1.below hT) (by omega)).mono ?_
  rintro e w10 ⟨p10, c10, rfl, ho10, hb10⟩
  have hsw10 := hb10.size
  replace ho5 := ho5.below hb10
  replace ho6 := ho6.below hb10
  replace k0 := Below.cells hb10 k0
  replace k1 := Below.cells hb10 k1
  replace kx0a := Below.cells hb10 kx0a
  replace kx0b := Below.cells hb10 kx0b
  replace hT := Below.step hT hb10
  go_wp2_with fail
  refine (eqIntS_self _ _ _ _ _ _ _ _ ho6.rd ho10.rd (by omega) (by omega)).mono ?_
  rintro e w11 ⟨rfl, hb11⟩
  have hsw11 := hb11.size
  replace ho5 := ho5.below hb11
  replace ho6 := ho6.below hb11
  replace ho10 := ho10.below hb11
  replace k0 := Below.cells hb11 k0
  replace k1 := Below.cells hb11 k1
  replace kx0a := Below.cells hb11 kx0a
  replace kx0b := Below.cells hb11 kx0b
  replace hT := Below.step hT hb11
  go_wp2_with fail
  go_ret
  exact ⟨rfl, hT⟩

end Go.Proofs.Ytcmphlkkbgpijaa
