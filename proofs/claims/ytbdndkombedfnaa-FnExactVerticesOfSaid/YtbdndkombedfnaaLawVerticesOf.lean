/- The law FnExactVerticesOf: the walk: for every input it returns true and writes nothing that was there. Conditions: none. -/
import Derived.Test.YtbdndkombedfnaaVtxMC
import Derived.Test.YtbdndkombedfnaaRegKit2
namespace Go.Proofs.Ytbdndkombedfnaa
open Go.RowKit
set_option linter.unusedVariables false
set_option linter.unusedSimpArgs false
set_option maxRecDepth 100000

theorem lawVerticesOf_walk (z0 : Int) (q0 : Option Addr) (n0 c0 : Nat) (x0 : List Pr) (w : World) (fm0 : n0 ≤ 9223372036854775807) (fr0 : Prs w q0 n0 x0) (flo0 : -9223372036854775808 ≤ z0) (fhi0 : z0 ≤ 9223372036854775807) :
    Calls Try.prog 3 #[.agg #[.int .i64 z0, .slice q0 n0 c0]] w fun e w' => e = .returned (.bool true) ∧ Below w.heap.size w w' := by
  obtain ⟨k0, k1⟩ := box1c w (.int .i64 z0) (.slice q0 n0 c0) 24
  have hT := boxed w (.cells #[.int .i64 z0, .slice q0 n0 c0] 24)
  have hW0 : w.heap.size + 1 ≤ (w.alloc (.cells #[.int .i64 z0, .slice q0 n0 c0] 24)).heap.size := by simp
  by_cases hfit0 : ((n0 + totH x0 : Nat) : Int) ≤ 1048576
  rotate_left
  · go_enter Try.func3, Try.ntmps3
    go_wp2_with fail
    generalize (w.alloc (.cells #[.int .i64 z0, .slice q0 n0 c0] 24)) = W at *
    refine (szRegion_any _ _ _ _ _ _ _ fm0 (fr0.below hT) (by omega) (by omega)).mono ?_
    rw [leftOf_no (by omega)]
    rintro e w1 ⟨rfl, hb1⟩
    have hsw1 := hb1.size
    replace k0 := Below.cells hb1 k0
    replace k1 := Below.cells hb1 k1
    replace hT := Below.step hT hb1
    go_wp2
    go_ret
    exact ⟨rfl, hT⟩
  go_enter Try.func3, Try.ntmps3
  go_wp2_with fail
  generalize (w.alloc (.cells #[.int .i64 z0, .slice q0 n0 c0] 24)) = W at *
  refine (szRegion_any _ _ _ _ _ _ _ fm0 (fr0.below hT) (by omega) (by omega)).mono ?_
  rw [leftOf_yes (by omega)]
  rintro e w1 ⟨rfl, hb1⟩
  have hsw1 := hb1.size
  replace k0 := Below.cells hb1 k0
  replace k1 := Below.cells hb1 k1
  replace hT := Below.step hT hb1
  go_wp2_with fail
  refine (toRegion_any _ _ _ _ _ _ (fr0.below hT) (by omega) (by omega)).mono ?_
  rintro e w2 ⟨p2, c2, rfl, ho2, hb2⟩
  have hsw2 := hb2.size
  replace k0 := Below.cells hb2 k0
  replace k1 := Below.cells hb2 k1
  replace hT := Below.step hT hb2
  go_wp2_with fail
  refine (specVertices_any _ _ _ _ _ _ (by omega) ho2.rd).mono ?_
  rintro e w3 ⟨p3, n3', c3, rfl, ho3, hb3⟩
  have hsw3 := hb3.size
  replace ho2 := ho2.below hb3
  replace k0 := Below.cells hb3 k0
  replace k1 := Below.cells hb3 k1
  replace hT := Below.step hT hb3
  obtain ⟨hl3, ht3⟩ := vtxV_len z0 x0
  rw [ho3.len] at hl3
  go_wp2_with fail
  refine (toRegion_any _ _ _ _ _ _ (fr0.below hT) (by omega) (by omega)).mono ?_
  rintro e w4 ⟨p4, c4, rfl, ho4, hb4⟩
  have hsw4 := hb4.size
  replace ho3 := ho3.below hb4
  replace k0 := Below.cells hb4 k0
  replace k1 := Below.cells hb4 k1
  replace hT := Below.step hT hb4
  obtain ⟨kx0a, kx0b⟩ := box1c w4 (.int .i64 z0) (.slice p4 n0 c4) 30
  have hbxx0 := boxed w4 (.cells #[.int .i64 z0, .slice p4 n0 c4] 30)
  have hsxx0 : w4.heap.size + 1 ≤ (w4.alloc (.cells #[.int .i64 z0, .slice p4 n0 c4] 30)).heap.size := by simp
  replace ho3 := ho3.below hbxx0
  replace ho4 := ho4.below hbxx0
  replace k0 := Below.cells hbxx0 k0
  replace k1 := Below.cells hbxx0 k1
  replace hT := Below.step hT hbxx0
  go_wp2_with fail
  generalize w4.alloc (.cells #[.int .i64 z0, .slice p4 n0 c4] 30) = Wx0 at *
  refine (implVertices_any _ _ _ _ _ _ (by omega) ho4.rd).mono ?_
  rintro e w5 ⟨p5, n5', c5, rfl, ho5, hb5⟩
  have hsw5 := hb5.size
  replace ho3 := ho3.below hb5
  replace ho4 := ho4.below hb5
  replace k0 := Below.cells hb5 k0
  replace k1 := Below.cells hb5 k1
  replace kx0a := Below.cells hb5 kx0a
  replace kx0b := Below.cells hb5 kx0b
  replace hT := Below.step hT hb5
  obtain ⟨hl5, ht5⟩ := vtxV_len z0 x0
  rw [ho5.len] at hl5
  go_wp2_with fail
  refine (eqRationalS_self _ _ _ _ _ _ _ _ ho5.rd ho3.rd (by omega) (by omega)).mono ?_
  rintro e w6 ⟨rfl, hb6⟩
  have hsw6 := hb6.size
  replace ho3 := ho3.below hb6
  replace ho4 := ho4.below hb6
  replace ho5 := ho5.below hb6
  replace k0 := Below.cells hb6 k0
  replace k1 := Below.cells hb6 k1
  replace kx0a := Below.cells hb6 kx0a
  replace kx0b := Below.cells hb6 kx0b
  replace hT := Below.step hT hb6
  go_wp2_with fail
  have hbd6 := drewBelow w6
  have hsd6 := hbd6.size
  replace ho3 := ho3.below hbd6
  replace ho4 := ho4.below hbd6
  replace ho5 := ho5.below hbd6
  replace k0 := Below.cells hbd6 k0
  replace k1 := Below.cells hbd6 k1
  replace kx0a := Below.cells hbd6 kx0a
  replace kx0b := Below.cells hbd6 kx0b
  replace hT := Below.step hT hbd6
  go_region_held3 (fun w' => w'.cell? ⟨w.heap.size, 0, none⟩ = some (.int .i64 z0) ∧ w'.cell? ⟨w.heap.size, 1, none⟩ = some (.slice q0 n0 c0) ∧ w'.cell? ⟨w4.heap.size, 0, none⟩ = some (.int .i64 z0) ∧ w'.cell? ⟨w4.heap.size, 1, none⟩ = some (.slice p4 n0 c4)) (exact ⟨k0, k1, kx0a, kx0b⟩) (first | (go_at_call 7; (with_reducible refine (toRegion_any _ _ _ _ _ _ (fr0.below hT) (by omega) (by omega)).mono ?_); rintro e w7 ⟨p7, c7, rfl, ho7, hb7⟩; have hsw7 := hb7.size; replace ho3 := ho3.below hb7; replace ho4 := ho4.below hb7; replace ho5 := ho5.below hb7; replace k0 := Below.cells hb7 k0; replace k1 := Below.cells hb7 k1; replace kx0a := Below.cells hb7 kx0a; replace kx0b := Below.cells hb7 kx0b; replace hT := Below.step hT hb7) | (go_at_call 10; (with_reducible refine (eqRegion_self _ _ _ _ _ _ _ _ _ ho4.rd ho7.rd (by omega) (by omega)).mono ?_); rintro e w8 ⟨rfl, hb8⟩; have hsw8 := hb8.size; replace ho3 := ho3.below hb8; replace ho4 := ho4.below hb8; replace ho5 := ho5.below hb8; replace ho7 := ho7.below hb8; replace k0 := Below.cells hb8 k0; replace k1 := Below.cells hb8 k1; replace kx0a := Below.cells hb8 kx0a; replace kx0b := Below.cells hb8 kx0b; replace hT := Below.step hT hb8))
  go_wp2_with fail
  refine (markRegion_any _ _ _ _ _ _ _ _ _ ho4 (by omega) (by omega) (by omega)).mono ?_
  rintro e w9 ⟨rfl, hm9, hb9⟩
  have hsw9 := hb9.size
  replace ho3 := ho3.within hb9 (by omega)
  replace ho5 := ho5.within hb9 (by omega)
  replace k0 := Within.cells2 hb9 k0 (by dsimp only; omega)
  replace k1 := Within.cells2 hb9 k1 (by dsimp only; omega)
  replace kx0a := Within.cells2 hb9 kx0a (by dsimp only; omega)
  replace kx0b := Within.cells2 hb9 kx0b (by dsimp only; omega)
  replace hT := Below.mark hT hb9 (by omega)
  clear ho4
  go_wp2_with fail
  refine (eqRationalS_self _ _ _ _ _ _ _ _ ho5.rd ho3.rd (by omega) (by omega)).mono ?_
  rintro e w10 ⟨rfl, hb10⟩
  have hsw10 := hb10.size
  replace ho3 := ho3.below hb10
  replace hm9 := hm9.below hb10
  replace ho5 := ho5.below hb10
  replace k0 := Below.cells hb10 k0
  replace k1 := Below.cells hb10 k1
  replace kx0a := Below.cells hb10 kx0a
  replace kx0b := Below.cells hb10 kx0b
  replace hT := Below.step hT hb10
  go_wp2_with fail
  refine (markRationalS_any _ _ _ _ _ _ _ _ ho5 (by omega) (by omega)).mono ?_
  rintro e w11 ⟨rfl, hm11, hb11⟩
  have hsw11 := hb11.size
  replace ho3 := ho3.within hb11 (by omega)
  replace hm9 := hm9.within hb11 (by omega)
  replace k0 := Within.cells2 hb11 k0 (by dsimp only; omega)
  replace k1 := Within.cells2 hb11 k1 (by dsimp only; omega)
  replace kx0a := Within.cells2 hb11 kx0a (by dsimp only; omega)
  replace kx0b := Within.cells2 hb11 kx0b (by dsimp only; omega)
  replace hT := Below.mark hT hb11 (by omega)
  clear ho5
  go_wp2_with fail
  refine (ret_of_same (heldRationalS_any _ _ _ _ _ _ hm11.rd (by omega) (by omega) (by omega))).mono ?_
  rintro e w12 ⟨rfl, hb12⟩
  have hsw12 := hb12.size
  replace ho3 := ho3.below hb12
  replace hm9 := hm9.below hb12
  replace hm11 := hm11.below hb12
  replace k0 := Below.cells hb12 k0
  replace k1 := Below.cells hb12 k1
  replace kx0a := Below.cells hb12 kx0a
  replace kx0b := Below.cells hb12 kx0b
  replace hT := Below.step hT hb12
  go_wp2_with fail
  refine (toRegion_any _ _ _ _ _ _ (fr0.below hT) (by omega) (by omega)).mono ?_
  rintro e w13 ⟨p13, c13, rfl, ho13, hb13⟩
  have hsw13 := hb13.size
  replace ho3 := ho3.below hb13
  replace hm9 := hm9.below hb13
  replace hm11 := hm11.below hb13
  replace k0 := Below.cells hb13 k0
  replace k1 := Below.cells hb13 k1
  replace kx0a := Below.cells hb13 kx0a
  replace kx0b := Below.cells hb13 kx0b
  replace hT := Below.step hT hb13
  go_wp2_with fail
  refine (implVertices_any _ _ _ _ _ _ (by omega) ho13.rd).mono ?_
  rintro e w14 ⟨p14, n14', c14, rfl, ho14, hb14⟩
  have hsw14 := hb14.size
  replace ho3 := ho3.below hb14
  replace hm9 := hm9.below hb14
  replace hm11 := hm11.below hb14
  replace ho13 := ho13.below hb14
  replace k0 := Below.cells hb14 k0
  replace k1 := Below.cells hb14 k1
  replace kx0a := Below.cells hb14 kx0a
  replace kx0b := Below.cells hb14 kx0b
  replace hT := Below.step hT hb14
  obtain ⟨hl14, ht14⟩ := vtxV_len z0 x0
  rw [ho14.len] at hl14
  go_wp2_with fail
  refine (eqRationalS_self _ _ _ _ _ _ _ _ ho14.rd ho3.rd (by omega) (by omega)).mono ?_
  rintro e w15 ⟨rfl, hb15⟩
  have hsw15 := hb15.size
  replace ho3 := ho3.below hb15
  replace hm9 := hm9.below hb15
  replace hm11 := hm11.below hb15
  replace ho14 := ho14.below hb15
  replace k0 := Below.cells hb15 k0
  replace k1 := Below.cells hb15 k1
  replace kx0a := Below.cells hb15 kx0a
  replace kx0b := Below.cells hb15 kx0b
  replace hT := Below.step hT hb15
  go_wp2_with fail
  refine (ret_of_same (heldRationalS_any _ _ _ _ _ _ hm11.rd (by omega) (by omega) (by omega))).mono ?_
  rintro e w16 ⟨rfl, hb16⟩
  have hsw16 := hb16.size
  replace ho3 := ho3.below hb16
  replace hm9 := hm9.below hb16
  replace hm11 := hm11.below hb16
  replace ho14 := ho14.below hb16
  replace k0 := Below.cells hb16 k0
  replace k1 := Below.cells hb16 k1
  replace kx0a := Below.cells hb16 kx0a
  replace kx0b := Below.cells hb16 kx0b
  replace hT := Below.step hT hb16
  go_wp2_with fail
  go_ret
  exact ⟨rfl, hT⟩

end Go.Proofs.Ytbdndkombedfnaa
