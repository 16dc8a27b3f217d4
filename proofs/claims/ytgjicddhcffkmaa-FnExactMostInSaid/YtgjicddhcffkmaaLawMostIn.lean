/- The law FnExactMostIn: the walk: for every input it returns true and writes nothing that was there. Conditions: none. -/
import Derived.Test.YtgjicddhcffkmaaBest2
import Derived.Test.YtgjicddhcffkmaaRat
namespace Go.Proofs.Ytgjicddhcffkmaa
open Go.RowKit
set_option linter.unusedVariables false
set_option linter.unusedSimpArgs false

theorem lawMostIn_walk (z0 : Int) (q0 : Option Addr) (n0 c0 : Nat) (x0 : List Pr) (q1 : Option Addr) (n1 c1 : Nat) (x1 : List Int) (w : World) (fm0 : n0 ≤ 9223372036854775807) (fr0 : Prs w q0 n0 x0) (flo0 : -9223372036854775808 ≤ z0) (fhi0 : z0 ≤ 9223372036854775807) (fm1 : n1 ≤ 9223372036854775807) (fr1 : Ints w q1 n1 x1) :
    Calls Try.prog 10 #[.agg #[.int .i64 z0, .slice q0 n0 c0], .slice q1 n1 c1] w fun e w' => e = .returned (.bool true) ∧ Below w.heap.size w w' := by
  obtain ⟨k0, k1⟩ := box1c w (.int .i64 z0) (.slice q0 n0 c0) 24
  have hT := boxed w (.cells #[.int .i64 z0, .slice q0 n0 c0] 24)
  have hW0 : w.heap.size + 1 ≤ (w.alloc (.cells #[.int .i64 z0, .slice q0 n0 c0] 24)).heap.size := by simp
  by_cases hbig1 : 1048576 < n1
  · go_enter Try.func10, Try.ntmps10
    go_wp2
    go_ret
    exact ⟨rfl, hT⟩
  by_cases hfit0 : ((n0 + totH x0 : Nat) : Int) ≤ 1048576
  rotate_left
  · go_enter Try.func10, Try.ntmps10
    go_wp2_with fail
    generalize (w.alloc (.cells #[.int .i64 z0, .slice q0 n0 c0] 24)) = W at *
    refine (szRegion_any _ _ _ _ _ _ _ fm0 (fr0.below hT) (by omega) (by omega)).mono ?_
    rw [leftOf_no (by omega)]
    rintro e w1 ⟨rfl, hb1⟩
    have hsw1 := hb1.size
    replace k0 := Below.cells hb1 k0
    replace k1 := Below.cells hb1 k1
    replace hT := Below.step hT hb1
    go_wp2
    go_ret
    exact ⟨rfl, hT⟩
  go_enter Try.func10, Try.ntmps10
  go_wp2_with fail
  generalize (w.alloc (.cells #[.int .i64 z0, .slice q0 n0 c0] 24)) = W at *
  refine (szRegion_any _ _ _ _ _ _ _ fm0 (fr0.below hT) (by omega) (by omega)).mono ?_
  rw [leftOf_yes (by omega)]
  rintro e w1 ⟨rfl, hb1⟩
  have hsw1 := hb1.size
  replace k0 := Below.cells hb1 k0
  replace k1 := Below.cells hb1 k1
  replace hT := Below.step hT hb1
  go_wp2_with fail
  refine (toRegion_any _ _ _ _ _ _ (fr0.below hT) (by omega) (by omega)).mono ?_
  rintro e w2 ⟨p2, c2, rfl, ho2, hb2⟩
  have hsw2 := hb2.size
  replace k0 := Below.cells hb2 k0
  replace k1 := Below.cells hb2 k1
  replace hT := Below.step hT hb2
  go_wp2_with fail
  refine (toIntS_any _ _ _ _ _ (fr1.below hT) (by omega)).mono ?_
  rintro e w3 ⟨p3, c3, rfl, ho3, hb3⟩
  have hsw3 := hb3.size
  replace ho2 := ho2.below hb3
  replace k0 := Below.cells hb3 k0
  replace k1 := Below.cells hb3 k1
  replace hT := Below.step hT hb3
  go_wp2_with fail
  refine (specMost_any _ _ _ _ _ _ _ _ _ _ (by omega) (by omega) ho2.rd ho3.rd).mono ?_
  rintro e w4 ⟨p4, n4', c4, rfl, ho4, hb4⟩
  have hsw4 := hb4.size
  replace ho2 := ho2.below hb4
  replace ho3 := ho3.below hb4
  replace k0 := Below.cells hb4 k0
  replace k1 := Below.cells hb4 k1
  replace hT := Below.step hT hb4
  have hl4 := bestV_len 1 z0 x0 x1
  rw [ho4.len] at hl4
  go_wp2_with fail
  refine (toRegion_any _ _ _ _ _ _ (fr0.below hT) (by omega) (by omega)).mono ?_
  rintro e w5 ⟨p5, c5, rfl, ho5, hb5⟩
  have hsw5 := hb5.size
  replace ho4 := ho4.below hb5
  replace k0 := Below.cells hb5 k0
  replace k1 := Below.cells hb5 k1
  replace hT := Below.step hT hb5
  obtain ⟨kx0a, kx0b⟩ := box1c w5 (.int .i64 z0) (.slice p5 n0 c5) 29
  have hbxx0 := boxed w5 (.cells #[.int .i64 z0, .slice p5 n0 c5] 29)
  have hsxx0 : w5.heap.size + 1 ≤ (w5.alloc (.cells #[.int .i64 z0, .slice p5 n0 c5] 29)).heap.size := by simp
  replace ho4 := ho4.below hbxx0
  replace ho5 := ho5.below hbxx0
  replace k0 := Below.cells hbxx0 k0
  replace k1 := Below.cells hbxx0 k1
  replace hT := Below.step hT hbxx0
  go_wp2_with fail
  generalize w5.alloc (.cells #[.int .i64 z0, .slice p5 n0 c5] 29) = Wx0 at *
  refine (toIntS_any _ _ _ _ _ (fr1.below hT) (by omega)).mono ?_
  rintro e w6 ⟨p6, c6, rfl, ho6, hb6⟩
  have hsw6 := hb6.size
  replace ho4 := ho4.below hb6
  replace ho5 := ho5.below hb6
  replace k0 := Below.cells hb6 k0
  replace k1 := Below.cells hb6 k1
  replace kx0a := Below.cells hb6 kx0a
  replace kx0b := Below.cells hb6 kx0b
  replace hT := Below.step hT hb6
  go_wp2_with fail
  refine (implMost_any _ _ _ _ _ _ _ _ _ _ (by omega) (by omega) ho5.rd ho6.rd).mono ?_
  rintro e w7 ⟨p7, n7', c7, rfl, ho7, hb7⟩
  have hsw7 := hb7.size
  replace ho4 := ho4.below hb7
  replace ho5 := ho5.below hb7
  replace ho6 := ho6.below hb7
  replace k0 := Below.cells hb7 k0
  replace k1 := Below.cells hb7 k1
  replace kx0a := Below.cells hb7 kx0a
  replace kx0b := Below.cells hb7 kx0b
  replace hT := Below.step hT hb7
  have hl7 := bestV_len 1 z0 x0 x1
  rw [ho7.len] at hl7
  go_wp2_with fail
  refine (eqIntS_self _ _ _ _ _ _ _ _ ho7.rd ho4.rd (by omega) (by omega)).mono ?_
  rintro e w8 ⟨rfl, hb8⟩
  have hsw8 := hb8.size
  replace ho4 := ho4.below hb8
  replace ho5 := ho5.below hb8
  replace ho6 := ho6.below hb8
  replace ho7 := ho7.below hb8
  replace k0 := Below.cells hb8 k0
  replace k1 := Below.cells hb8 k1
  replace kx0a := Below.cells hb8 kx0a
  replace kx0b := Below.cells hb8 kx0b
  replace hT := Below.step hT hb8
  go_wp2_with fail
  have hbd8 := drewBelow w8
  have hsd8 := hbd8.size
  replace ho4 := ho4.below hbd8
  replace ho5 := ho5.below hbd8
  replace ho6 := ho6.below hbd8
  replace ho7 := ho7.below hbd8
  replace k0 := Below.cells hbd8 k0
  replace k1 := Below.cells hbd8 k1
  replace kx0a := Below.cells hbd8 kx0a
  replace kx0b := Below.cells hbd8 kx0b
  replace hT := Below.step hT hbd8
  go_region_held3 (fun w' => w'.cell? ⟨w.heap.size, 0, none⟩ = some (.int .i64 z0) ∧ w'.cell? ⟨w.heap.size, 1, none⟩ = some (.slice q0 n0 c0) ∧ w'.cell? ⟨w5.heap.size, 0, none⟩ = some (.int .i64 z0) ∧ w'.cell? ⟨w5.heap.size, 1, none⟩ = some (.slice p5 n0 c5)) (exact ⟨k0, k1, kx0a, kx0b⟩) (first | (go_at_call 13; (with_reducible refine (toRegion_any _ _ _ _ _ _ (fr0.below hT) (by omega) (by omega)).mono ?_); rintro e w9 ⟨p9, c9, rfl, ho9, hb9⟩; have hsw9 := hb9.size; replace ho4 := ho4.below hb9; replace ho5 := ho5.below hb9; replace ho6 := ho6.below hb9; replace ho7 := ho7.below hb9; replace k0 := Below.cells hb9 k0; replace k1 := Below.cells hb9 k1; replace kx0a := Below.cells hb9 kx0a; replace kx0b := Below.cells hb9 kx0b; replace hT := Below.step hT hb9) | (go_at_call 15; (with_reducible refine (eqRegion_self _ _ _ _ _ _ _ _ _ ho5.rd ho9.rd (by omega) (by omega)).mono ?_); rintro e w10 ⟨rfl, hb10⟩; have hsw10 := hb10.size; replace ho4 := ho4.below hb10; replace ho5 := ho5.below hb10; replace ho6 := ho6.below hb10; replace ho7 := ho7.below hb10; replace ho9 := ho9.below hb10; replace k0 := Below.cells hb10 k0; replace k1 := Below.cells hb10 k1; replace kx0a := Below.cells hb10 kx0a; replace kx0b := Below.cells hb10 kx0b; replace hT := Below.step hT hb10))
  go_wp2_with fail
  refine (toIntS_any _ _ _ _ _ (fr1.below hT) (by omega)).mono ?_
  rintro e w11 ⟨p11, c11, rfl, ho11, hb11⟩
  have hsw11 := hb11.size
  replace ho4 := ho4.below hb11
  replace ho5 := ho5.below hb11
  replace ho6 := ho6.below hb11
  replace ho7 := ho7.below hb11
  replace k0 := Below.cells hb11 k0
  replace k1 := Below.cells hb11 k1
  replace kx0a := Below.cells hb11 kx0a
  replace kx0b := Below.cells hb11 kx0b
  replace hT := Below.step hT hb11
  go_wp2_with fail
  refine (eqIntS_self _ _ _ _ _ _ _ _ ho6.rd ho11.rd (by omega) (by omega)).mono ?_
  rintro e w12 ⟨rfl, hb12⟩
  have hsw12 := hb12.size
  replace ho4 := ho4.below hb12
  replace ho5 := ho5.below hb12
  replace ho6 := ho6.below hb12
  replace ho7 := ho7.below hb12
  replace ho11 := ho11.below hb12
  replace k0 := Below.cells hb12 k0
  replace k1 := Below.cells hb12 k1
  replace kx0a := Below.cells hb12 kx0a
  replace kx0b := Below.cells hb12 kx0b
  replace hT := Below.step hT hb12
  go_wp2_with fail
  refine (markRegion_any _ _ _ _ _ _ _ _ _ ho5 (by omega) (by omega) (by omega)).mono ?_
  rintro e w13 ⟨rfl, hm13, hb13⟩
  have hsw13 := hb13.size
  replace ho4 := ho4.within hb13 (by omega)
  replace ho6 := ho6.within hb13 (by omega)
  replace ho7 := ho7.within hb13 (by omega)
  replace k0 := Within.cells2 hb13 k0 (by dsimp only; omega)
  replace k1 := Within.cells2 hb13 k1 (by dsimp only; omega)
  replace kx0a := Within.cells2 hb13 kx0a (by dsimp only; omega)
  replace kx0b := Within.cells2 hb13 kx0b (by dsimp only; omega)
  replace hT := Below.mark hT hb13 (by omega)
  clear ho5
  go_wp2_with fail
  refine (markIntS_any _ _ _ _ _ _ _ _ ho6 (by omega) (by omega)).mono ?_
  rintro e w14 ⟨rfl, hm14, hb14⟩
  have hsw14 := hb14.size
  replace ho4 := ho4.within hb14 (by omega)
  replace hm13 := hm13.within hb14 (by omega)
  replace ho7 := ho7.within hb14 (by omega)
  replace k0 := Within.cells2 hb14 k0 (by dsimp only; omega)
  replace k1 := Within.cells2 hb14 k1 (by dsimp only; omega)
  replace kx0a := Within.cells2 hb14 kx0a (by dsimp only; omega)
  replace kx0b := Within.cells2 hb14 kx0b (by dsimp only; omega)
  replace hT := Below.mark hT hb14 (by omega)
  clear ho6
  go_wp2_with fail
  refine (eqIntS_self _ _ _ _ _ _ _ _ ho7.rd ho4.rd (by omega) (by omega)).mono ?_
  rintro e w15 ⟨rfl, hb15⟩
  have hsw15 := hb15.size
  replace ho4 := ho4.below hb15
  replace hm13 := hm13.below hb15
  replace hm14 := hm14.below hb15
  replace ho7 := ho7.below hb15
  replace k0 := Below.cells hb15 k0
  replace k1 := Below.cells hb15 k1
  replace kx0a := Below.cells hb15 kx0a
  replace kx0b := Below.cells hb15 kx0b
  replace hT := Below.step hT hb15
  go_wp2_with fail
  refine (markIntS_any _ _ _ _ _ _ _ _ ho7 (by omega) (by omega)).mono ?_
  rintro e w16 ⟨rfl, hm16, hb16⟩
  have hsw16 := hb16.size
  replace ho4 := ho4.within hb16 (by omega)
  replace hm13 := hm13.within hb16 (by omega)
  replace hm14 := hm14.within hb16 (by omega)
  replace k0 := Within.cells2 hb16 k0 (by dsimp only; omega)
  replace k1 := Within.cells2 hb16 k1 (by dsimp only; omega)
  replace kx0a := Within.cells2 hb16 kx0a (by dsimp only; omega)
  replace kx0b := Within.cells2 hb16 kx0b (by dsimp only; omega)
  replace hT := Below.mark hT hb16 (by omega)
  clear ho7
  go_wp2_with fail
  refine (ret_of_same (heldIntS_any _ _ _ _ _ hm16.rd (by omega) (by omega))).mono ?_
  rintro e w17 ⟨rfl, hb17⟩
  have hsw17 := hb17.size
  replace ho4 := ho4.below hb17
  replace hm13 := hm13.below hb17
  replace hm14 := hm14.below hb17
  replace hm16 := hm16.below hb17
  replace k0 := Below.cells hb17 k0
  replace k1 := Below.cells hb17 k1
  replace kx0a := Below.cells hb17 kx0a
  replace kx0b := Below.cells hb17 kx0b
  replace hT := Below.step hT hb17
  go_wp2_with fail
  refine (toRegion_any _ _ _ _ _ _ (fr0.below hT) (by omega) (by omega)).mono ?_
  rintro e w18 ⟨p18, c18, rfl, ho18, hb18⟩
  have hsw18 := hb18.size
  replace ho4 := ho4.below hb18
  replace hm13 := hm13.below hb18
  replace hm14 := hm14.below hb18
  replace hm16 := hm16.below hb18
  replace k0 := Below.cells hb18 k0
  replace k1 := Below.cells hb18 k1
  replace kx0a := Below.cells hb18 kx0a
  replace kx0b := Below.cells hb18 kx0b
  replace hT := Below.step hT hb18
  go_wp2_with fail
  refine (toIntS_any _ _ _ _ _ (fr1.below hT) (by omega)).mono ?_
  rintro e w19 ⟨p19, c19, rfl, ho19, hb19⟩
  have hsw19 := hb19.size
  replace ho4 := ho4.below hb19
  replace hm13 := hm13.below hb19
  replace hm14 := hm14.below hb19
  replace hm16 := hm16.below hb19
  replace ho18 := ho18.below hb19
  replace k0 := Below.cells hb19 k0
  replace k1 := Below.cells hb19 k1
  replace kx0a := Below.cells hb19 kx0a
  replace kx0b := Below.cells hb19 kx0b
  replace hT := Below.step hT hb19
  go_wp2_with fail
  refine (implMost_any _ _ _ _ _ _ _ _ _ _ (by omega) (by omega) ho18.rd ho19.rd).mono ?_
  rintro e w20 ⟨p20, n20', c20, rfl, ho20, hb20⟩
  have hsw20 := hb20.size
  replace ho4 := ho4.below hb20
  replace hm13 := hm13.below hb20
  replace hm14 := hm14.below hb20
  replace hm16 := hm16.below hb20
  replace ho18 := ho18.below hb20
  replace ho19 := ho19.below hb20
  replace k0 := Below.cells hb20 k0
  replace k1 := Below.cells hb20 k1
  replace kx0a := Below.cells hb20 kx0a
  replace kx0b := Below.cells hb20 kx0b
  replace hT := Below.step hT hb20
  have hl20 := bestV_len 1 z0 x0 x1
  rw [ho20.len] at hl20
  go_wp2_with fail
  refine (eqIntS_self _ _ _ _ _ _ _ _ ho20.rd ho4.rd (by omega) (by omega)).mono ?_
  rintro e w21 ⟨rfl, hb21⟩
  have hsw21 := hb21.size
  replace ho4 := ho4.below hb21
  replace hm13 := hm13.below hb21
  replace hm14 := hm14.below hb21
  replace hm16 := hm16.below hb21
  replace ho20 := ho20.below hb21
  replace k0 := Below.cells hb21 k0
  replace k1 := Below.cells hb21 k1
  replace kx0a := Below.cells hb21 kx0a
  replace kx0b := Below.cells hb21 kx0b
  replace hT := Below.step hT hb21
  go_wp2_with fail
  refine (ret_of_same (heldIntS_any _ _ _ _ _ hm16.rd (by omega) (by omega))).mono ?_
  rintro e w22 ⟨rfl, hb22⟩
  have hsw22 := hb22.size
  replace ho4 := ho4.below hb22
  replace hm13 := hm13.below hb22
  replace hm14 := hm14.below hb22
  replace hm16 := hm16.below hb22
  replace ho20 := ho20.below hb22
  replace k0 := Below.cells hb22 k0
  replace k1 := Below.cells hb22 k1
  replace kx0a := Below.cells hb22 kx0a
  replace kx0b := Below.cells hb22 kx0b
  replace hT := Below.step hT hb22
  go_wp2_with fail
  go_ret
  exact ⟨rfl, hT⟩

end Go.Proofs.Ytgjicddhcffkmaa
