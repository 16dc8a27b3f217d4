/- The law FnExactMeetRegions: the walk: for every input it returns true and writes nothing that was there. Conditions: none. -/
import Derived.Test.YtdchckljggjaaaaMeet3
import Derived.Test.YtdchckljggjaaaaMeet2
import Derived.Test.YtdchckljggjaaaaRat
import Derived.Deep.DeepCutAuto
namespace Go.Proofs.Ytdchckljggjaaaa
open Go.RowKit
set_option linter.unusedVariables false
set_option linter.unusedSimpArgs false
set_option maxRecDepth 100000

set_option maxHeartbeats 8000000 in
theorem lawMeetRegions_walk (z0 : Int) (q0 : Option Addr) (n0 c0 : Nat) (x0 : List Pr) (z1 : Int) (q1 : Option Addr) (n1 c1 : Nat) (x1 : List Pr) (w : World) (fm0 : n0 ≤ 9223372036854775807) (fr0 : Prs w q0 n0 x0) (flo0 : -9223372036854775808 ≤ z0) (fhi0 : z0 ≤ 9223372036854775807) (fm1 : n1 ≤ 9223372036854775807) (fr1 : Prs w q1 n1 x1) (flo1 : -9223372036854775808 ≤ z1) (fhi1 : z1 ≤ 9223372036854775807) :
    Calls Try.prog 3 #[.agg #[.int .i64 z0, .slice q0 n0 c0], .agg #[.int .i64 z1, .slice q1 n1 c1]] w fun e w' => e = .returned (.bool true) ∧ Below w.heap.size w w' := by
  obtain ⟨k0, k1, k2, k3⟩ := box2c w (.int .i64 z0) (.slice q0 n0 c0) (.int .i64 z1) (.slice q1 n1 c1) 24 24
  have hT := boxed2 w (.cells #[.int .i64 z0, .slice q0 n0 c0] 24) (.cells #[.int .i64 z1, .slice q1 n1 c1] 24)
  have hW0 : w.heap.size + 2 ≤ ((w.alloc (.cells #[.int .i64 z0, .slice q0 n0 c0] 24)).alloc (.cells #[.int .i64 z1, .slice q1 n1 c1] 24)).heap.size := by simp
  by_cases hfit0 : ((n0 + totH x0 : Nat) : Int) ≤ 1048576
  rotate_left
  · go_enter Try.func3, Try.ntmps3
    go_wp2_with fail
    generalize ((w.alloc (.cells #[.int .i64 z0, .slice q0 n0 c0] 24)).alloc (.cells #[.int .i64 z1, .slice q1 n1 c1] 24)) = W at *
    refine (szRegion_any _ _ _ _ _ _ _ fm0 (fr0.below hT) (by omega) (by omega)).mono ?_
    rw [leftOf_no (by omega)]
    rintro e w1 ⟨rfl, hb1⟩
    have hsw1 := hb1.size
    replace k0 := Below.cells hb1 k0
    replace k1 := Below.cells hb1 k1
    replace k2 := Below.cells hb1 k2
    replace k3 := Below.cells hb1 k3
    replace hT := Below.step hT hb1
    go_wp2
    go_ret
    exact ⟨rfl, hT⟩
  by_cases hfit1 : ((n0 + totH x0 : Nat) : Int) + ((n1 + totH x1 : Nat) : Int) ≤ 1048576
  rotate_left
  · go_enter Try.func3, Try.ntmps3
    go_wp2_with fail
    generalize ((w.alloc (.cells #[.int .i64 z0, .slice q0 n0 c0] 24)).alloc (.cells #[.int .i64 z1, .slice q1 n1 c1] 24)) = W at *
    refine (szRegion_any _ _ _ _ _ _ _ fm0 (fr0.below hT) (by omega) (by omega)).mono ?_
    rw [leftOf_yes (by omega)]
    rintro e w1 ⟨rfl, hb1⟩
    have hsw1 := hb1.size
    replace k0 := Below.cells hb1 k0
    replace k1 := Below.cells hb1 k1
    replace k2 := Below.cells hb1 k2
    replace k3 := Below.cells hb1 k3
    replace hT := Below.step hT hb1
    go_wp2_with fail
    refine (szRegion_any _ _ _ _ _ _ _ fm1 (fr1.below hT) (by omega) (by omega)).mono ?_
    rw [leftOf_no (by omega)]
    rintro e w2 ⟨rfl, hb2⟩
    have hsw2 := hb2.size
    replace k0 := Below.cells hb2 k0
    replace k1 := Below.cells hb2 k1
    replace k2 := Below.cells hb2 k2
    replace k3 := Below.cells hb2 k3
    replace hT := Below.step hT hb2
    go_wp2
    go_ret
    exact ⟨rfl, hT⟩
  go_enter Try.func3, Try.ntmps3
  go_wp2_with fail
  generalize ((w.alloc (.cells #[.int .i64 z0, .slice q0 n0 c0] 24)).alloc (.cells #[.int .i64 z1, .slice q1 n1 c1] 24)) = W at *
  refine (szRegion_any _ _ _ _ _ _ _ fm0 (fr0.below hT) (by omega) (by omega)).mono ?_
  rw [leftOf_yes (by omega)]
  rintro e w1 ⟨rfl, hb1⟩
  have hsw1 := hb1.size
  replace k0 := Below.cells hb1 k0
  replace k1 := Below.cells hb1 k1
  replace k2 := Below.cells hb1 k2
  replace k3 := Below.cells hb1 k3
  replace hT := Below.step hT hb1
  go_wp2_with fail
  refine (szRegion_any _ _ _ _ _ _ _ fm1 (fr1.below hT) (by omega) (by omega)).mono ?_
  rw [leftOf_yes (by omega)]
  rintro e w2 ⟨rfl, hb2⟩
  have hsw2 := hb2.size
  replace k0 := Below.cells hb2 k0
  replace k1 := Below.cells hb2 k1
  replace k2 := Below.cells hb2 k2
  replace k3 := Below.cells hb2 k3
  replace hT := Below.step hT hb2
  have fA3 := fr0.below hT
  have fB3 := fr1.below hT
  have hD := drewBelow w2
  have hsD := hD.size
  have hsT := hT.size
  go_upto_region 8 with fail
  go_cut [6, 7] (fun b v wx => ∃ (g : Nat) (p : Option Addr) (n c : Nat), b = .pointer (some ⟨g, 0, none⟩) ∧ v = .bool (meetV z0 x0 z1 x1).2 ∧ w2.heap.size ≤ g ∧ Box2 wx g (.int .i64 (meetV z0 x0 z1 x1).1.1) (.slice p n c) 28 ∧ OwnPM 56 wx w2.heap.size wx.heap.size p n c (meetV z0 x0 z1 x1).1.2 ∧ Below w2.heap.size w2 wx)
  case first =>
    have dk0 := Below.cells hD k0
    have dk1 := Below.cells hD k1
    have dk2 := Below.cells hD k2
    have dk3 := Below.cells hD k3
    go_region_held3 (fun w' => w'.cell? ⟨w.heap.size, 0, none⟩ = some (.int .i64 z0) ∧ w'.cell? ⟨w.heap.size, 1, none⟩ = some (.slice q0 n0 c0) ∧ w'.cell? ⟨w.heap.size + 1, 0, none⟩ = some (.int .i64 z1) ∧ w'.cell? ⟨w.heap.size + 1, 1, none⟩ = some (.slice q1 n1 c1)) (first | exact ⟨dk0, dk1, dk2, dk3⟩ | exact ⟨Below.cells (boxed _ _) dk0, Below.cells (boxed _ _) dk1, Below.cells (boxed _ _) dk2, Below.cells (boxed _ _) dk3⟩ | exact ⟨cell_other (cell_other dk0 (by dsimp only; (try simp at hs3 hs4 hs5 hsD); (try simp); try omega)) (by dsimp only; (try simp at hs3 hs4 hs5 hsD); (try simp); try omega), cell_other (cell_other dk1 (by dsimp only; (try simp at hs3 hs4 hs5 hsD); (try simp); try omega)) (by dsimp only; (try simp at hs3 hs4 hs5 hsD); (try simp); try omega), cell_other (cell_other dk2 (by dsimp only; (try simp at hs3 hs4 hs5 hsD); (try simp); try omega)) (by dsimp only; (try simp at hs3 hs4 hs5 hsD); (try simp); try omega), cell_other (cell_other dk3 (by dsimp only; (try simp at hs3 hs4 hs5 hsD); (try simp); try omega)) (by dsimp only; (try simp at hs3 hs4 hs5 hsD); (try simp); try omega)⟩) (first | (go_at_call 8; (with_reducible refine (toRegion_any _ _ _ _ _ _ (fA3.below hD) (by omega) (by omega)).mono ?_); rintro e w3 ⟨p3, c3, rfl, ho3, hb3⟩; have hs3 := hb3.size; replace hD := Below.step hD hb3; replace dk0 := Below.cells hb3 dk0; replace dk1 := Below.cells hb3 dk1; replace dk2 := Below.cells hb3 dk2; replace dk3 := Below.cells hb3 dk3; (first | replace kz := kz.below hb3 | skip)) | (go_at_call 8; (with_reducible refine (toRegion_any _ _ _ _ _ _ (fA3.below (boxed _ _).drew) (by omega) (by omega)).mono ?_); rintro e w3 ⟨p3, c3, rfl, ho3, hb3⟩; have hs3 := hb3.size; replace hD := Below.step (boxed _ _).drew hb3; replace dk0 := Below.cells hb3 (Below.cells (boxed _ _).drew k0); replace dk1 := Below.cells hb3 (Below.cells (boxed _ _).drew k1); replace dk2 := Below.cells hb3 (Below.cells (boxed _ _).drew k2); replace dk3 := Below.cells hb3 (Below.cells (boxed _ _).drew k3); have kz : Box2 w3 w2.heap.size (.int .i64 0) (.slice none 0 0) 28 := (Box2.new w2 _ _ _).drew.below hb3) | (go_at_call 8; (with_reducible refine (toRegion_any _ _ _ _ _ _ (fB3.below hD) (by omega) (by omega)).mono ?_); rintro e w4 ⟨p4, c4, rfl, ho4, hb4⟩; have hs4 := hb4.size; replace hD := Below.step hD hb4; replace dk0 := Below.cells hb4 dk0; replace dk1 := Below.cells hb4 dk1; replace dk2 := Below.cells hb4 dk2; replace dk3 := Below.cells hb4 dk3; replace ho3 := ho3.below hb4; (first | replace kz := kz.below hb4 | skip)) | (go_at_call 8; (with_reducible refine (toRegion_any _ _ _ _ _ _ (fB3.below (Below.step hD (boxed _ _))) (by omega) (by omega)).mono ?_); rintro e w4 ⟨p4, c4, rfl, ho4, hb4⟩; have hs4 := hb4.size; replace hD := Below.step (Below.step hD (boxed _ _)) hb4; replace dk0 := Below.cells hb4 (Below.cells (boxed _ _) dk0); replace dk1 := Below.cells hb4 (Below.cells (boxed _ _) dk1); replace dk2 := Below.cells hb4 (Below.cells (boxed _ _) dk2); replace dk3 := Below.cells hb4 (Below.cells (boxed _ _) dk3); replace ho3 := (ho3.below (boxed _ _)).below hb4; have kz : Box2 w4 w3.heap.size (.int .i64 0) (.slice none 0 0) 28 := (Box2.new w3 _ _ _).below hb4) | (go_at_call 7; (with_reducible refine (specMeet_any _ _ _ _ _ _ _ _ _ _ _ (by omega) (by omega) ho3.rd ho4.rd).mono ?_); rintro e w5 ⟨p5, n5', c5, rfl, ho5, hb5⟩; have hs5 := hb5.size; replace hD := Below.step hD hb5; replace dk0 := Below.cells hb5 dk0; replace dk1 := Below.cells hb5 dk1; replace dk2 := Below.cells hb5 dk2; replace dk3 := Below.cells hb5 dk3; (first | (replace kz := kz.below hb5; have f0 := kz.fr 0; have f1 := kz.fr 1; have e0 := kz.c0; have e1 := kz.c1) | skip)) | (go_at_call 7; (with_reducible refine (specMeet_any _ _ _ _ _ _ _ _ _ _ _ (by omega) (by omega) ((ho3.below (boxed _ _)).rd) ((ho4.below (boxed _ _)).rd)).mono ?_); rintro e w5 ⟨p5, n5', c5, rfl, ho5, hb5⟩; have hs5 := hb5.size; replace hD := Below.step (Below.step hD (boxed _ _)) hb5; replace dk0 := Below.cells hb5 (Below.cells (boxed _ _) dk0); replace dk1 := Below.cells hb5 (Below.cells (boxed _ _) dk1); replace dk2 := Below.cells hb5 (Below.cells (boxed _ _) dk2); replace dk3 := Below.cells hb5 (Below.cells (boxed _ _) dk3); have kz : Box2 w5 w4.heap.size (.int .i64 0) (.slice none 0 0) 28 := (Box2.new w4 _ _ _).below hb5; have f0 := kz.fr 0; have f1 := kz.fr 1; have e0 := kz.c0; have e1 := kz.c1))
    all_goals
      go_wp2_with fail
      go_meet
      first
        | exact ⟨_, _, _, _, rfl, rfl, (by (try simp at hs3 hs4 hs5 hsD); (try simp); try omega), Box2.new _ _ _ _, (ho5.below (boxed _ _)).up.widen (by (try simp at hs3 hs4 hs5 hsD); (try simp); try omega) (Nat.le_refl _), Below.step hD (boxed _ _)⟩
        | exact ⟨_, _, _, _, rfl, rfl, (by (try simp at hs3 hs4 hs5 hsD); (try simp); try omega), (kz.set0 _).set1 _, ((ho5.setBelow (a := ⟨_, _, none⟩) (by dsimp only; (try simp at hs3 hs4 hs5 hsD); (try simp); try omega) _).setBelow (a := ⟨_, _, none⟩) (by dsimp only; (try simp at hs3 hs4 hs5 hsD); (try simp); try omega) _).up.widen (by (try simp at hs3 hs4 hs5 hsD); (try simp); try omega) (Nat.le_refl _), (hD.setCell (p := ⟨_, _, none⟩) (by dsimp only; (try simp at hs3 hs4 hs5 hsD); (try simp); try omega) _).setCell (p := ⟨_, _, none⟩) (by dsimp only; (try simp at hs3 hs4 hs5 hsD); (try simp); try omega) _⟩
  case rest =>
    generalize wc = w5 at *
    obtain ⟨g5, p5, n5', c5, rfl, rfl, hg5, kx5, ho5, hb5⟩ := hcut
    clear hD hsD hsT fA3 fB3
    have hsw5 := hb5.size
    replace k0 := Below.cells hb5 k0
    replace k1 := Below.cells hb5 k1
    replace k2 := Below.cells hb5 k2
    replace k3 := Below.cells hb5 k3
    replace hT := Below.step hT hb5
    have kw0a := kx5.c0
    have kw0b := kx5.c1
    have hglt5 := kx5.lt
    obtain ⟨hl5, ht5⟩ := meetV_len z0 z1 x0 x1
    rw [ho5.len] at hl5
    go_wp2_with fail
    refine (toRegion_any _ _ _ _ _ _ (fr0.below hT) (by omega) (by omega)).mono ?_
    rintro e w6 ⟨p6, c6, rfl, ho6, hb6⟩
    have hsw6 := hb6.size
    replace ho5 := ho5.below hb6
    replace k0 := Below.cells hb6 k0
    replace k1 := Below.cells hb6 k1
    replace k2 := Below.cells hb6 k2
    replace k3 := Below.cells hb6 k3
    replace kw0a := Below.cells hb6 kw0a
    replace kw0b := Below.cells hb6 kw0b
    replace hT := Below.step hT hb6
    obtain ⟨kx0a, kx0b⟩ := box1c w6 (.int .i64 z0) (.slice p6 n0 c6) 28
    have hbxx0 := boxed w6 (.cells #[.int .i64 z0, .slice p6 n0 c6] 28)
    have hsxx0 : w6.heap.size + 1 ≤ (w6.alloc (.cells #[.int .i64 z0, .slice p6 n0 c6] 28)).heap.size := by simp
    replace ho5 := ho5.below hbxx0
    replace ho6 := ho6.below hbxx0
    replace k0 := Below.cells hbxx0 k0
    replace k1 := Below.cells hbxx0 k1
    replace k2 := Below.cells hbxx0 k2
    replace k3 := Below.cells hbxx0 k3
    replace kw0a := Below.cells hbxx0 kw0a
    replace kw0b := Below.cells hbxx0 kw0b
    replace hT := Below.step hT hbxx0
    go_wp2_with fail
    generalize w6.alloc (.cells #[.int .i64 z0, .slice p6 n0 c6] 28) = Wx0 at *
    refine (toRegion_any _ _ _ _ _ _ (fr1.below hT) (by omega) (by omega)).mono ?_
    rintro e w7 ⟨p7, c7, rfl, ho7, hb7⟩
    have hsw7 := hb7.size
    replace ho5 := ho5.below hb7
    replace ho6 := ho6.below hb7
    replace k0 := Below.cells hb7 k0
    replace k1 := Below.cells hb7 k1
    replace k2 := Below.cells hb7 k2
    replace k3 := Below.cells hb7 k3
    replace kw0a := Below.cells hb7 kw0a
    replace kw0b := Below.cells hb7 kw0b
    replace kx0a := Below.cells hb7 kx0a
    replace kx0b := Below.cells hb7 kx0b
    replace hT := Below.step hT hb7
    obtain ⟨kx1a, kx1b⟩ := box1c w7 (.int .i64 z1) (.slice p7 n1 c7) 28
    have hbxx1 := boxed w7 (.cells #[.int .i64 z1, .slice p7 n1 c7] 28)
    have hsxx1 : w7.heap.size + 1 ≤ (w7.alloc (.cells #[.int .i64 z1, .slice p7 n1 c7] 28)).heap.size := by simp
    replace ho5 := ho5.below hbxx1
    replace ho6 := ho6.below hbxx1
    replace ho7 := ho7.below hbxx1
    replace k0 := Below.cells hbxx1 k0
    replace k1 := Below.cells hbxx1 k1
    replace k2 := Below.cells hbxx1 k2
    replace k3 := Below.cells hbxx1 k3
    replace kw0a := Below.cells hbxx1 kw0a
    replace kw0b := Below.cells hbxx1 kw0b
    replace kx0a := Below.cells hbxx1 kx0a
    replace kx0b := Below.cells hbxx1 kx0b
    replace hT := Below.step hT hbxx1
    go_wp2_with fail
    generalize w7.alloc (.cells #[.int .i64 z1, .slice p7 n1 c7] 28) = Wx1 at *
    refine (implMeet_any _ _ _ _ _ _ _ _ _ _ _ (by omega) (by omega) ho6.rd ho7.rd).mono ?_
    rintro e w8 ⟨p8, n8', c8, rfl, ho8, hb8⟩
    have hsw8 := hb8.size
    replace ho5 := ho5.below hb8
    replace ho6 := ho6.below hb8
    replace ho7 := ho7.below hb8
    replace k0 := Below.cells hb8 k0
    replace k1 := Below.cells hb8 k1
    replace k2 := Below.cells hb8 k2
    replace k3 := Below.cells hb8 k3
    replace kw0a := Below.cells hb8 kw0a
    replace kw0b := Below.cells hb8 kw0b
    replace kx0a := Below.cells hb8 kx0a
    replace kx0b := Below.cells hb8 kx0b
    replace kx1a := Below.cells hb8 kx1a
    replace kx1b := Below.cells hb8 kx1b
    replace hT := Below.step hT hb8
    obtain ⟨hl8, ht8⟩ := meetV_len z0 z1 x0 x1
    rw [ho8.len] at hl8
    obtain ⟨kg0a, kg0b⟩ := box1c w8 (.int .i64 ((meetV z0 x0 z1 x1).1.1)) (.slice p8 n8' c8) 28
    have hbxg0 := boxed w8 (.cells #[.int .i64 ((meetV z0 x0 z1 x1).1.1), .slice p8 n8' c8] 28)
    have hsxg0 : w8.heap.size + 1 ≤ (w8.alloc (.cells #[.int .i64 ((meetV z0 x0 z1 x1).1.1), .slice p8 n8' c8] 28)).heap.size := by simp
    replace ho5 := ho5.below hbxg0
    replace ho6 := ho6.below hbxg0
    replace ho7 := ho7.below hbxg0
    replace ho8 := ho8.below hbxg0
    replace k0 := Below.cells hbxg0 k0
    replace k1 := Below.cells hbxg0 k1
    replace k2 := Below.cells hbxg0 k2
    replace k3 := Below.cells hbxg0 k3
    replace kw0a := Below.cells hbxg0 kw0a
    replace kw0b := Below.cells hbxg0 kw0b
    replace kx0a := Below.cells hbxg0 kx0a
    replace kx0b := Below.cells hbxg0 kx0b
    replace kx1a := Below.cells hbxg0 kx1a
    replace kx1b := Below.cells hbxg0 kx1b
    replace hT := Below.step hT hbxg0
    go_wp2_with fail
    generalize w8.alloc (.cells #[.int .i64 ((meetV z0 x0 z1 x1).1.1), .slice p8 n8' c8] 28) = Wg0 at *
    refine (eqRegion_self _ _ _ _ _ _ _ _ _ ho8.rd ho5.rd (by omega) (by omega)).mono ?_
    rintro e w9 ⟨rfl, hb9⟩
    have hsw9 := hb9.size
    replace ho5 := ho5.below hb9
    replace ho6 := ho6.below hb9
    replace ho7 := ho7.below hb9
    replace ho8 := ho8.below hb9
    replace k0 := Below.cells hb9 k0
    replace k1 := Below.cells hb9 k1
    replace k2 := Below.cells hb9 k2
    replace k3 := Below.cells hb9 k3
    replace kw0a := Below.cells hb9 kw0a
    replace kw0b := Below.cells hb9 kw0b
    replace kx0a := Below.cells hb9 kx0a
    replace kx0b := Below.cells hb9 kx0b
    replace kx1a := Below.cells hb9 kx1a
    replace kx1b := Below.cells hb9 kx1b
    replace kg0a := Below.cells hb9 kg0a
    replace kg0b := Below.cells hb9 kg0b
    replace hT := Below.step hT hb9
    go_wp2_with fail
    have hbd9 := drewBelow w9
    have hsd9 := hbd9.size
    replace ho5 := ho5.below hbd9
    replace ho6 := ho6.below hbd9
    replace ho7 := ho7.below hbd9
    replace ho8 := ho8.below hbd9
    replace k0 := Below.cells hbd9 k0
    replace k1 := Below.cells hbd9 k1
    replace k2 := Below.cells hbd9 k2
    replace k3 := Below.cells hbd9 k3
    replace kw0a := Below.cells hbd9 kw0a
    replace kw0b := Below.cells hbd9 kw0b
    replace kx0a := Below.cells hbd9 kx0a
    replace kx0b := Below.cells hbd9 kx0b
    replace kx1a := Below.cells hbd9 kx1a
    replace kx1b := Below.cells hbd9 kx1b
    replace kg0a := Below.cells hbd9 kg0a
    replace kg0b := Below.cells hbd9 kg0b
    replace hT := Below.step hT hbd9
    go_region_held3 (fun w' => w'.cell? ⟨w.heap.size, 0, none⟩ = some (.int .i64 z0) ∧ w'.cell? ⟨w.heap.size, 1, none⟩ = some (.slice q0 n0 c0) ∧ w'.cell? ⟨w.heap.size + 1, 0, none⟩ = some (.int .i64 z1) ∧ w'.cell? ⟨w.heap.size + 1, 1, none⟩ = some (.slice q1 n1 c1) ∧ w'.cell? ⟨g5, 0, none⟩ = some (.int .i64 ((meetV z0 x0 z1 x1).1.1)) ∧ w'.cell? ⟨g5, 1, none⟩ = some (.slice p5 n5' c5) ∧ w'.cell? ⟨w6.heap.size, 0, none⟩ = some (.int .i64 z0) ∧ w'.cell? ⟨w6.heap.size, 1, none⟩ = some (.slice p6 n0 c6) ∧ w'.cell? ⟨w7.heap.size, 0, none⟩ = some (.int .i64 z1) ∧ w'.cell? ⟨w7.heap.size, 1, none⟩ = some (.slice p7 n1 c7) ∧ w'.cell? ⟨w8.heap.size, 0, none⟩ = some (.int .i64 ((meetV z0 x0 z1 x1).1.1)) ∧ w'.cell? ⟨w8.heap.size, 1, none⟩ = some (.slice p8 n8' c8)) (exact ⟨k0, k1, k2, k3, kw0a, kw0b, kx0a, kx0b, kx1a, kx1b, kg0a, kg0b⟩) (first | (go_at_call 8; (with_reducible refine (toRegion_any _ _ _ _ _ _ (fr0.below hT) (by omega) (by omega)).mono ?_); rintro e w10 ⟨p10, c10, rfl, ho10, hb10⟩; have hsw10 := hb10.size; replace ho5 := ho5.below hb10; replace ho6 := ho6.below hb10; replace ho7 := ho7.below hb10; replace ho8 := ho8.below hb10; replace k0 := Below.cells hb10 k0; replace k1 := Below.cells hb10 k1; replace k2 := Below.cells hb10 k2; replace k3 := Below.cells hb10 k3; replace kw0a := Below.cells hb10 kw0a; replace kw0b := Below.cells hb10 kw0b; replace kx0a := Below.cells hb10 kx0a; replace kx0b := Below.cells hb10 kx0b; replace kx1a := Below.cells hb10 kx1a; replace kx1b := Below.cells hb10 kx1b; replace kg0a := Below.cells hb10 kg0a; replace kg0b := Below.cells hb10 kg0b; replace hT := Below.step hT hb10) | (go_at_call 10; (with_reducible refine (eqRegion_self _ _ _ _ _ _ _ _ _ ho6.rd ho10.rd (by omega) (by omega)).mono ?_); rintro e w11 ⟨rfl, hb11⟩; have hsw11 := hb11.size; replace ho5 := ho5.below hb11; replace ho6 := ho6.below hb11; replace ho7 := ho7.below hb11; replace ho8 := ho8.below hb11; replace ho10 := ho10.below hb11; replace k0 := Below.cells hb11 k0; replace k1 := Below.cells hb11 k1; replace k2 := Below.cells hb11 k2; replace k3 := Below.cells hb11 k3; replace kw0a := Below.cells hb11 kw0a; replace kw0b := Below.cells hb11 kw0b; replace kx0a := Below.cells hb11 kx0a; replace kx0b := Below.cells hb11 kx0b; replace kx1a := Below.cells hb11 kx1a; replace kx1b := Below.cells hb11 kx1b; replace kg0a := Below.cells hb11 kg0a; replace kg0b := Below.cells hb11 kg0b; replace hT := Below.step hT hb11))
    go_wp2_with fail
    have hbd11 := drewBelow w11
    have hsd11 := hbd11.size
    replace ho5 := ho5.below hbd11
    replace ho6 := ho6.below hbd11
    replace ho7 := ho7.below hbd11
    replace ho8 := ho8.below hbd11
    replace k0 := Below.cells hbd11 k0
    replace k1 := Below.cells hbd11 k1
    replace k2 := Below.cells hbd11 k2
    replace k3 := Below.cells hbd11 k3
    replace kw0a := Below.cells hbd11 kw0a
    replace kw0b := Below.cells hbd11 kw0b
    replace kx0a := Below.cells hbd11 kx0a
    replace kx0b := Below.cells hbd11 kx0b
    replace kx1a := Below.cells hbd11 kx1a
    replace kx1b := Below.cells hbd11 kx1b
    replace kg0a := Below.cells hbd11 kg0a
    replace kg0b := Below.cells hbd11 kg0b
    replace hT := Below.step hT hbd11
    go_region_held3 (fun w' => w'.cell? ⟨w.heap.size, 0, none⟩ = some (.int .i64 z0) ∧ w'.cell? ⟨w.heap.size, 1, none⟩ = some (.slice q0 n0 c0) ∧ w'.cell? ⟨w.heap.size + 1, 0, none⟩ = some (.int .i64 z1) ∧ w'.cell? ⟨w.heap.size + 1, 1, none⟩ = some (.slice q1 n1 c1) ∧ w'.cell? ⟨g5, 0, none⟩ = some (.int .i64 ((meetV z0 x0 z1 x1).1.1)) ∧ w'.cell? ⟨g5, 1, none⟩ = some (.slice p5 n5' c5) ∧ w'.cell? ⟨w6.heap.size, 0, none⟩ = some (.int .i64 z0) ∧ w'.cell? ⟨w6.heap.size, 1, none⟩ = some (.slice p6 n0 c6) ∧ w'.cell? ⟨w7.heap.size, 0, none⟩ = some (.int .i64 z1) ∧ w'.cell? ⟨w7.heap.size, 1, none⟩ = some (.slice p7 n1 c7) ∧ w'.cell? ⟨w8.heap.size, 0, none⟩ = some (.int .i64 ((meetV z0 x0 z1 x1).1.1)) ∧ w'.cell? ⟨w8.heap.size, 1, none⟩ = some (.slice p8 n8' c8)) (exact ⟨k0, k1, k2, k3, kw0a, kw0b, kx0a, kx0b, kx1a, kx1b, kg0a, kg0b⟩) (first | (go_at_call 8; (with_reducible refine (toRegion_any _ _ _ _ _ _ (fr1.below hT) (by omega) (by omega)).mono ?_); rintro e w12 ⟨p12, c12, rfl, ho12, hb12⟩; have hsw12 := hb12.size; replace ho5 := ho5.below hb12; replace ho6 := ho6.below hb12; replace ho7 := ho7.below hb12; replace ho8 := ho8.below hb12; replace k0 := Below.cells hb12 k0; replace k1 := Below.cells hb12 k1; replace k2 := Below.cells hb12 k2; replace k3 := Below.cells hb12 k3; replace kw0a := Below.cells hb12 kw0a; replace kw0b := Below.cells hb12 kw0b; replace kx0a := Below.cells hb12 kx0a; replace kx0b := Below.cells hb12 kx0b; replace kx1a := Below.cells hb12 kx1a; replace kx1b := Below.cells hb12 kx1b; replace kg0a := Below.cells hb12 kg0a; replace kg0b := Below.cells hb12 kg0b; replace hT := Below.step hT hb12) | (go_at_call 10; (with_reducible refine (eqRegion_self _ _ _ _ _ _ _ _ _ ho7.rd ho12.rd (by omega) (by omega)).mono ?_); rintro e w13 ⟨rfl, hb13⟩; have hsw13 := hb13.size; replace ho5 := ho5.below hb13; replace ho6 := ho6.below hb13; replace ho7 := ho7.below hb13; replace ho8 := ho8.below hb13; replace ho12 := ho12.below hb13; replace k0 := Below.cells hb13 k0; replace k1 := Below.cells hb13 k1; replace k2 := Below.cells hb13 k2; replace k3 := Below.cells hb13 k3; replace kw0a := Below.cells hb13 kw0a; replace kw0b := Below.cells hb13 kw0b; replace kx0a := Below.cells hb13 kx0a; replace kx0b := Below.cells hb13 kx0b; replace kx1a := Below.cells hb13 kx1a; replace kx1b := Below.cells hb13 kx1b; replace kg0a := Below.cells hb13 kg0a; replace kg0b := Below.cells hb13 kg0b; replace hT := Below.step hT hb13))
    go_wp2_with fail
    refine (markRegion_any _ _ _ _ _ _ _ _ _ ho6 (by omega) (by omega) (by omega)).mono ?_
    rintro e w14 ⟨rfl, hm14, hb14⟩
    have hsw14 := hb14.size
    replace ho5 := ho5.within hb14 (by omega)
    replace ho7 := ho7.within hb14 (by omega)
    replace ho8 := ho8.within hb14 (by omega)
    replace k0 := Within.cells2 hb14 k0 (by dsimp only; omega)
    replace k1 := Within.cells2 hb14 k1 (by dsimp only; omega)
    replace k2 := Within.cells2 hb14 k2 (by dsimp only; omega)
    replace k3 := Within.cells2 hb14 k3 (by dsimp only; omega)
    replace kw0a := Within.cells2 hb14 kw0a (by dsimp only; omega)
    replace kw0b := Within.cells2 hb14 kw0b (by dsimp only; omega)
    replace kx0a := Within.cells2 hb14 kx0a (by dsimp only; omega)
    replace kx0b := Within.cells2 hb14 kx0b (by dsimp only; omega)
    replace kx1a := Within.cells2 hb14 kx1a (by dsimp only; omega)
    replace kx1b := Within.cells2 hb14 kx1b (by dsimp only; omega)
    replace kg0a := Within.cells2 hb14 kg0a (by dsimp only; omega)
    replace kg0b := Within.cells2 hb14 kg0b (by dsimp only; omega)
    replace hT := Below.mark hT hb14 (by omega)
    clear ho6
    go_wp2_with fail
    refine (markRegion_any _ _ _ _ _ _ _ _ _ ho7 (by omega) (by omega) (by omega)).mono ?_
    rintro e w15 ⟨rfl, hm15, hb15⟩
    have hsw15 := hb15.size
    replace ho5 := ho5.within hb15 (by omega)
    replace hm14 := hm14.within hb15 (by omega)
    replace ho8 := ho8.within hb15 (by omega)
    replace k0 := Within.cells2 hb15 k0 (by dsimp only; omega)
    replace k1 := Within.cells2 hb15 k1 (by dsimp only; omega)
    replace k2 := Within.cells2 hb15 k2 (by dsimp only; omega)
    replace k3 := Within.cells2 hb15 k3 (by dsimp only; omega)
    replace kw0a := Within.cells2 hb15 kw0a (by dsimp only; omega)
    replace kw0b := Within.cells2 hb15 kw0b (by dsimp only; omega)
    replace kx0a := Within.cells2 hb15 kx0a (by dsimp only; omega)
    replace kx0b := Within.cells2 hb15 kx0b (by dsimp only; omega)
    replace kx1a := Within.cells2 hb15 kx1a (by dsimp only; omega)
    replace kx1b := Within.cells2 hb15 kx1b (by dsimp only; omega)
    replace kg0a := Within.cells2 hb15 kg0a (by dsimp only; omega)
    replace kg0b := Within.cells2 hb15 kg0b (by dsimp only; omega)
    replace hT := Below.mark hT hb15 (by omega)
    clear ho7
    go_wp2_with fail
    refine (eqRegion_self _ _ _ _ _ _ _ _ _ ho8.rd ho5.rd (by omega) (by omega)).mono ?_
    rintro e w16 ⟨rfl, hb16⟩
    have hsw16 := hb16.size
    replace ho5 := ho5.below hb16
    replace hm14 := hm14.below hb16
    replace hm15 := hm15.below hb16
    replace ho8 := ho8.below hb16
    replace k0 := Below.cells hb16 k0
    replace k1 := Below.cells hb16 k1
    replace k2 := Below.cells hb16 k2
    replace k3 := Below.cells hb16 k3
    replace kw0a := Below.cells hb16 kw0a
    replace kw0b := Below.cells hb16 kw0b
    replace kx0a := Below.cells hb16 kx0a
    replace kx0b := Below.cells hb16 kx0b
    replace kx1a := Below.cells hb16 kx1a
    replace kx1b := Below.cells hb16 kx1b
    replace kg0a := Below.cells hb16 kg0a
    replace kg0b := Below.cells hb16 kg0b
    replace hT := Below.step hT hb16
    go_wp2_with fail
    refine (markRegion_any _ _ _ _ _ _ _ _ _ ho8 (by omega) (by omega) (by omega)).mono ?_
    rintro e w17 ⟨rfl, hm17, hb17⟩
    have hsw17 := hb17.size
    replace ho5 := ho5.within hb17 (by omega)
    replace hm14 := hm14.within hb17 (by omega)
    replace hm15 := hm15.within hb17 (by omega)
    replace k0 := Within.cells2 hb17 k0 (by dsimp only; omega)
    replace k1 := Within.cells2 hb17 k1 (by dsimp only; omega)
    replace k2 := Within.cells2 hb17 k2 (by dsimp only; omega)
    replace k3 := Within.cells2 hb17 k3 (by dsimp only; omega)
    replace kw0a := Within.cells2 hb17 kw0a (by dsimp only; omega)
    replace kw0b := Within.cells2 hb17 kw0b (by dsimp only; omega)
    replace kx0a := Within.cells2 hb17 kx0a (by dsimp only; omega)
    replace kx0b := Within.cells2 hb17 kx0b (by dsimp only; omega)
    replace kx1a := Within.cells2 hb17 kx1a (by dsimp only; omega)
    replace kx1b := Within.cells2 hb17 kx1b (by dsimp only; omega)
    replace kg0a := Within.cells2 hb17 kg0a (by dsimp only; omega)
    replace kg0b := Within.cells2 hb17 kg0b (by dsimp only; omega)
    replace hT := Below.mark hT hb17 (by omega)
    clear ho8
    go_wp2_with fail
    refine (heldRegion_any _ _ _ _ _ _ _ hm17.rd (by omega) (by omega) (by omega)).mono ?_
    rintro e w18 ⟨rfl, hb18⟩
    have hsw18 := hb18.size
    replace ho5 := ho5.below hb18
    replace hm14 := hm14.below hb18
    replace hm15 := hm15.below hb18
    replace hm17 := hm17.below hb18
    replace k0 := Below.cells hb18 k0
    replace k1 := Below.cells hb18 k1
    replace k2 := Below.cells hb18 k2
    replace k3 := Below.cells hb18 k3
    replace kw0a := Below.cells hb18 kw0a
    replace kw0b := Below.cells hb18 kw0b
    replace kx0a := Below.cells hb18 kx0a
    replace kx0b := Below.cells hb18 kx0b
    replace kx1a := Below.cells hb18 kx1a
    replace kx1b := Below.cells hb18 kx1b
    replace kg0a := Below.cells hb18 kg0a
    replace kg0b := Below.cells hb18 kg0b
    replace hT := Below.step hT hb18
    have fA19 := fr0.below hT
    have fB19 := fr1.below hT
    have hD := drewBelow w18
    have hsD := hD.size
    have hsT := hT.size
    go_upto_region 31 with fail
    go_cut [15, 16] (fun b v wx => ∃ (g : Nat) (p : Option Addr) (n c : Nat), b = .pointer (some ⟨g, 0, none⟩) ∧ v = .bool (meetV z0 x0 z1 x1).2 ∧ w18.heap.size ≤ g ∧ Box2 wx g (.int .i64 (meetV z0 x0 z1 x1).1.1) (.slice p n c) 28 ∧ OwnPM 56 wx w18.heap.size wx.heap.size p n c (meetV z0 x0 z1 x1).1.2 ∧ Below w18.heap.size w18 wx)
    case first =>
      have dk0 := Below.cells hD k0
      have dk1 := Below.cells hD k1
      have dk2 := Below.cells hD k2
      have dk3 := Below.cells hD k3
      go_region_held3 (fun w' => w'.cell? ⟨w.heap.size, 0, none⟩ = some (.int .i64 z0) ∧ w'.cell? ⟨w.heap.size, 1, none⟩ = some (.slice q0 n0 c0) ∧ w'.cell? ⟨w.heap.size + 1, 0, none⟩ = some (.int .i64 z1) ∧ w'.cell? ⟨w.heap.size + 1, 1, none⟩ = some (.slice q1 n1 c1)) (first | exact ⟨dk0, dk1, dk2, dk3⟩ | exact ⟨Below.cells (boxed _ _) dk0, Below.cells (boxed _ _) dk1, Below.cells (boxed _ _) dk2, Below.cells (boxed _ _) dk3⟩ | exact ⟨cell_other (cell_other dk0 (by dsimp only; (try simp at hs19 hs20 hs21 hsD); (try simp); try omega)) (by dsimp only; (try simp at hs19 hs20 hs21 hsD); (try simp); try omega), cell_other (cell_other dk1 (by dsimp only; (try simp at hs19 hs20 hs21 hsD); (try simp); try omega)) (by dsimp only; (try simp at hs19 hs20 hs21 hsD); (try simp); try omega), cell_other (cell_other dk2 (by dsimp only; (try simp at hs19 hs20 hs21 hsD); (try simp); try omega)) (by dsimp only; (try simp at hs19 hs20 hs21 hsD); (try simp); try omega), cell_other (cell_other dk3 (by dsimp only; (try simp at hs19 hs20 hs21 hsD); (try simp); try omega)) (by dsimp only; (try simp at hs19 hs20 hs21 hsD); (try simp); try omega)⟩) (first | (go_at_call 8; (with_reducible refine (toRegion_any _ _ _ _ _ _ (fA19.below hD) (by omega) (by omega)).mono ?_); rintro e w19 ⟨p19, c19, rfl, ho19, hb19⟩; have hs19 := hb19.size; replace hD := Below.step hD hb19; replace dk0 := Below.cells hb19 dk0; replace dk1 := Below.cells hb19 dk1; replace dk2 := Below.cells hb19 dk2; replace dk3 := Below.cells hb19 dk3; (first | replace kz := kz.below hb19 | skip)) | (go_at_call 8; (with_reducible refine (toRegion_any _ _ _ _ _ _ (fA19.below (boxed _ _).drew) (by omega) (by omega)).mono ?_); rintro e w19 ⟨p19, c19, rfl, ho19, hb19⟩; have hs19 := hb19.size; replace hD := Below.step (boxed _ _).drew hb19; replace dk0 := Below.cells hb19 (Below.cells (boxed _ _).drew k0); replace dk1 := Below.cells hb19 (Below.cells (boxed _ _).drew k1); replace dk2 := Below.cells hb19 (Below.cells (boxed _ _).drew k2); replace dk3 := Below.cells hb19 (Below.cells (boxed _ _).drew k3); have kz : Box2 w19 w18.heap.size (.int .i64 0) (.slice none 0 0) 28 := (Box2.new w18 _ _ _).drew.below hb19) | (go_at_call 8; (with_reducible refine (toRegion_any _ _ _ _ _ _ (fB19.below hD) (by omega) (by omega)).mono ?_); rintro e w20 ⟨p20, c20, rfl, ho20, hb20⟩; have hs20 := hb20.size; replace hD := Below.step hD hb20; replace dk0 := Below.cells hb20 dk0; replace dk1 := Below.cells hb20 dk1; replace dk2 := Below.cells hb20 dk2; replace dk3 := Below.cells hb20 dk3; replace ho19 := ho19.below hb20; (first | replace kz := kz.below hb20 | skip)) | (go_at_call 8; (with_reducible refine (toRegion_any _ _ _ _ _ _ (fB19.below (Below.step hD (boxed _ _))) (by omega) (by omega)).mono ?_); rintro e w20 ⟨p20, c20, rfl, ho20, hb20⟩; have hs20 := hb20.size; replace hD := Below.step (Below.step hD (boxed _ _)) hb20; replace dk0 := Below.cells hb20 (Below.cells (boxed _ _) dk0); replace dk1 := Below.cells hb20 (Below.cells (boxed _ _) dk1); replace dk2 := Below.cells hb20 (Below.cells (boxed _ _) dk2); replace dk3 := Below.cells hb20 (Below.cells (boxed _ _) dk3); replace ho19 := (ho19.below (boxed _ _)).below hb20; have kz : Box2 w20 w19.heap.size (.int .i64 0) (.slice none 0 0) 28 := (Box2.new w19 _ _ _).below hb20) | (go_at_call 9; (with_reducible refine (implMeet_any _ _ _ _ _ _ _ _ _ _ _ (by omega) (by omega) ho19.rd ho20.rd).mono ?_); rintro e w21 ⟨p21, n21', c21, rfl, ho21, hb21⟩; have hs21 := hb21.size; replace hD := Below.step hD hb21; replace dk0 := Below.cells hb21 dk0; replace dk1 := Below.cells hb21 dk1; replace dk2 := Below.cells hb21 dk2; replace dk3 := Below.cells hb21 dk3; (first | (replace kz := kz.below hb21; have f0 := kz.fr 0; have f1 := kz.fr 1; have e0 := kz.c0; have e1 := kz.c1) | skip)) | (go_at_call 9; (with_reducible refine (implMeet_any _ _ _ _ _ _ _ _ _ _ _ (by omega) (by omega) ((ho19.below (boxed _ _)).rd) ((ho20.below (boxed _ _)).rd)).mono ?_); rintro e w21 ⟨p21, n21', c21, rfl, ho21, hb21⟩; have hs21 := hb21.size; replace hD := Below.step (Below.step hD (boxed _ _)) hb21; replace dk0 := Below.cells hb21 (Below.cells (boxed _ _) dk0); replace dk1 := Below.cells hb21 (Below.cells (boxed _ _) dk1); replace dk2 := Below.cells hb21 (Below.cells (boxed _ _) dk2); replace dk3 := Below.cells hb21 (Below.cells (boxed _ _) dk3); have kz : Box2 w21 w20.heap.size (.int .i64 0) (.slice none 0 0) 28 := (Box2.new w20 _ _ _).below hb21; have f0 := kz.fr 0; have f1 := kz.fr 1; have e0 := kz.c0; have e1 := kz.c1))
      all_goals
        go_wp2_with fail
        go_meet
        first
          | exact ⟨_, _, _, _, rfl, rfl, (by (try simp at hs19 hs20 hs21 hsD); (try simp); try omega), Box2.new _ _ _ _, (ho21.below (boxed _ _)).up.widen (by (try simp at hs19 hs20 hs21 hsD); (try simp); try omega) (Nat.le_refl _), Below.step hD (boxed _ _)⟩
          | exact ⟨_, _, _, _, rfl, rfl, (by (try simp at hs19 hs20 hs21 hsD); (try simp); try omega), (kz.set0 _).set1 _, ((ho21.setBelow (a := ⟨_, _, none⟩) (by dsimp only; (try simp at hs19 hs20 hs21 hsD); (try simp); try omega) _).setBelow (a := ⟨_, _, none⟩) (by dsimp only; (try simp at hs19 hs20 hs21 hsD); (try simp); try omega) _).up.widen (by (try simp at hs19 hs20 hs21 hsD); (try simp); try omega) (Nat.le_refl _), (hD.setCell (p := ⟨_, _, none⟩) (by dsimp only; (try simp at hs19 hs20 hs21 hsD); (try simp); try omega) _).setCell (p := ⟨_, _, none⟩) (by dsimp only; (try simp at hs19 hs20 hs21 hsD); (try simp); try omega) _⟩
    case rest =>
      generalize wc = w21 at *
      obtain ⟨g21, p21, n21', c21, rfl, rfl, hg21, kx21, ho21, hb21⟩ := hcut
      clear hD hsD hsT fA19 fB19
      have hsw21 := hb21.size
      replace ho5 := ho5.below hb21
      replace hm14 := hm14.below hb21
      replace hm15 := hm15.below hb21
      replace hm17 := hm17.below hb21
      replace k0 := Below.cells hb21 k0
      replace k1 := Below.cells hb21 k1
      replace k2 := Below.cells hb21 k2
      replace k3 := Below.cells hb21 k3
      replace kw0a := Below.cells hb21 kw0a
      replace kw0b := Below.cells hb21 kw0b
      replace kx0a := Below.cells hb21 kx0a
      replace kx0b := Below.cells hb21 kx0b
      replace kx1a := Below.cells hb21 kx1a
      replace kx1b := Below.cells hb21 kx1b
      replace kg0a := Below.cells hb21 kg0a
      replace kg0b := Below.cells hb21 kg0b
      replace hT := Below.step hT hb21
      have kh0a := kx21.c0
      have kh0b := kx21.c1
      have hglt21 := kx21.lt
      obtain ⟨hl21, ht21⟩ := meetV_len z0 z1 x0 x1
      rw [ho21.len] at hl21
      go_wp2_with fail
      refine (eqRegion_self _ _ _ _ _ _ _ _ _ ho21.rd ho5.rd (by omega) (by omega)).mono ?_
      rintro e w22 ⟨rfl, hb22⟩
      have hsw22 := hb22.size
      replace ho5 := ho5.below hb22
      replace hm14 := hm14.below hb22
      replace hm15 := hm15.below hb22
      replace hm17 := hm17.below hb22
      replace ho21 := ho21.below hb22
      replace k0 := Below.cells hb22 k0
      replace k1 := Below.cells hb22 k1
      replace k2 := Below.cells hb22 k2
      replace k3 := Below.cells hb22 k3
      replace kw0a := Below.cells hb22 kw0a
      replace kw0b := Below.cells hb22 kw0b
      replace kx0a := Below.cells hb22 kx0a
      replace kx0b := Below.cells hb22 kx0b
      replace kx1a := Below.cells hb22 kx1a
      replace kx1b := Below.cells hb22 kx1b
      replace kg0a := Below.cells hb22 kg0a
      replace kg0b := Below.cells hb22 kg0b
      replace kh0a := Below.cells hb22 kh0a
      replace kh0b := Below.cells hb22 kh0b
      replace hT := Below.step hT hb22
      go_wp2_with fail
      refine (heldRegion_any _ _ _ _ _ _ _ hm17.rd (by omega) (by omega) (by omega)).mono ?_
      rintro e w23 ⟨rfl, hb23⟩
      have hsw23 := hb23.size
      replace ho5 := ho5.below hb23
      replace hm14 := hm14.below hb23
      replace hm15 := hm15.below hb23
      replace hm17 := hm17.below hb23
      replace ho21 := ho21.below hb23
      replace k0 := Below.cells hb23 k0
      replace k1 := Below.cells hb23 k1
      replace k2 := Below.cells hb23 k2
      replace k3 := Below.cells hb23 k3
      replace kw0a := Below.cells hb23 kw0a
      replace kw0b := Below.cells hb23 kw0b
      replace kx0a := Below.cells hb23 kx0a
      replace kx0b := Below.cells hb23 kx0b
      replace kx1a := Below.cells hb23 kx1a
      replace kx1b := Below.cells hb23 kx1b
      replace kg0a := Below.cells hb23 kg0a
      replace kg0b := Below.cells hb23 kg0b
      replace kh0a := Below.cells hb23 kh0a
      replace kh0b := Below.cells hb23 kh0b
      replace hT := Below.step hT hb23
      go_wp2_with fail
      go_ret
      exact ⟨rfl, hT⟩

end Go.Proofs.Ytdchckljggjaaaa
