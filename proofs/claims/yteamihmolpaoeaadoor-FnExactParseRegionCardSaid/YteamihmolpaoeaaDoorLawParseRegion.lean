/- The law FnExactParseRegion: the walk: for every input it returns true and writes nothing that was there. Conditions: none. -/
import Derived.Test.YteamihmolpaoeaaDoorPReg2
import Derived.Test.YteamihmolpaoeaaDoorLawKit
namespace Go.Proofs.YteamihmolpaoeaaDoor
open Go.RowKit
set_option linter.unusedVariables false
set_option linter.unusedSimpArgs false
set_option maxRecDepth 100000

theorem lawParseRegion_walk (s0 : List UInt8) (w : World) (fm0 : s0.length ≤ 9223372036854775807) (h_tab : TabW w) (h_err : ErrW w) (h_max : MaxW w) :
    Calls Tryd.prog 3 #[.string ⟨s0.toArray⟩] w fun e w' => e = .returned (.bool true) ∧ Below w.heap.size w w' := by
  have hsz0 : (⟨s0.toArray⟩ : ByteArray).size = s0.length := by simp [ByteArray.size]
  by_cases hbig0 : 1048576 < s0.length
  · go_enter Tryd.func3, Tryd.ntmps3
    go_wp2
    go_ret
    exact ⟨rfl, Below.refl _ _⟩
  go_enter Tryd.func3, Tryd.ntmps3
  go_wp2_with fail
  refine (specPReg_any _ _ (by omega)).mono ?_
  rintro e w1 ⟨p1, n1', c1, rfl, ho1, hb1⟩
  have hsw1 := hb1.size
  have hT := hb1
  obtain ⟨hl1, ht1⟩ := pregV_len s0
  rw [ho1.len] at hl1
  obtain ⟨kw0a, kw0b⟩ := box1c w1 (.int .i64 ((pregV s0).1.1)) (.slice p1 n1' c1) 24
  have hbxw0 := boxed w1 (.cells #[.int .i64 ((pregV s0).1.1), .slice p1 n1' c1] 24)
  have hsxw0 : w1.heap.size + 1 ≤ (w1.alloc (.cells #[.int .i64 ((pregV s0).1.1), .slice p1 n1' c1] 24)).heap.size := by simp
  replace ho1 := ho1.below hbxw0
  replace hT := Below.step hT hbxw0
  go_wp2_with fail
  generalize w1.alloc (.cells #[.int .i64 ((pregV s0).1.1), .slice p1 n1' c1] 24) = Ww0 at *
  refine (implPReg_any _ _ (by omega) (h_tab.below hT) (h_err.below hT) (h_max.below hT)).mono ?_
  rintro e w2 ⟨p2, n2', c2, rfl, ho2, hb2⟩
  have hsw2 := hb2.size
  replace ho1 := ho1.below hb2
  replace kw0a := Below.cells hb2 kw0a
  replace kw0b := Below.cells hb2 kw0b
  replace hT := Below.step hT hb2
  obtain ⟨hl2, ht2⟩ := pregV_len s0
  rw [ho2.len] at hl2
  obtain ⟨kg0a, kg0b⟩ := box1c w2 (.int .i64 ((pregV s0).1.1)) (.slice p2 n2' c2) 24
  have hbxg0 := boxed w2 (.cells #[.int .i64 ((pregV s0).1.1), .slice p2 n2' c2] 24)
  have hsxg0 : w2.heap.size + 1 ≤ (w2.alloc (.cells #[.int .i64 ((pregV s0).1.1), .slice p2 n2' c2] 24)).heap.size := by simp
  replace ho1 := ho1.below hbxg0
  replace ho2 := ho2.below hbxg0
  replace kw0a := Below.cells hbxg0 kw0a
  replace kw0b := Below.cells hbxg0 kw0b
  replace hT := Below.step hT hbxg0
  go_wp2_with fail
  generalize w2.alloc (.cells #[.int .i64 ((pregV s0).1.1), .slice p2 n2' c2] 24) = Wg0 at *
  refine (eqRegion_self _ _ _ _ _ _ _ _ _ ho2.rd ho1.rd (by omega) (by omega)).mono ?_
  rintro e w3 ⟨rfl, hb3⟩
  have hsw3 := hb3.size
  replace ho1 := ho1.below hb3
  replace ho2 := ho2.below hb3
  replace kw0a := Below.cells hb3 kw0a
  replace kw0b := Below.cells hb3 kw0b
  replace kg0a := Below.cells hb3 kg0a
  replace kg0b := Below.cells hb3 kg0b
  replace hT := Below.step hT hb3
  go_wp2_with fail
  refine (markRegion_any _ _ _ _ _ _ _ _ _ ho2 (by omega) (by omega) (by omega)).mono ?_
  rintro e w4 ⟨rfl, hm4, hb4⟩
  have hsw4 := hb4.size
  replace ho1 := ho1.within hb4 (by omega)
  replace kw0a := Within.cells2 hb4 kw0a (by dsimp only; omega)
  replace kw0b := Within.cells2 hb4 kw0b (by dsimp only; omega)
  replace kg0a := Within.cells2 hb4 kg0a (by dsimp only; omega)
  replace kg0b := Within.cells2 hb4 kg0b (by dsimp only; omega)
  replace hT := Below.mark hT hb4 (by omega)
  clear ho2
  go_wp2_with fail
  refine (heldRegion_any _ _ _ _ _ _ _ hm4.rd (by omega) (by omega) (by omega)).mono ?_
  rintro e w5 ⟨rfl, hb5⟩
  have hsw5 := hb5.size
  replace ho1 := ho1.below hb5
  replace hm4 := hm4.below hb5
  replace kw0a := Below.cells hb5 kw0a
  replace kw0b := Below.cells hb5 kw0b
  replace kg0a := Below.cells hb5 kg0a
  replace kg0b := Below.cells hb5 kg0b
  replace hT := Below.step hT hb5
  go_wp2_with fail
  refine (implPReg_any _ _ (by omega) (h_tab.below hT) (h_err.below hT) (h_max.below hT)).mono ?_
  rintro e w6 ⟨p6, n6', c6, rfl, ho6, hb6⟩
  have hsw6 := hb6.size
  replace ho1 := ho1.below hb6
  replace hm4 := hm4.below hb6
  replace kw0a := Below.cells hb6 kw0a
  replace kw0b := Below.cells hb6 kw0b
  replace kg0a := Below.cells hb6 kg0a
  replace kg0b := Below.cells hb6 kg0b
  replace hT := Below.step hT hb6
  obtain ⟨hl6, ht6⟩ := pregV_len s0
  rw [ho6.len] at hl6
  obtain ⟨kh0a, kh0b⟩ := box1c w6 (.int .i64 ((pregV s0).1.1)) (.slice p6 n6' c6) 24
  have hbxh0 := boxed w6 (.cells #[.int .i64 ((pregV s0).1.1), .slice p6 n6' c6] 24)
  have hsxh0 : w6.heap.size + 1 ≤ (w6.alloc (.cells #[.int .i64 ((pregV s0).1.1), .slice p6 n6' c6] 24)).heap.size := by simp
  replace ho1 := ho1.below hbxh0
  replace hm4 := hm4.below hbxh0
  replace ho6 := ho6.below hbxh0
  replace kw0a := Below.cells hbxh0 kw0a
  replace kw0b := Below.cells hbxh0 kw0b
  replace kg0a := Below.cells hbxh0 kg0a
  replace kg0b := Below.cells hbxh0 kg0b
  replace hT := Below.step hT hbxh0
  go_wp2_with fail
  generalize w6.alloc (.cells #[.int .i64 ((pregV s0).1.1), .slice p6 n6' c6] 24) = Wh0 at *
  refine (eqRegion_self _ _ _ _ _ _ _ _ _ ho6.rd ho1.rd (by omega) (by omega)).mono ?_
  rintro e w7 ⟨rfl, hb7⟩
  have hsw7 := hb7.size
  replace ho1 := ho1.below hb7
  replace hm4 := hm4.below hb7
  replace ho6 := ho6.below hb7
  replace kw0a := Below.cells hb7 kw0a
  replace kw0b := Below.cells hb7 kw0b
  replace kg0a := Below.cells hb7 kg0a
  replace kg0b := Below.cells hb7 kg0b
  replace kh0a := Below.cells hb7 kh0a
  replace kh0b := Below.cells hb7 kh0b
  replace hT := Below.step hT hb7
  go_wp2_with fail
  refine (heldRegion_any _ _ _ _ _ _ _ hm4.rd (by omega) (by omega) (by omega)).mono ?_
  rintro e w8 ⟨rfl, hb8⟩
  have hsw8 := hb8.size
  replace ho1 := ho1.below hb8
  replace hm4 := hm4.below hb8
  replace ho6 := ho6.below hb8
  replace kw0a := Below.cells hb8 kw0a
  replace kw0b := Below.cells hb8 kw0b
  replace kg0a := Below.cells hb8 kg0a
  replace kg0b := Below.cells hb8 kg0b
  replace kh0a := Below.cells hb8 kh0a
  replace kh0b := Below.cells hb8 kh0b
  replace hT := Below.step hT hb8
  go_wp2_with fail
  go_ret
  exact ⟨rfl, hT⟩

end Go.Proofs.YteamihmolpaoeaaDoor
