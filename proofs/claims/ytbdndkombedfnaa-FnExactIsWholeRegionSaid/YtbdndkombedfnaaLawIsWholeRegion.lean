/- The law FnExactIsWholeRegion: the walk: for every input it returns true and writes nothing that was there. Conditions: none. -/
import Derived.Test.YtbdndkombedfnaaVtxMC
import Derived.Test.YtbdndkombedfnaaRegKit2
namespace Go.Proofs.Ytbdndkombedfnaa
open Go.RowKit
set_option linter.unusedVariables false
set_option linter.unusedSimpArgs false
set_option maxRecDepth 100000

theorem lawIsWholeRegion_walk (z0 : Int) (q0 : Option Addr) (n0 c0 : Nat) (x0 : List Pr) (w : World) (fm0 : n0 ≤ 9223372036854775807) (fr0 : Prs w q0 n0 x0) (flo0 : -9223372036854775808 ≤ z0) (fhi0 : z0 ≤ 9223372036854775807) :
    Calls Try.prog 4 #[.agg #[.int .i64 z0, .slice q0 n0 c0]] w fun e w' => e = .returned (.bool true) ∧ Below w.heap.size w w' := by
  obtain ⟨k0, k1⟩ := box1c w (.int .i64 z0) (.slice q0 n0 c0) 24
  have hT := boxed w (.cells #[.int .i64 z0, .slice q0 n0 c0] 24)
  have hW0 : w.heap.size + 1 ≤ (w.alloc (.cells #[.int .i64 z0, .slice q0 n0 c0] 24)).heap.size := by simp
  by_cases hfit0 : ((n0 + totH x0 : Nat) : Int) ≤ 1048576
  rotate_left
  · go_enter Try.func4, Try.ntmps4
    go_wp2_with fail
    generalize (w.alloc (.cells #[.int .i64 z0, .slice q0 n0 c0] 24)) = W at *
    refine (szRegion_any _ _ _ _ _ _ _ fm0 (fr0.below hT) (by omega) (by omega)).mono ?_
    rw [leftOf_no (by omega)]
    rintro e w1 ⟨rfl, hb1⟩
    have hsw1 := hb1.size
    replace k0 := Below.cells hb1 k0
    replace k1 := Below.cells hb1 k1
    replace hT := Below.step hT hb1
    go_wp2
    go_ret
    exact ⟨rfl, hT⟩
  go_enter Try.func4, Try.ntmps4
  go_wp2_with fail
  generalize (w.alloc (.cells #[.int .i64 z0, .slice q0 n0 c0] 24)) = W at *
  refine (szRegion_any _ _ _ _ _ _ _ fm0 (fr0.below hT) (by omega) (by omega)).mono ?_
  rw [leftOf_yes (by omega)]
  rintro e w1 ⟨rfl, hb1⟩
  have hsw1 := hb1.size
  replace k0 := Below.cells hb1 k0
  replace k1 := Below.cells hb1 k1
  replace hT := Below.step hT hb1
  go_wp2_with fail
  refine (toRegion_any _ _ _ _ _ _ (fr0.below hT) (by omega) (by omega)).mono ?_
  rintro e w2 ⟨p2, c2, rfl, ho2, hb2⟩
  have hsw2 := hb2.size
  replace k0 := Below.cells hb2 k0
  replace k1 := Below.cells hb2 k1
  replace hT := Below.step hT hb2
  go_wp2_with fail
  refine (specWhole_any _ _ _ _ _ _ (by omega) ho2.rd).mono ?_
  rintro e w3 ⟨rfl, hb3⟩
  have hsw3 := hb3.size
  replace ho2 := ho2.below hb3
  replace k0 := Below.cells hb3 k0
  replace k1 := Below.cells hb3 k1
  replace hT := Below.step hT hb3
  go_wp2_with fail
  refine (toRegion_any _ _ _ _ _ _ (fr0.below hT) (by omega) (by omega)).mono ?_
  rintro e w4 ⟨p4, c4, rfl, ho4, hb4⟩
  have hsw4 := hb4.size
  replace k0 := Below.cells hb4 k0
  replace k1 := Below.cells hb4 k1
  replace hT := Below.step hT hb4
  obtain ⟨kx0a, kx0b⟩ := box1c w4 (.int .i64 z0) (.slice p4 n0 c4) 30
  have hbxx0 := boxed w4 (.cells #[.int .i64 z0, .slice p4 n0 c4] 30)
  have hsxx0 : w4.heap.size + 1 ≤ (w4.alloc (.cells #[.int .i64 z0, .slice p4 n0 c4] 30)).heap.size := by simp
  replace ho4 := ho4.below hbxx0
  replace k0 := Below.cells hbxx0 k0
  replace k1 := Below.cells hbxx0 k1
  replace hT := Below.step hT hbxx0
  go_wp2_with fail
  generalize w4.alloc (.cells #[.int .i64 z0, .slice p4 n0 c4] 30) = Wx0 at *
  refine (implWhole_any _ _ _ _ _ _ (by omega) ho4.rd).mono ?_
  rintro e w5 ⟨rfl, hb5⟩
  have hsw5 := hb5.size
  replace ho4 := ho4.below hb5
  replace k0 := Below.cells hb5 k0
  replace k1 := Below.cells hb5 k1
  replace kx0a := Below.cells hb5 kx0a
  replace kx0b := Below.cells hb5 kx0b
  replace hT := Below.step hT hb5
  go_wp2_with fail
  have hbd5 := drewBelow w5
  have hsd5 := hbd5.size
  replace ho4 := ho4.below hbd5
  replace k0 := Below.cells hbd5 k0
  replace k1 := Below.cells hbd5 k1
  replace kx0a := Below.cells hbd5 kx0a
  replace kx0b := Below.cells hbd5 kx0b
  replace hT := Below.step hT hbd5
  go_region_held3 (fun w' => w'.cell? ⟨w.heap.size, 0, none⟩ = some (.int .i64 z0) ∧ w'.cell? ⟨w.heap.size, 1, none⟩ = some (.slice q0 n0 c0) ∧ w'.cell? ⟨w4.heap.size, 0, none⟩ = some (.int .i64 z0) ∧ w'.cell? ⟨w4.heap.size, 1, none⟩ = some (.slice p4 n0 c4)) (exact ⟨k0, k1, kx0a, kx0b⟩) (first | (go_at_call 7; (with_reducible refine (toRegion_any _ _ _ _ _ _ (fr0.below hT) (by omega) (by omega)).mono ?_); rintro e w6 ⟨p6, c6, rfl, ho6, hb6⟩; have hsw6 := hb6.size; replace ho4 := ho4.below hb6; replace k0 := Below.cells hb6 k0; replace k1 := Below.cells hb6 k1; replace kx0a := Below.cells hb6 kx0a; replace kx0b := Below.cells hb6 kx0b; replace hT := Below.step hT hb6) | (go_at_call 10; (with_reducible refine (eqRegion_self _ _ _ _ _ _ _ _ _ ho4.rd ho6.rd (by omega) (by omega)).mono ?_); rintro e w7 ⟨rfl, hb7⟩; have hsw7 := hb7.size; replace ho4 := ho4.below hb7; replace ho6 := ho6.below hb7; replace k0 := Below.cells hb7 k0; replace k1 := Below.cells hb7 k1; replace kx0a := Below.cells hb7 kx0a; replace kx0b := Below.cells hb7 kx0b; replace hT := Below.step hT hb7))
  go_wp2_with fail
  go_ret
  exact ⟨rfl, hT⟩

end Go.Proofs.Ytbdndkombedfnaa
