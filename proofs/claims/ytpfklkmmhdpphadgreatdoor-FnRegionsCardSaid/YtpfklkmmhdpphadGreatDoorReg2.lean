/- Contracts of spec.IsRegion and of both HasPoint. Conditions: sizes. -/
import Derived.Test.YtpfklkmmhdpphadGreatDoorReg
namespace Go.Proofs.YtpfklkmmhdpphadGreatDoor
open Go.RowKit
set_option linter.unusedVariables false
set_option linter.unusedSimpArgs false
set_option maxRecDepth 100000

theorem specIsRegion_any (z : Int) (p : Option Addr) (n c : Nat) (hs : List Pr) (w : World) (hn : n ≤ 9223372036854775807) (hx : Prs w p n hs) :
    Calls Tryz.prog 24 #[.agg #[.int .i64 z, .slice p n c]] w (Ret (.bool (isReg z hs)) w) := by
  have hl := Lib.hid hx.len
  obtain ⟨k0, k1⟩ := box1c w (.int .i64 z) (.slice p n c) 26
  have hT := boxed w (.cells #[.int .i64 z, .slice p n c] 26)
  have hx1 := hx.below hT
  have hsz : w.heap.size < (w.alloc (.cells #[.int .i64 z, .slice p n c] 26)).heap.size := by simp
  go_enter Tryz.func24, Tryz.ntmps24
  go_wp2
  generalize w.alloc (.cells #[.int .i64 z, .slice p n c] 26) = W at *
  go_loopw [3] (fun i wr => ∃ k : Nat, k ≤ n ∧ i = .int .i64 k ∧ Hid (allHalf z (hs.take k) = true) ∧ Below W.heap.size W wr) (fun i _ => n - (intOf i).toNat)
  case atStart => exact ⟨0, Nat.zero_le _, rfl, rfl, Below.refl _ _⟩
  case round =>
    obtain ⟨k, hk, rfl, hall, hb⟩ := hrel
    have k0 := (hb.cell (p := ⟨w.heap.size, 0, none⟩) hsz).trans k0
    have k1 := (hb.cell (p := ⟨w.heap.size, 1, none⟩) hsz).trans k1
    by_cases hlt : k < n
    · obtain ⟨b, o, q, m, d, rfl, hc, hcb, hmd, hd, hi⟩ := (hx1.below hb).cell k hlt
      have hl' : k < hs.length := by rw [hl.out]; exact hlt
      cases hr : isHalf z (nrm hs k) (bnd hs k)
      all_goals
        have Hr := Lib.hid hr
        clear hr
        go_wp2
        go_region_held3 (fun w' => w'.cell? ⟨w.heap.size, 0, none⟩ = some (.int .i64 z) ∧ w'.cell? ⟨w.heap.size, 1, none⟩ = some (.slice (some ⟨b, o, none⟩) n c) ∧ w'.cell? ⟨b, o + k * 2, none⟩ = some (.slice q m d) ∧ w'.cell? ⟨b, o + k * 2 + 1, none⟩ = some (.int .i64 (bnd hs k))) (exact ⟨k0, k1, hc, hcb⟩) (first | (go_at_call 20; (with_reducible refine (specIsHalf_any _ _ _ _ _ _ _ (by omega) hi.drew).mono ?_); rw [Hr.out]; rintro e w1 ⟨rfl, hb1⟩; replace k0 := Below.cells hb1 k0; replace k1 := Below.cells hb1 k1; replace hc := Below.cells hb1 hc; replace hcb := Below.cells hb1 hcb))
      · have hb2 := Below.step hb (Below.step (drewBelow _) hb1)
        go_wp2
        go_ret
        exact ⟨ret_bool (by rw [isReg, allHalf_stop hl' Hr.out]; simp), Below.step hT hb2⟩
      · have hb2 := Below.step hb (Below.step (drewBelow _) hb1)
        go_wp2
        go_roundw
        case rel => exact ⟨k + 1, by omega, by go_num, allHalf_step hl' hall.out Hr.out, hb2⟩
        case measure => simp [intOf]; omega
    · have hkn : k = hs.length := by have := hl.out; omega
      have hA := hall.out
      rw [hkn, List.take_length] at hA
      have HA := Lib.hid hA
      clear hA hall
      cases h1 : inR z 1 3
      · go_wp2_with (go_at_call 60; (with_reducible refine (l1In_any _ _ _ _).mono ?_); rintro e w' ⟨rfl, rfl⟩)
        go_ret
        exact ⟨ret_bool (by simp [isReg, h1]), Below.step hT hb⟩
      · by_cases h2 : n ≤ 8
        · have hd8 : decide ((n : Int) ≤ 8) = true := by simp; omega
          go_wp2_with (go_at_call 60; (with_reducible refine (l1In_any _ _ _ _).mono ?_); rintro e w' ⟨rfl, rfl⟩)
          go_ret
          exact ⟨ret_bool (by rw [isReg, h1, HA.out, hl.out]; simp [h2]), Below.step hT hb⟩
        · have hd8 : decide ((n : Int) ≤ 8) = false := by simp; omega
          go_wp2_with (go_at_call 60; (with_reducible refine (l1In_any _ _ _ _).mono ?_); rintro e w' ⟨rfl, rfl⟩)
          go_ret
          exact ⟨ret_bool (by rw [isReg, h1, HA.out, hl.out]; simp [h2]), Below.step hT hb⟩

end Go.Proofs.YtpfklkmmhdpphadGreatDoor
