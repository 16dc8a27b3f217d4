/- The great laws' own comparison of lists of fractions. Conditions: sizes. -/
import Derived.Test.YtpfklkmmhdpphaaGreatDoorSameI
import Derived.Test.YtpfklkmmhdpphaaGreatDoorHalves2
namespace Go.Proofs.YtpfklkmmhdpphaaGreatDoor
open Go.RowKit
set_option linter.unusedVariables false
set_option linter.unusedSimpArgs false
set_option maxRecDepth 100000

set_option maxHeartbeats 2000000 in
theorem sameRats_self (p q : Option Addr) (n c d : Nat) (hs : List Pr) (w : World) (hn : n ≤ 9223372036854775807) (hx : Prs w p n hs) (hy : Prs w q n hs) :
    Calls Tryz.prog 10 #[.slice p n c, .slice q n d] w fun e w' => e = .returned (.bool true) ∧ Below w.heap.size w w' := by
  go_enter Tryz.func10, Tryz.ntmps10
  go_wp2_with fail
  go_loopw [5] (fun i wr => ∃ k : Nat, k ≤ n ∧ i = .int .i64 k ∧ Below w.heap.size w wr) (fun i _ => n - (intOf i).toNat)
  case atStart => exact ⟨0, Nat.zero_le _, rfl, Below.refl _ _⟩
  case round =>
    obtain ⟨k, hk, rfl, hb⟩ := hrel
    by_cases hlt : k < n
    · obtain ⟨b, o, q1, m1, d1, rfl, hc, hca, hmd1, hd1, hi1⟩ := (hx.below hb).cell k hlt
      obtain ⟨b2, o2, q2, m2, d2, rfl, hc2, hca2, hmd2, hd2, hi2⟩ := (hy.below hb).cell k hlt
      obtain rfl : m1 = m2 := by rw [← hi1.len, hi2.len]
      have hdk : decide ((k : Int) < (n : Int)) = true := by simp; omega
      have hz : (0 : Int) ≤ (k : Int) := by omega
      have hz2 : (k : Int) < (n : Int) := by omega
      generalize wr = W at *
      have hi3 := hi1.drew
      have hi4 := hi2.drew
      generalize nrm hs k = xs at *
      generalize bnd hs k = a at *
      go_wp2_with fail
      go_region_held3 (fun w' => w'.cell? ⟨b, o + k * 2, none⟩ = some (.slice q1 m1 d1) ∧ w'.cell? ⟨b, o + k * 2 + 1, none⟩ = some (.int .i64 a) ∧ w'.cell? ⟨b2, o2 + k * 2, none⟩ = some (.slice q2 m1 d2) ∧ w'.cell? ⟨b2, o2 + k * 2 + 1, none⟩ = some (.int .i64 a)) (first | exact ⟨hc, hca, hc2, hca2⟩) (first | (go_simp; go_at_call 42; refine (sameInts_self _ _ _ _ _ _ _ (by omega) hi3 hi4).mono ?_; rintro e w' ⟨rfl, hb2⟩; replace hc := (hb2.cell (World.block_lt_of_cell? W.drew _ hc)).trans hc; replace hca := (hb2.cell (World.block_lt_of_cell? W.drew _ hca)).trans hca; replace hc2 := (hb2.cell (World.block_lt_of_cell? W.drew _ hc2)).trans hc2; replace hca2 := (hb2.cell (World.block_lt_of_cell? W.drew _ hca2)).trans hca2))
      all_goals
        have hb3 := Below.step (hb.drew) hb2
        go_wp2_with fail
        go_roundw
        case rel => exact ⟨k + 1, by omega, by go_num, hb3⟩
        case measure => simp [intOf]; omega
    · obtain rfl : k = n := by omega
      go_wp2_with fail
      go_ret
      exact ⟨rfl, hb⟩

end Go.Proofs.YtpfklkmmhdpphaaGreatDoor
