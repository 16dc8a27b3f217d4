/- The great laws' own comparisons of lists of lists; the size of a number. Conditions: sizes. -/
import Derived.Test.YthdonnkekggbbaaGreatDoorSameI
import Derived.Test.YthdonnkekggbbaaGreatDoorJnVecFns2
namespace Go.Proofs.YthdonnkekggbbaaGreatDoor
open Go.RowKit
set_option linter.unusedVariables false
set_option linter.unusedSimpArgs false
set_option maxRecDepth 100000

theorem sameLists_self (p q : Option Addr) (n c d : Nat) (xss : List (List Int)) (w : World) (hn : n ≤ 9223372036854775807) (hx : Intss w p n xss) (hy : Intss w q n xss) :
    Calls Tryz.prog 14 #[.slice p n c, .slice q n d] w fun e w' => e = .returned (.bool true) ∧ Below w.heap.size w w' := by
  go_enter Tryz.func14, Tryz.ntmps14
  go_wp2_with fail
  go_loopw [5] (fun i wr => ∃ k : Nat, k ≤ n ∧ i = .int .i64 k ∧ Below w.heap.size w wr) (fun i _ => n - (intOf i).toNat)
  case atStart => exact ⟨0, Nat.zero_le _, rfl, Below.refl _ _⟩
  case round =>
    obtain ⟨k, hk, rfl, hb⟩ := hrel
    by_cases hlt : k < n
    · obtain ⟨b, o, q1, m1, d1, rfl, hc, hm1, hi1⟩ := (hx.below hb).cell k hlt
      obtain ⟨b2, o2, q2, m2, d2, rfl, hc2, hm2, hi2⟩ := (hy.below hb).cell k hlt
      obtain rfl : m1 = m2 := by rw [← hi1.len, hi2.len]
      have hd1 : decide ((k : Int) < (n : Int)) = true := by simp; omega
      have hz : (0 : Int) ≤ (k : Int) := by omega
      have hz2 : (k : Int) < (n : Int) := by omega
      generalize wr = W at *
      have hi3 := hi1.drew
      have hi4 := hi2.drew
      generalize nthR xss k = xs at *
      go_wp2_with fail
      go_region_law (go_simp; go_at_call 53; refine (sameInts_self _ _ _ _ _ _ _ hm1 hi3 hi4).mono ?_; rintro e w' ⟨rfl, hb2⟩)
      all_goals
        have hb3 := Below.step (hb.drew) hb2
        go_wp2_with fail
        go_roundw
        case rel => exact ⟨k + 1, by omega, by go_num, hb3⟩
        case measure => simp [intOf]; omega
    · obtain rfl : k = n := by omega
      go_wp2_with fail
      go_ret
      exact ⟨rfl, hb⟩

end Go.Proofs.YthdonnkekggbbaaGreatDoor
