/- The great laws' own comparisons. Conditions: sizes. -/
import Derived.Test.YthdonnkekggbbaaGreatDoorJnVecFns2
namespace Go.Proofs.YthdonnkekggbbaaGreatDoor
open Go.RowKit
set_option linter.unusedVariables false
set_option linter.unusedSimpArgs false
set_option maxRecDepth 100000

theorem sameInts_self (p q : Option Addr) (n c d : Nat) (xs : List Int) (w : World) (hn : n ≤ 9223372036854775807) (hx : Ints w p n xs) (hy : Ints w q n xs) :
    Calls Tryz.prog 53 #[.slice p n c, .slice q n d] w fun e w' => e = .returned (.bool true) ∧ Below w.heap.size w w' := by
  go_enter Tryz.func53, Tryz.ntmps53
  go_wp2_with fail
  go_loopw [5] (fun i wr => ∃ k : Nat, k ≤ n ∧ i = .int .i64 k ∧ ∃ z, wr = w.drewN z) (fun i _ => n - (intOf i).toNat)
  case atStart => exact ⟨0, Nat.zero_le _, rfl, 0, rfl⟩
  case round =>
    obtain ⟨k, hk, rfl, z, rfl⟩ := hrel
    by_cases hlt : k < n
    · obtain ⟨b, o, rfl, hc⟩ := hx.cell k hlt
      obtain ⟨b2, o2, rfl, hc2⟩ := hy.cell k hlt
      have hd1 : decide ((k : Int) < (n : Int)) = true := by simp; omega
      have hz : (0 : Int) ≤ (k : Int) := by omega
      generalize nth xs k = u at *
      go_wp2_with fail
      go_quiet (fail)
      go_wp2_with fail
      go_roundw
      case rel => exact ⟨k + 1, by omega, by go_num, by first | exact ⟨_, rfl⟩ | exact drew2 _ _ _⟩
      case measure => simp [intOf]; omega
    · obtain rfl : k = n := by omega
      go_wp2_with fail
      go_ret
      exact ⟨rfl, Below.drawn (Below.refl _ _) z⟩

end Go.Proofs.YthdonnkekggbbaaGreatDoor
