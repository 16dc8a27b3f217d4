/- Plain laws of points: how great the counts are. Conditions: none. -/
import Derived.Test.YtpfklkmmhdpphacPLaw2
namespace Go.Proofs.Ytpfklkmmhdpphac
open Go.RowKit
set_option linter.unusedVariables false
set_option linter.unusedSimpArgs false
set_option maxRecDepth 100000

theorem ptsV_most {z : Int} {hs : List Pr} (h : isReg z hs = true) : (ptsV z hs).length ≤ 8120601 := by
  obtain ⟨h1, h3, _⟩ := isReg_facts h
  unfold ptsV boxOf
  rw [if_pos h]
  refine Nat.le_trans (List.length_filter_le _ _) ?_
  refine Nat.le_trans (allTo_length (lo := -6) (hi := 6) (by decide) z.toNat) ?_
  have : (201 : Nat) ^ z.toNat ≤ 201 ^ 3 := Nat.pow_le_pow_right (by omega) (by omega)
  omega
theorem countV_in (z : Int) (hs : List Pr) : -1 ≤ countV z hs ∧ countV z hs ≤ 8120601 := by
  unfold countV
  split
  · rename_i h
    have := ptsV_most h
    omega
  · omega
theorem slCnt_in (z i : Int) (hs : List Pr) : -1 ≤ slCnt z i hs ∧ slCnt z i hs ≤ 8120601 := by
  unfold slCnt
  split
  · exact countV_in _ _
  · omega
theorem sumTo_in (z : Int) (hs : List Pr) : ∀ k : Nat, k ≤ 13 → -(k : Int) ≤ sumTo z hs k ∧ sumTo z hs k ≤ 8120601 * (k : Int)
  | 0, _ => by simp [sumTo]
  | k + 1, hk => by
    have ih := sumTo_in z hs k (by omega)
    have := slCnt_in z (-6 + (k : Int)) hs
    rw [sumTo]; omega

end Go.Proofs.Ytpfklkmmhdpphac
