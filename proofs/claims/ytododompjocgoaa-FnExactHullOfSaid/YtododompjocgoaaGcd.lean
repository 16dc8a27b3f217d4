/- Contracts of the greatest common divisors of the program and of the reference. Conditions: the numbers are at most 2^62 in size. -/
import Derived.Test.YtododompjocgoaaVecFns
namespace Go.Proofs.Ytododompjocgoaa
open Go.RowKit
set_option linter.unusedVariables false
set_option linter.unusedSimpArgs false
set_option maxRecDepth 100000

/-- At most 2^62 in size. -/
def In62 (x : Int) : Prop := -4611686018427387904 ≤ x ∧ x ≤ 4611686018427387904

def gcdI (a b : Int) : Int := (Int.gcd a b : Int)
theorem gcdI_nonneg (a b : Int) : 0 ≤ gcdI a b := Int.natCast_nonneg _
theorem gcdI_le {a b : Int} (ha : In62 a) (hb : In62 b) : gcdI a b ≤ 4611686018427387904 := by
  unfold gcdI Int.gcd
  unfold In62 at ha hb
  by_cases h : a.natAbs = 0
  · rw [h, Nat.gcd_zero_left]; omega
  · have := Nat.gcd_le_left b.natAbs (Nat.pos_of_ne_zero h)
    omega
theorem gcdI_in {a b : Int} (ha : In62 a) (hb : In62 b) : In62 (gcdI a b) := ⟨by have := gcdI_nonneg a b; omega, gcdI_le ha hb⟩
theorem gcdI_step {a b : Int} (h : b ≠ 0) : gcdI b (a.tmod b) = gcdI a b := by
  unfold gcdI Int.gcd
  rw [Int.natAbs_tmod, Nat.gcd_comm, Nat.gcd_comm a.natAbs b.natAbs, ← Nat.gcd_rec]
theorem gcdI_zero (a : Int) : gcdI a 0 = a.natAbs := by simp [gcdI]
theorem gcdI_abs (a b : Int) : gcdI (a.natAbs : Int) (b.natAbs : Int) = gcdI a b := by simp [gcdI, Int.gcd]
theorem tmod_in {a b : Int} (ha : In62 a) : In62 (a.tmod b) := by
  have : (a.tmod b).natAbs ≤ a.natAbs := by rw [Int.natAbs_tmod]; exact Nat.mod_le _ _
  unfold In62 at *; omega
theorem tmod_lt {a b : Int} (h : b ≠ 0) : (a.tmod b).natAbs < b.natAbs := by
  rw [Int.natAbs_tmod]; exact Nat.mod_lt _ (by omega)
theorem tmod_nn {a b : Int} (ha : 0 ≤ a) : 0 ≤ a.tmod b := Int.tmod_nonneg _ ha

theorem l1Max_any (a b : Int) (w : World) :
    Calls Try.prog 41 #[.int .i64 a, .int .i64 b] w fun e w' => e = .returned (.int .i64 (max a b)) ∧ w = w' := by
  by_cases h : b < a
  all_goals
    go_enter Try.func41, Try.ntmps41
    go_wp2
    go_ret
    exact ⟨ret_int (by omega), rfl⟩

/-- The greatest common divisor of the first k numbers. -/
def gcdTo (xs : List Int) : Nat → Int
  | 0 => 0
  | k + 1 => gcdI (gcdTo xs k) (nth xs k)
def gcdL (xs : List Int) : Int := gcdTo xs xs.length
theorem gcdTo_in {xs : List Int} (h : ∀ k, k < xs.length → In62 (nth xs k)) : ∀ k, k ≤ xs.length → In62 (gcdTo xs k) ∧ 0 ≤ gcdTo xs k
  | 0, _ => ⟨by unfold In62; simp [gcdTo], by simp [gcdTo]⟩
  | k + 1, hk => ⟨gcdI_in (gcdTo_in h k (by omega)).1 (h k (by omega)), gcdI_nonneg _ _⟩

end Go.Proofs.Ytododompjocgoaa
