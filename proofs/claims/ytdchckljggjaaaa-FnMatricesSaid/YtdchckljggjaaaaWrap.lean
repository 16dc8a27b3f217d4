/- Plain laws of numbers that wrap at 64 bits. Conditions: none. -/
import Derived.Test.YtdchckljggjaaaaLawKit
namespace Go.Proofs.Ytdchckljggjaaaa
open Go.RowKit
set_option linter.unusedVariables false
set_option linter.unusedSimpArgs false
set_option maxRecDepth 100000

theorem wrap64_dvd (a : Int) : (18446744073709551616 : Int) ∣ wrap64 a - a := by unfold wrap64; omega
theorem wrap64_congr {a b : Int} (h : (18446744073709551616 : Int) ∣ a - b) : wrap64 a = wrap64 b := by unfold wrap64; omega
theorem wrap64_wrap (a : Int) : wrap64 (wrap64 a) = wrap64 a := wrap64_congr (wrap64_dvd a)
theorem wrap64_add_l (a b : Int) : wrap64 (wrap64 a + b) = wrap64 (a + b) := wrap64_congr (by have := wrap64_dvd a; omega)
theorem wrap64_add_r (a b : Int) : wrap64 (a + wrap64 b) = wrap64 (a + b) := wrap64_congr (by have := wrap64_dvd b; omega)
theorem wrap64_sub_l (a b : Int) : wrap64 (wrap64 a - b) = wrap64 (a - b) := wrap64_congr (by have := wrap64_dvd a; omega)
theorem wrap64_sub_r (a b : Int) : wrap64 (a - wrap64 b) = wrap64 (a - b) := wrap64_congr (by have := wrap64_dvd b; omega)
theorem wrap64_neg (a : Int) : wrap64 (-wrap64 a) = wrap64 (-a) := wrap64_congr (by have := wrap64_dvd a; omega)
theorem wrap64_mul_l (a b : Int) : wrap64 (wrap64 a * b) = wrap64 (a * b) := wrap64_congr (by
  have h := Int.dvd_trans (wrap64_dvd a) (Int.dvd_mul_right _ b)
  rwa [Int.sub_mul] at h)
theorem wrap64_mul_r (a b : Int) : wrap64 (a * wrap64 b) = wrap64 (a * b) := by
  rw [Int.mul_comm, wrap64_mul_l, Int.mul_comm]
theorem wrap64_id {a : Int} (h : -9223372036854775808 ≤ a) (h' : a ≤ 9223372036854775807) : wrap64 a = a := IntWalk.wrap64_in a ⟨h, h'⟩
theorem wrap64_range (a : Int) : -9223372036854775808 ≤ wrap64 a ∧ wrap64 a ≤ 9223372036854775807 := by unfold wrap64; omega

/-- At most B in size. -/
def Abs (B a : Int) : Prop := -B ≤ a ∧ a ≤ B
theorem Abs.mul {A B a b : Int} (ha : Abs A a) (hb : Abs B b) : Abs (A * B) (a * b) := by
  obtain ⟨a1, a2⟩ := ha
  obtain ⟨b1, b2⟩ := hb
  have hA : 0 ≤ A := by omega
  have hB : 0 ≤ B := by omega
  have h : (a * b).natAbs ≤ (A * B).natAbs := by
    rw [Int.natAbs_mul, Int.natAbs_mul]
    exact Nat.mul_le_mul (by omega) (by omega)
  have h2 : 0 ≤ A * B := Int.mul_nonneg hA hB
  unfold Abs
  omega
theorem Abs.add {A B a b : Int} (ha : Abs A a) (hb : Abs B b) : Abs (A + B) (a + b) := by unfold Abs at *; omega
theorem Abs.sub {A B a b : Int} (ha : Abs A a) (hb : Abs B b) : Abs (A + B) (a - b) := by unfold Abs at *; omega
theorem Abs.neg {A a : Int} (ha : Abs A a) : Abs A (-a) := by unfold Abs at *; omega
theorem Abs.mono {A B a : Int} (ha : Abs A a) (h : A ≤ B) : Abs B a := by unfold Abs at *; omega
theorem Abs.wrap {A a : Int} (ha : Abs A a) (h : A ≤ 9223372036854775807) : wrap64 a = a := wrap64_id (by unfold Abs at ha; omega) (by unfold Abs at ha; omega)

end Go.Proofs.Ytdchckljggjaaaa
