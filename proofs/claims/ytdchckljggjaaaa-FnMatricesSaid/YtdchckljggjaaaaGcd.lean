/- Contracts of the greatest common divisors of the program and of the reference. Conditions: the numbers are at most 2^62 in size. -/
import Derived.Test.YtdchckljggjaaaaVecFns
namespace Go.Proofs.Ytdchckljggjaaaa
open Go.RowKit
set_option linter.unusedVariables false
set_option linter.unusedSimpArgs false
set_option maxRecDepth 100000

/-- At most 2^62 in size. -/
def In62 (x : Int) : Prop := -4611686018427387904 ≤ x ∧ x ≤ 4611686018427387904

def gcdI (a b : Int) : Int := (Int.gcd a b : Int)
theorem gcdI_nonneg (a b : Int) : 0 ≤ gcdI a b := Int.natCast_nonneg _
theorem gcdI_le {a b : Int} (ha : In62 a) (hb : In62 b) : gcdI a b ≤ 4611686018427387904 := by
  unfold gcdI Int.gcd
  unfold In62 at ha hb
  by_cases h : a.natAbs = 0
  · rw [h, Nat.gcd_zero_left]; omega
  · have := Nat.gcd_le_left b.natAbs (Nat.pos_of_ne_zero h)
    omega
theorem gcdI_in {a b : Int} (ha : In62 a) (hb : In62 b) : In62 (gcdI a b) := ⟨by have := gcdI_nonneg a b; omega, gcdI_le ha hb⟩
theorem gcdI_step {a b : Int} (h : b ≠ 0) : gcdI b (a.tmod b) = gcdI a b := by
  unfold gcdI Int.gcd
  rw [Int.natAbs_tmod, Nat.gcd_comm, Nat.gcd_comm a.natAbs b.natAbs, ← Nat.gcd_rec]
theorem gcdI_zero (a : Int) : gcdI a 0 = a.natAbs := by simp [gcdI]
theorem gcdI_abs (a b : Int) : gcdI (a.natAbs : Int) (b.natAbs : Int) = gcdI a b := by simp [gcdI, Int.gcd]
theorem tmod_in {a b : Int} (ha : In62 a) : In62 (a.tmod b) := by
  have : (a.tmod b).natAbs ≤ a.natAbs := by rw [Int.natAbs_tmod]; exact Nat.mod_le _ _
  unfold In62 at *; omega
theorem tmod_lt {a b : Int} (h : b ≠ 0) : (a.tmod b).natAbs < b.natAbs := by
  rw [Int.natAbs_tmod]; exact Nat.mod_lt _ (by omega)
theorem tmod_nn {a b : Int} (ha : 0 ≤ a) : 0 ≤ a.tmod b := Int.tmod_nonneg _ ha

theorem magnitude_any (a : Int) (w : World) (h : -9223372036854775807 ≤ a) (h2 : a ≤ 9223372036854775807) :
    Calls Try.prog 103 #[.int .i64 a] w fun e w' => e = .returned (.int .i64 (a.natAbs : Int)) ∧ w = w' := by
  go_enter Try.func103, Try.ntmps103
  go_wp2
  all_goals
    go_ret
    exact ⟨ret_int (by omega), rfl⟩

theorem l1Max_any (a b : Int) (w : World) :
    Calls Try.prog 98 #[.int .i64 a, .int .i64 b] w fun e w' => e = .returned (.int .i64 (max a b)) ∧ w = w' := by
  by_cases h : b < a
  all_goals
    go_enter Try.func98, Try.ntmps98
    go_wp2
    go_ret
    exact ⟨ret_int (by omega), rfl⟩

theorem l1Abs_any (a : Int) (w : World) (h : -9223372036854775807 ≤ a) (h2 : a ≤ 9223372036854775807) :
    Calls Try.prog 104 #[.int .i64 a] w fun e w' => e = .returned (.int .i64 (a.natAbs : Int)) ∧ w = w' := by
  go_enter Try.func104, Try.ntmps104
  go_wp2_with (go_at_call 98; (with_reducible refine (l1Max_any _ _ _).mono ?_); rintro e w' ⟨rfl, rfl⟩)
  go_ret
  exact ⟨ret_int (by omega), rfl⟩

theorem divisor_any (a b : Int) (w : World) (ha : In62 a) (hb : In62 b) :
    Calls Try.prog 119 #[.int .i64 a, .int .i64 b] w fun e w' => e = .returned (.int .i64 (gcdI a b)) ∧ ∃ z, w' = w.drewN z := by
  go_enter Try.func119, Try.ntmps119
  go_wp2
  go_loopw [0, 1] (fun s t wr => ∃ x y : Int, s = .int .i64 x ∧ t = .int .i64 y ∧ In62 x ∧ In62 y ∧ Hid (gcdI x y = gcdI a b) ∧ ∃ z, wr = w.drewN z) (fun _ t _ => (intOf t).natAbs)
  case atStart => exact ⟨a, b, rfl, rfl, ha, hb, rfl, 0, rfl⟩
  case round =>
    obtain ⟨x, y, rfl, rfl, hx, hy, hg, z, rfl⟩ := hrel
    by_cases h0 : y = 0
    · subst h0
      have hx' := hx
      unfold In62 at hx'
      go_wp2_with (go_at_call 103; (with_reducible refine (magnitude_any _ _ (by omega) (by omega)).mono ?_); rintro e w' ⟨rfl, rfl⟩)
      go_ret
      exact ⟨ret_int (by rw [← hg.out, gcdI_zero]), _, rfl⟩
    · have hm := tmod_in (b := y) hx
      have hm' := hm
      unfold In62 at hm'
      go_wp2
      go_quiet (fail)
      go_wp2
      go_roundw
      case rel => exact ⟨_, _, rfl, rfl, hy, hm, (gcdI_step h0).trans hg.out, _, World.drewN_drewN _ _ _⟩
      case measure => simpa [intOf] using tmod_lt h0

theorem l2Gcd_any (a b : Int) (w : World) (ha : In62 a) (hb : In62 b) :
    Calls Try.prog 120 #[.int .i64 a, .int .i64 b] w fun e w' => e = .returned (.int .i64 (gcdI a b)) ∧ w = w' := by
  have ha' := ha
  have hb' := hb
  unfold In62 at ha' hb'
  go_enter Try.func120, Try.ntmps120
  go_wp2_with (first | (go_at_call 104; (with_reducible refine (l1Abs_any a _ (by omega) (by omega)).mono ?_); rintro e w' ⟨rfl, rfl⟩) | (go_at_call 104; (with_reducible refine (l1Abs_any b _ (by omega) (by omega)).mono ?_); rintro e w' ⟨rfl, rfl⟩))
  go_loop [0, 1] (fun s t => ∃ x y : Int, s = .int .i64 x ∧ t = .int .i64 y ∧ 0 ≤ x ∧ 0 ≤ y ∧ In62 x ∧ In62 y ∧ Hid (gcdI x y = gcdI a b)) (fun _ t => (intOf t).natAbs)
  case atStart => exact ⟨_, _, rfl, rfl, by omega, by omega, by unfold In62; omega, by unfold In62; omega, gcdI_abs a b⟩
  case round =>
    obtain ⟨x, y, rfl, rfl, h1, h2, hx, hy, hg⟩ := hrel
    by_cases h0 : y = 0
    · subst h0
      go_wp2
      go_ret
      exact ⟨ret_int (by rw [← hg.out, gcdI_zero]; omega), rfl⟩
    · have hm := tmod_in (b := y) hx
      have hm' := hm
      have hm2 := tmod_nn (b := y) h1
      have hm3 := tmod_lt (a := x) h0
      rw [Int.tmod_eq_emod_of_nonneg h1] at hm hm' hm2 hm3
      unfold In62 at hm'
      have hs := gcdI_step (a := x) h0
      rw [Int.tmod_eq_emod_of_nonneg h1] at hs
      have Hs := Lib.hid hs
      clear hs
      go_wp2
      go_round
      case rel => exact ⟨_, _, rfl, rfl, h2, hm2, hy, hm, Hs.out.trans hg.out⟩
      case measure => simpa [intOf] using hm3

/-- The greatest common divisor of the first k numbers. -/
def gcdTo (xs : List Int) : Nat → Int
  | 0 => 0
  | k + 1 => gcdI (gcdTo xs k) (nth xs k)
def gcdL (xs : List Int) : Int := gcdTo xs xs.length
theorem gcdTo_in {xs : List Int} (h : ∀ k, k < xs.length → In62 (nth xs k)) : ∀ k, k ≤ xs.length → In62 (gcdTo xs k) ∧ 0 ≤ gcdTo xs k
  | 0, _ => ⟨by unfold In62; simp [gcdTo], by simp [gcdTo]⟩
  | k + 1, hk => ⟨gcdI_in (gcdTo_in h k (by omega)).1 (h k (by omega)), gcdI_nonneg _ _⟩

theorem gcdAll_any (p : Option Addr) (n c : Nat) (xs : List Int) (w : World) (hn : n ≤ 9223372036854775807) (hx : Ints w p n xs) (hB : ∀ k, k < xs.length → In62 (nth xs k)) :
    Calls Try.prog 79 #[.slice p n c] w fun e w' => e = .returned (.int .i64 (gcdL xs)) ∧ ∃ z, w' = w.drewN z := by
  have hl := Lib.hid hx.len
  have HB := Lib.hid (gcdTo_in hB)
  have HB1 := Lib.hid hB
  clear hB
  go_enter Try.func79, Try.ntmps79
  go_wp2
  go_loopw [3, 8] (fun a i wr => ∃ k : Nat, k ≤ n ∧ i = .int .i64 k ∧ a = .int .i64 (gcdTo xs k) ∧ ∃ z, wr = w.drewN z) (fun _ i _ => n - (intOf i).toNat)
  case atStart => exact ⟨0, Nat.zero_le _, rfl, rfl, 0, rfl⟩
  case round =>
    obtain ⟨k, hk, rfl, rfl, z, rfl⟩ := hrel
    by_cases hlt : k < n
    · obtain ⟨b, o, rfl, hc⟩ := hx.cell k hlt
      have h1 := (HB.out k (by rw [hl.out]; omega)).1
      have h2 := HB1.out k (by rw [hl.out]; omega)
      go_wp2_with (go_at_call 119; (with_reducible refine (divisor_any _ _ _ h1 h2).mono ?_); rintro e w' ⟨rfl, z2, rfl⟩)
      go_roundw
      case rel => exact ⟨k + 1, by omega, by go_num, rfl, _, rfl⟩
      case measure => simp [intOf]; omega
    · go_wp2
      go_ret
      obtain rfl : k = n := by omega
      exact ⟨ret_int (by rw [gcdL, hl.out]), _, rfl⟩

theorem l2All_any (p : Option Addr) (n c : Nat) (xs : List Int) (w : World) (hn : n ≤ 9223372036854775807) (hx : Ints w p n xs) (hB : ∀ k, k < xs.length → In62 (nth xs k)) :
    Calls Try.prog 81 #[.slice p n c] w fun e w' => e = .returned (.int .i64 (gcdL xs)) ∧ w = w' := by
  have hl := Lib.hid hx.len
  have HB := Lib.hid (gcdTo_in hB)
  have HB1 := Lib.hid hB
  clear hB
  go_enter Try.func81, Try.ntmps81
  go_wp2
  go_loop [3, 4] (fun a i => ∃ k : Nat, k ≤ n ∧ i = .int .i64 k ∧ a = .int .i64 (gcdTo xs k)) (fun _ i => n - (intOf i).toNat)
  case atStart => exact ⟨0, Nat.zero_le _, rfl, rfl⟩
  case round =>
    obtain ⟨k, hk, rfl, rfl⟩ := hrel
    by_cases hlt : k < n
    · obtain ⟨b, o, rfl, hc⟩ := hx.cell k hlt
      have h1 := (HB.out k (by rw [hl.out]; omega)).1
      have h2 := HB1.out k (by rw [hl.out]; omega)
      go_wp2_with (go_at_call 120; (with_reducible refine (l2Gcd_any _ _ _ h1 h2).mono ?_); rintro e w' ⟨rfl, rfl⟩)
      go_round
      case rel => exact ⟨k + 1, by omega, by go_num, rfl⟩
      case measure => simp [intOf]; omega
    · go_wp2
      go_ret
      obtain rfl : k = n := by omega
      exact ⟨ret_int (by rw [gcdL, hl.out]), rfl⟩

end Go.Proofs.Ytdchckljggjaaaa
