/- Contracts of the pieces of both Hermite forms: less, quotients rounded down, differences, copies. Conditions: sizes. -/
import Derived.Test.YtdchckljggjaaaaHerm2
import Derived.Test.YtdchckljggjaaaaLess
namespace Go.Proofs.Ytdchckljggjaaaa
open Go.RowKit
set_option linter.unusedVariables false
set_option linter.unusedSimpArgs false
set_option maxRecDepth 100000

theorem down_any (a b : Int) (w : World) (hb : b ≠ 0) :
    Calls Try.prog 127 #[.int .i64 a, .int .i64 b] w fun e w' => e = .returned (.int .i64 (floorW a b)) ∧ w = w' := by
  by_cases h : a.tmod b < 0
  all_goals
    go_enter Try.func127, Try.ntmps127
    go_wp2
    go_ret
    exact ⟨ret_int (by unfold floorW qOf; first | rw [if_pos (by omega)] | rw [if_neg (by omega)]), rfl⟩

theorem l3Floor_any (a b : Int) (w : World) (hb : b ≠ 0) :
    Calls Try.prog 129 #[.int .i64 a, .int .i64 b] w fun e w' => e = .returned (.int .i64 (floorW a b)) ∧ w = w' := by
  by_cases h : a.tmod b < 0
  all_goals
    go_enter Try.func129, Try.ntmps129
    go_wp2
    go_ret
    exact ⟨ret_int (by unfold floorW qOf; first | rw [if_pos (by omega)] | rw [if_neg (by omega)]), rfl⟩

def mixS (xs ys : List Int) (q : Int) (k : Nat) : List Int := mix (subRow xs q ys) xs k

theorem less_any (lo hi : Nat) (p q : Option Addr) (n c d : Nat) (xs ys : List Int) (t : Int) (w : World) (hn : n ≤ 9223372036854775807) (hx : Own w lo hi p n c xs) (hy : Ints w q n ys) (ho : Out lo hi q) :
    Calls Try.prog 126 #[.slice p n c, .int .i64 t, .slice q n d] w fun e w' => e = .returned (.tuple #[]) ∧ Own w' lo hi p n c (subRow xs t ys) ∧ Within lo hi w w' := by
  have hl := Lib.hid hx.len
  have hl2 := Lib.hid (subRow_length xs t ys)
  have Ho := Lib.hid ho
  clear ho
  go_enter Try.func126, Try.ntmps126
  go_wp2
  go_loopw [9] (fun i wr => ∃ k : Nat, k ≤ n ∧ i = .int .i64 k ∧ Own wr lo hi p n c (mix (subRow xs t ys) xs k) ∧ Within lo hi w wr) (fun i _ => n - (intOf i).toNat)
  case atStart => exact ⟨0, Nat.zero_le _, rfl, by rw [mix_zero]; exact hx, Within.refl _ _ _⟩
  case round =>
    obtain ⟨k, hk, rfl, hown, hw⟩ := hrel
    by_cases hlt : k < n
    · rcases hown.form with ⟨_, rfl, _⟩ | ⟨g, rfl, hg1, hg2, hg3, _⟩
      · omega
      have hc2 := hown.cell hlt
      rw [mix_nth (by rw [hl2.out, hl.out]; exact hk)] at hc2
      have hf2 := hown.frozen k
      obtain ⟨b, o, rfl, hc⟩ := (hy.within hw Ho.out).cell k hlt
      have hset := hown.set k (nth (subRow xs t ys) k)
      rw [mix_set (by rw [hl2.out, hl.out]; exact hlt) (by rw [hl.out]; exact hlt), subRow_nth (by rw [hl.out]; exact hlt)] at hset
      go_wp2
      go_region
      all_goals
        go_wp2
        go_roundw
        case rel => exact ⟨k + 1, by omega, by go_num, hset.drew, (hw.setCell hg1 hg2 _).drewN 1⟩
        case measure => simp [intOf]; omega
    · obtain rfl : k = n := by omega
      rw [mix_all (by rw [hl2.out, hl.out]; exact Nat.le_refl _) (by rw [hl.out]; exact Nat.le_refl _)] at hown
      go_wp2
      go_end0
      exact ⟨rfl, hown, hw⟩

theorem lessW_scale {xs ys : List Int} {t : Int} (h : xs.length = ys.length) : lessW xs (scaleW ys t) = subRow xs t ys := by
  refine nth_ext (by rw [lessW_length, subRow_length]) fun k hk => ?_
  rw [lessW_length] at hk
  rw [lessW_nth hk, subRow_nth hk, scaleW_nth (by omega), Int.mul_comm]
theorem scale_neg (xs : List Int) : scaleW xs (-1) = subRow xs 2 xs := by
  refine nth_ext (by rw [scaleW_length, subRow_length]) fun k hk => ?_
  rw [scaleW_length] at hk
  rw [scaleW_nth hk, subRow_nth hk, wrap64_sub_r]
  congr 1
  omega

end Go.Proofs.Ytdchckljggjaaaa
