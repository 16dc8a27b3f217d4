/- Contracts of both IsHalf and of both CompareRationals. Conditions: sizes. -/
import Derived.Test.YtpfklkmmhdpphaaGreatDoorPairs
namespace Go.Proofs.YtpfklkmmhdpphaaGreatDoor
open Go.RowKit
set_option linter.unusedVariables false
set_option linter.unusedSimpArgs false
set_option maxRecDepth 100000

def isHalf (z : Int) (xs : List Int) (b : Int) : Bool := inR z 1 3 && (decide ((xs.length : Int) = z) && (allR xs (-20) 20 && (decide (0 < gcdL xs) && inR b (-200) 200)))

theorem allR_in62 {xs : List Int} {lo hi : Int} (h : allR xs lo hi = true) (h1 : -4611686018427387904 ≤ lo) (h2 : hi ≤ 4611686018427387904) : ∀ k, k < xs.length → In62 (nth xs k) := fun k hk => by
  have := allR_nth h k hk
  unfold In62; omega

theorem implIsHalf_any (z : Int) (p : Option Addr) (n c : Nat) (xs : List Int) (b : Int) (w : World) (hn : n ≤ 9223372036854775807) (hx : Ints w p n xs) :
    Calls Tryz.prog 59 #[.int .i64 z, .agg #[.slice p n c, .int .i64 b]] w (Ret (.bool (isHalf z xs b)) w) := by
  have hl := Lib.hid hx.len
  have hx1 := hx.alloc (.cells #[.slice p n c, .int .i64 b] 47)
  cases h1 : inR z 1 3
  · go_enter Tryz.func59, Tryz.ntmps59
    go_wp2_with (go_at_call 58; (with_reducible refine (within_any _ _ _ _).mono ?_); rintro e w' ⟨rfl, rfl⟩)
    go_ret
    exact ⟨ret_bool (by simp [isHalf, h1]), boxed _ _⟩
  by_cases h2 : (n : Int) = z
  · subst h2
    cases h3 : allR xs (-20) 20
    · go_enter Tryz.func59, Tryz.ntmps59
      go_wp2_with (first | (go_at_call 58; (with_reducible refine (within_any _ _ _ _).mono ?_); rintro e w' ⟨rfl, rfl⟩) | (go_at_call 71; (with_reducible refine (allWithin_any _ _ _ _ _ _ _ hx1 hn).mono ?_); rintro e w' ⟨rfl, rfl⟩))
      go_ret
      exact ⟨ret_bool (by simp [isHalf, h3]), boxed _ _⟩
    have hB := Lib.hid (allR_in62 h3 (by decide) (by decide))
    by_cases h4 : 0 < gcdL xs
    · cases h5 : inR b (-200) 200
      all_goals
        go_enter Tryz.func59, Tryz.ntmps59
        go_wp2_with (first | (go_at_call 58; (with_reducible refine (within_any _ _ _ _).mono ?_); rintro e w' ⟨rfl, rfl⟩) | (go_at_call 71; (with_reducible refine (allWithin_any _ _ _ _ _ _ _ hx1 hn).mono ?_); rintro e w' ⟨rfl, rfl⟩) | (go_at_call 62; (with_reducible refine (gcdAll_any _ _ _ _ _ hn hx1 hB.out).mono ?_); rintro e w' ⟨rfl, y, rfl⟩))
        go_ret
        exact ⟨ret_bool (by simp [isHalf, h1, h3, h4, h5, hl.out]), Below.drawn (boxed _ _) _⟩
    · go_enter Tryz.func59, Tryz.ntmps59
      go_wp2_with (first | (go_at_call 58; (with_reducible refine (within_any _ _ _ _).mono ?_); rintro e w' ⟨rfl, rfl⟩) | (go_at_call 71; (with_reducible refine (allWithin_any _ _ _ _ _ _ _ hx1 hn).mono ?_); rintro e w' ⟨rfl, rfl⟩) | (go_at_call 62; (with_reducible refine (gcdAll_any _ _ _ _ _ hn hx1 hB.out).mono ?_); rintro e w' ⟨rfl, y, rfl⟩))
      go_ret
      exact ⟨ret_bool (by rw [isHalf, show decide (0 < gcdL xs) = false from decide_eq_false (by omega)]; simp), Below.drawn (boxed _ _) _⟩
  · go_enter Tryz.func59, Tryz.ntmps59
    go_wp2_with (go_at_call 58; (with_reducible refine (within_any _ _ _ _).mono ?_); rintro e w' ⟨rfl, rfl⟩)
    go_ret
    exact ⟨ret_bool (by simp [isHalf, hl.out, h2]), boxed _ _⟩

theorem specIsHalf_any (z : Int) (p : Option Addr) (n c : Nat) (xs : List Int) (b : Int) (w : World) (hn : n ≤ 9223372036854775807) (hx : Ints w p n xs) :
    Calls Tryz.prog 68 #[.int .i64 z, .agg #[.slice p n c, .int .i64 b]] w (Ret (.bool (isHalf z xs b)) w) := by
  have hl := Lib.hid hx.len
  have hx1 := hx.alloc (.cells #[.slice p n c, .int .i64 b] 47)
  cases h1 : inR z 1 3
  · go_enter Tryz.func68, Tryz.ntmps68
    go_wp2_with (go_at_call 54; (with_reducible refine (l1In_any _ _ _ _).mono ?_); rintro e w' ⟨rfl, rfl⟩)
    go_ret
    exact ⟨ret_bool (by simp [isHalf, h1]), boxed _ _⟩
  by_cases h2 : (n : Int) = z
  · subst h2
    cases h3 : allR xs (-20) 20
    · go_enter Tryz.func68, Tryz.ntmps68
      go_wp2_with (first | (go_at_call 54; (with_reducible refine (l1In_any _ _ _ _).mono ?_); rintro e w' ⟨rfl, rfl⟩) | (go_at_call 55; (with_reducible refine (l2Small_any _ _ _ _ _ _ hx1 hn (by decide) (by decide)).mono ?_); rintro e w' ⟨rfl, rfl⟩))
      go_ret
      exact ⟨ret_bool (by simp [isHalf, h3]), boxed _ _⟩
    have hB := Lib.hid (allR_in62 h3 (by decide) (by decide))
    by_cases h4 : 0 < gcdL xs
    · cases h5 : inR b (-200) 200
      all_goals
        go_enter Tryz.func68, Tryz.ntmps68
        go_wp2_with (first | (go_at_call 54; (with_reducible refine (l1In_any _ _ _ _).mono ?_); rintro e w' ⟨rfl, rfl⟩) | (go_at_call 55; (with_reducible refine (l2Small_any _ _ _ _ _ _ hx1 hn (by decide) (by decide)).mono ?_); rintro e w' ⟨rfl, rfl⟩) | (go_at_call 89; (with_reducible refine (l2All_any _ _ _ _ _ hn hx1 hB.out).mono ?_); rintro e w' ⟨rfl, rfl⟩))
        go_ret
        exact ⟨ret_bool (by simp [isHalf, h1, h3, h4, h5, hl.out]), boxed _ _⟩
    · go_enter Tryz.func68, Tryz.ntmps68
      go_wp2_with (first | (go_at_call 54; (with_reducible refine (l1In_any _ _ _ _).mono ?_); rintro e w' ⟨rfl, rfl⟩) | (go_at_call 55; (with_reducible refine (l2Small_any _ _ _ _ _ _ hx1 hn (by decide) (by decide)).mono ?_); rintro e w' ⟨rfl, rfl⟩) | (go_at_call 89; (with_reducible refine (l2All_any _ _ _ _ _ hn hx1 hB.out).mono ?_); rintro e w' ⟨rfl, rfl⟩))
      go_ret
      exact ⟨ret_bool (by rw [isHalf, show decide (0 < gcdL xs) = false from decide_eq_false (by omega)]; simp), boxed _ _⟩
  · go_enter Tryz.func68, Tryz.ntmps68
    go_wp2_with (go_at_call 54; (with_reducible refine (l1In_any _ _ _ _).mono ?_); rintro e w' ⟨rfl, rfl⟩)
    go_ret
    exact ⟨ret_bool (by simp [isHalf, hl.out, h2]), boxed _ _⟩

end Go.Proofs.YtpfklkmmhdpphaaGreatDoor
