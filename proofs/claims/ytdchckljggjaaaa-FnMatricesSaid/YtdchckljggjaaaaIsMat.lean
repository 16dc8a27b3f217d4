/- Contracts of both IsMatrix. Conditions: sizes. -/
import Derived.Test.YtdchckljggjaaaaMat
namespace Go.Proofs.Ytdchckljggjaaaa
open Go.RowKit
set_option linter.unusedVariables false
set_option linter.unusedSimpArgs false
set_option maxRecDepth 100000

/-- A row of a matrix with n columns. -/
def rowOk (n : Nat) (r : List Int) : Bool := decide (r.length = n) && allR r (-100) 100
def rowsOk (n : Nat) (xss : List (List Int)) : Bool := xss.all (rowOk n)
def isMat (xss : List (List Int)) : Bool := inR xss.length 1 3 && rowsOk xss.length xss

theorem rowsOk_step {n : Nat} {xss : List (List Int)} {k : Nat} (h : k < xss.length) (ha : rowsOk n (xss.take k) = true) (hr : rowOk n (nthR xss k) = true) : rowsOk n (xss.take (k + 1)) = true := by
  rw [take_nthR h]; simp_all [rowsOk]
theorem rowsOk_stop {n : Nat} {xss : List (List Int)} {k : Nat} (h : k < xss.length) (hr : rowOk n (nthR xss k) = false) : rowsOk n xss = false := by
  rw [nthR_eq h] at hr
  simp only [rowsOk, List.all_eq_false]
  exact ⟨xss[k], List.getElem_mem h, by simp [hr]⟩
theorem rowOk_yes {n : Nat} {r : List Int} (h1 : r.length = n) (h2 : allR r (-100) 100 = true) : rowOk n r = true := by simp [rowOk, h1, h2]
theorem rowOk_len {n : Nat} {r : List Int} (h1 : ¬ r.length = n) : rowOk n r = false := by simp [rowOk, h1]
theorem rowOk_no {n : Nat} {r : List Int} (h2 : allR r (-100) 100 = false) : rowOk n r = false := by simp [rowOk, h2]

theorem implIsMatrix_any (p : Option Addr) (n c : Nat) (xss : List (List Int)) (w : World) (hn : n ≤ 9223372036854775807) (hx : Intss w p n xss) :
    Calls Try.prog 51 #[.slice p n c] w fun e w' => e = .returned (.bool (isMat xss)) ∧ w = w' := by
  have hl := Lib.hid hx.len
  cases h1 : inR (n : Int) 1 3
  · go_enter Try.func51, Try.ntmps51
    go_wp2_with (go_at_call 77; (with_reducible refine (within_any _ _ _ _).mono ?_); rintro e w' ⟨rfl, rfl⟩)
    go_ret
    exact ⟨ret_bool (by simp [isMat, hl.out, h1]), rfl⟩
  · go_enter Try.func51, Try.ntmps51
    go_wp2_with (go_at_call 77; (with_reducible refine (within_any _ _ _ _).mono ?_); rintro e w' ⟨rfl, rfl⟩)
    go_loop [11] (fun i => ∃ k : Nat, k ≤ n ∧ i = .int .i64 k ∧ Hid (rowsOk n (xss.take k) = true)) (fun i => n - (intOf i).toNat)
    case atStart => exact ⟨0, Nat.zero_le _, rfl, rfl⟩
    case round =>
      obtain ⟨k, hk, rfl, hall⟩ := hrel
      by_cases hlt : k < n
      · obtain ⟨b, o, q, m, d, rfl, hc, hm, hi⟩ := hx.cell k hlt
        have hl' := Lib.hid (show k < xss.length by rw [hl.out]; exact hlt)
        have hml := Lib.hid hi.len
        by_cases hmn : m = n
        · subst hmn
          cases h2 : allR (nthR xss k) (-100) 100
          · go_wp2_with (go_at_call 105; (with_reducible refine (allWithin_any _ _ _ _ _ _ _ hi hm).mono ?_); rintro e w' ⟨rfl, rfl⟩)
            go_ret
            exact ⟨ret_bool (by simp [isMat, hl.out, rowsOk_stop hl'.out (rowOk_no h2)]), rfl⟩
          · go_wp2_with (go_at_call 105; (with_reducible refine (allWithin_any _ _ _ _ _ _ _ hi hm).mono ?_); rintro e w' ⟨rfl, rfl⟩)
            go_round
            case rel => exact ⟨k + 1, by omega, by go_num, rowsOk_step hl'.out hall.out (rowOk_yes hml.out h2)⟩
            case measure => simp [intOf]; omega
        · go_wp2
          go_ret
          exact ⟨ret_bool (by simp [isMat, hl.out, rowsOk_stop hl'.out (rowOk_len (n := n) (by rw [hml.out]; exact hmn))]), rfl⟩
      · go_wp2
        go_ret
        obtain rfl : k = n := by omega
        refine ⟨ret_bool ?_, rfl⟩
        have := hall.out
        rw [List.take_of_length_le (by rw [hl.out]; exact Nat.le_refl _)] at this
        simp [isMat, hl.out, h1, this]

theorem specIsMatrix_any (p : Option Addr) (n c : Nat) (xss : List (List Int)) (w : World) (hn : n ≤ 9223372036854775807) (hx : Intss w p n xss) :
    Calls Try.prog 52 #[.slice p n c] w fun e w' => e = .returned (.bool (isMat xss)) ∧ w = w' := by
  have hl := Lib.hid hx.len
  go_enter Try.func52, Try.ntmps52
  go_wp2
  go_loop [3] (fun i => ∃ k : Nat, k ≤ n ∧ i = .int .i64 k ∧ Hid (rowsOk n (xss.take k) = true)) (fun i => n - (intOf i).toNat)
  case atStart => exact ⟨0, Nat.zero_le _, rfl, rfl⟩
  case round =>
    obtain ⟨k, hk, rfl, hall⟩ := hrel
    by_cases hlt : k < n
    · obtain ⟨b, o, q, m, d, rfl, hc, hm, hi⟩ := hx.cell k hlt
      have hl' := Lib.hid (show k < xss.length by rw [hl.out]; exact hlt)
      have hml := Lib.hid hi.len
      by_cases hmn : m = n
      · subst hmn
        cases h2 : allR (nthR xss k) (-100) 100
        · go_wp2_with (go_at_call 106; (with_reducible refine (l2Small_any _ _ _ _ _ _ hi hm (by decide) (by decide)).mono ?_); rintro e w' ⟨rfl, rfl⟩)
          go_ret
          exact ⟨ret_bool (by simp [isMat, hl.out, rowsOk_stop hl'.out (rowOk_no h2)]), rfl⟩
        · go_wp2_with (go_at_call 106; (with_reducible refine (l2Small_any _ _ _ _ _ _ hi hm (by decide) (by decide)).mono ?_); rintro e w' ⟨rfl, rfl⟩)
          go_round
          case rel => exact ⟨k + 1, by omega, by go_num, rowsOk_step hl'.out hall.out (rowOk_yes hml.out h2)⟩
          case measure => simp [intOf]; omega
      · go_wp2
        go_ret
        exact ⟨ret_bool (by simp [isMat, hl.out, rowsOk_stop hl'.out (rowOk_len (n := n) (by rw [hml.out]; exact hmn))]), rfl⟩
    · obtain rfl : k = n := by omega
      cases h1 : inR (k : Int) 1 3
      all_goals
        go_wp2_with (go_at_call 80; (with_reducible refine (l1In_any _ _ _ _).mono ?_); rintro e w' ⟨rfl, rfl⟩)
        go_ret
        refine ⟨ret_bool ?_, rfl⟩
        have := hall.out
        rw [List.take_of_length_le (by rw [hl.out]; exact Nat.le_refl _)] at this
        simp [isMat, hl.out, h1, this]

end Go.Proofs.Ytdchckljggjaaaa
