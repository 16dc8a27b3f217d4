/- Contracts of both EqualRegion. Conditions: sizes. -/
import Derived.Test.YtpfklkmmhdpphadGreatDoorReg3
namespace Go.Proofs.YtpfklkmmhdpphadGreatDoor
open Go.RowKit
set_option linter.unusedVariables false
set_option linter.unusedSimpArgs false
set_option maxRecDepth 100000

theorem slicesEqual_any (p q : Option Addr) (n c m d : Nat) (xs ys : List Int) (w : World) (hx : Ints w p n xs) (hy : Ints w q m ys) (hn : n ≤ 9223372036854775807) (hm : m ≤ 9223372036854775807) :
    Calls Tryz.prog 72 #[.slice p n c, .slice q m d] w fun e w' => e = .returned (.bool (beqL xs ys)) ∧ ∃ z, w' = w.drewN z := by
  have hl := Lib.hid hx.len
  have hl2 := Lib.hid hy.len
  by_cases hnm : n = m
  · subst hnm
    go_enter Tryz.func72, Tryz.ntmps72
    go_wp2
    go_loopw [13] (fun i wr => ∃ k : Nat, k ≤ n ∧ i = .int .i64 k ∧ Hid (∀ j, j < k → nth xs j = nth ys j) ∧ ∃ z, wr = w.drewN z) (fun i _ => n - (intOf i).toNat)
    case atStart => exact ⟨0, Nat.zero_le _, rfl, fun j h => absurd h (by omega), 0, rfl⟩
    case round =>
      obtain ⟨k, hk, rfl, hall, z, rfl⟩ := hrel
      by_cases hlt : k < n
      · obtain ⟨b, o, rfl, hc⟩ := hx.cell k hlt
        obtain ⟨b2, o2, rfl, hc2⟩ := hy.cell k hlt
        by_cases he : nth xs k = nth ys k
        · have he' : (nth xs k != nth ys k) = false := by simp [he]
          have He := Lib.hid he
          clear he
          go_wp2
          go_quiet (fail)
          go_wp2
          go_roundw
          case rel =>
            refine ⟨k + 1, by omega, by go_num, fun j hj => ?_, _, rfl⟩
            by_cases hjk : j < k
            · exact hall.out j hjk
            · obtain rfl : j = k := by omega
              exact He.out
          case measure => simp [intOf]; omega
        · have he' : (nth xs k != nth ys k) = true := by simp [he]
          have He := Lib.hid he
          clear he
          go_wp2
          go_quiet (fail)
          go_wp2
          go_ret
          refine ⟨ret_bool ?_, _, World.drewN_drewN _ _ _⟩
          simp only [beqL]
          rw [eq_comm, decide_eq_false_iff_not]
          intro h
          exact He.out (by rw [h])
      · go_wp2
        go_ret
        refine ⟨ret_bool ?_, _, rfl⟩
        obtain rfl : k = n := by omega
        rw [nth_ext (hl.out.trans hl2.out.symm) (fun j hj => hall.out j (by rw [hl.out] at hj; exact hj)), beqL_self]
  · go_enter Tryz.func72, Tryz.ntmps72
    go_wp2
    go_ret
    refine ⟨ret_bool ?_, 0, rfl⟩
    simp only [beqL]
    rw [eq_comm, decide_eq_false_iff_not]
    intro h
    exact hnm (by rw [← hl.out, ← hl2.out, h])

theorem l2Same_any (p q : Option Addr) (n c m d : Nat) (xs ys : List Int) (w : World) (hx : Ints w p n xs) (hy : Ints w q m ys) (hn : n ≤ 9223372036854775807) (hm : m ≤ 9223372036854775807) :
    Calls Tryz.prog 73 #[.slice p n c, .slice q m d] w fun e w' => e = .returned (.bool (beqL xs ys)) ∧ ∃ z, w' = w.drewN z := by
  have hl := Lib.hid hx.len
  have hl2 := Lib.hid hy.len
  by_cases hnm : n = m
  · subst hnm
    go_enter Tryz.func73, Tryz.ntmps73
    go_wp2
    go_loopw [5] (fun i wr => ∃ k : Nat, k ≤ n ∧ i = .int .i64 k ∧ Hid (∀ j, j < k → nth xs j = nth ys j) ∧ ∃ z, wr = w.drewN z) (fun i _ => n - (intOf i).toNat)
    case atStart => exact ⟨0, Nat.zero_le _, rfl, fun j h => absurd h (by omega), 0, rfl⟩
    case round =>
      obtain ⟨k, hk, rfl, hall, z, rfl⟩ := hrel
      by_cases hlt : k < n
      · obtain ⟨b, o, rfl, hc⟩ := hx.cell k hlt
        obtain ⟨b2, o2, rfl, hc2⟩ := hy.cell k hlt
        by_cases he : nth xs k = nth ys k
        · have he' : (nth xs k != nth ys k) = false := by simp [he]
          have He := Lib.hid he
          clear he
          go_wp2
          go_quiet (fail)
          go_wp2
          go_roundw
          case rel =>
            refine ⟨k + 1, by omega, by go_num, fun j hj => ?_, _, rfl⟩
            by_cases hjk : j < k
            · exact hall.out j hjk
            · obtain rfl : j = k := by omega
              exact He.out
          case measure => simp [intOf]; omega
        · have he' : (nth xs k != nth ys k) = true := by simp [he]
          have He := Lib.hid he
          clear he
          go_wp2
          go_quiet (fail)
          go_wp2
          go_ret
          refine ⟨ret_bool ?_, _, World.drewN_drewN _ _ _⟩
          simp only [beqL]
          rw [eq_comm, decide_eq_false_iff_not]
          intro h
          exact He.out (by rw [h])
      · go_wp2
        go_ret
        refine ⟨ret_bool ?_, _, rfl⟩
        obtain rfl : k = n := by omega
        rw [nth_ext (hl.out.trans hl2.out.symm) (fun j hj => hall.out j (by rw [hl.out] at hj; exact hj)), beqL_self]
  · go_enter Tryz.func73, Tryz.ntmps73
    go_wp2
    go_ret
    refine ⟨ret_bool ?_, 0, rfl⟩
    simp only [beqL]
    rw [eq_comm, decide_eq_false_iff_not]
    intro h
    exact hnm (by rw [← hl.out, ← hl2.out, h])

/-- Two pairs are the same. -/
def beqP (a b : Pr) : Bool := beqL a.1 b.1 && decide (a.2 = b.2)
theorem beqP_iff {a b : Pr} : beqP a b = true ↔ a = b := by
  obtain ⟨a1, a2⟩ := a; obtain ⟨b1, b2⟩ := b
  simp [beqP, beqL]

theorem equalHalf_any (p q : Option Addr) (n c m d : Nat) (xs ys : List Int) (a b : Int) (w : World) (hx : Ints w p n xs) (hy : Ints w q m ys) (hn : n ≤ 9223372036854775807) (hm : m ≤ 9223372036854775807) :
    Calls Tryz.prog 44 #[.agg #[.slice p n c, .int .i64 a], .agg #[.slice q m d, .int .i64 b]] w (Ret (.bool (beqP (xs, a) (ys, b))) w) := by
  have hb := boxed2 w (.cells #[.slice p n c, .int .i64 a] 36) (.cells #[.slice q m d, .int .i64 b] 36)
  cases h1 : beqL xs ys
  · go_enter Tryz.func44, Tryz.ntmps44
    go_wp2_with fail
    refine (slicesEqual_any _ _ _ _ _ _ _ _ _ (hx.below hb) (hy.below hb) hn hm).mono ?_
    rw [h1]
    rintro e w1 ⟨rfl, z, rfl⟩
    go_wp2
    go_ret
    exact ⟨ret_bool (by simp [beqP, h1]), Below.drawn hb _⟩
  · by_cases h2 : a = b
    · have h2' : (a == b) = true := by simp [h2]
      have H2 := Lib.hid h2
      clear h2
      go_enter Tryz.func44, Tryz.ntmps44
      go_wp2_with fail
      refine (slicesEqual_any _ _ _ _ _ _ _ _ _ (hx.below hb) (hy.below hb) hn hm).mono ?_
      rw [h1]
      rintro e w1 ⟨rfl, z, rfl⟩
      go_wp2
      go_ret
      exact ⟨ret_bool (by simp [beqP, h1, H2.out]), Below.drawn hb _⟩
    · have h2' : (a == b) = false := by simp [h2]
      have H2 := Lib.hid h2
      clear h2
      go_enter Tryz.func44, Tryz.ntmps44
      go_wp2_with fail
      refine (slicesEqual_any _ _ _ _ _ _ _ _ _ (hx.below hb) (hy.below hb) hn hm).mono ?_
      rw [h1]
      rintro e w1 ⟨rfl, z, rfl⟩
      go_wp2
      go_ret
      exact ⟨ret_bool (by simp [beqP, h1, H2.out]), Below.drawn hb _⟩

end Go.Proofs.YtpfklkmmhdpphadGreatDoor
