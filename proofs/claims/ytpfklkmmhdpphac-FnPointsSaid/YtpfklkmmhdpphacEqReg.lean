/- Contracts of both EqualRegion. Conditions: sizes. -/
import Derived.Test.YtpfklkmmhdpphacReg3
namespace Go.Proofs.Ytpfklkmmhdpphac
open Go.RowKit
set_option linter.unusedVariables false
set_option linter.unusedSimpArgs false
set_option maxRecDepth 100000

theorem l2Same_any (p q : Option Addr) (n c m d : Nat) (xs ys : List Int) (w : World) (hx : Ints w p n xs) (hy : Ints w q m ys) (hn : n ≤ 9223372036854775807) (hm : m ≤ 9223372036854775807) :
    Calls Try.prog 57 #[.slice p n c, .slice q m d] w fun e w' => e = .returned (.bool (beqL xs ys)) ∧ ∃ z, w' = w.drewN z := by
  have hl := Lib.hid hx.len
  have hl2 := Lib.hid hy.len
  by_cases hnm : n = m
  · subst hnm
    go_enter Try.func57, Try.ntmps57
    go_wp2
    go_loopw [5] (fun i wr => ∃ k : Nat, k ≤ n ∧ i = .int .i64 k ∧ Hid (∀ j, j < k → nth xs j = nth ys j) ∧ ∃ z, wr = w.drewN z) (fun i _ => n - (intOf i).toNat)
    case atStart => exact ⟨0, Nat.zero_le _, rfl, fun j h => absurd h (by omega), 0, rfl⟩
    case round =>
      obtain ⟨k, hk, rfl, hall, z, rfl⟩ := hrel
      by_cases hlt : k < n
      · obtain ⟨b, o, rfl, hc⟩ := hx.cell k hlt
        obtain ⟨b2, o2, rfl, hc2⟩ := hy.cell k hlt
        by_cases he : nth xs k = nth ys k
        · have he' : (nth xs k != nth ys k) = false := by simp [he]
          have He := Lib.hid he
          clear he
          go_wp2
          go_quiet (fail)
          go_wp2
          go_roundw
          case rel =>
            refine ⟨k + 1, by omega, by go_num, fun j hj => ?_, _, rfl⟩
            by_cases hjk : j < k
            · exact hall.out j hjk
            · obtain rfl : j = k := by omega
              exact He.out
          case measure => simp [intOf]; omega
        · have he' : (nth xs k != nth ys k) = true := by simp [he]
          have He := Lib.hid he
          clear he
          go_wp2
          go_quiet (fail)
          go_wp2
          go_ret
          refine ⟨ret_bool ?_, _, World.drewN_drewN _ _ _⟩
          simp only [beqL]
          rw [eq_comm, decide_eq_false_iff_not]
          intro h
          exact He.out (by rw [h])
      · go_wp2
        go_ret
        refine ⟨ret_bool ?_, _, rfl⟩
        obtain rfl : k = n := by omega
        rw [nth_ext (hl.out.trans hl2.out.symm) (fun j hj => hall.out j (by rw [hl.out] at hj; exact hj)), beqL_self]
  · go_enter Try.func57, Try.ntmps57
    go_wp2
    go_ret
    refine ⟨ret_bool ?_, 0, rfl⟩
    simp only [beqL]
    rw [eq_comm, decide_eq_false_iff_not]
    intro h
    exact hnm (by rw [← hl.out, ← hl2.out, h])

/-- Two pairs are the same. -/
def beqP (a b : Pr) : Bool := beqL a.1 b.1 && decide (a.2 = b.2)
theorem beqP_iff {a b : Pr} : beqP a b = true ↔ a = b := by
  obtain ⟨a1, a2⟩ := a; obtain ⟨b1, b2⟩ := b
  simp [beqP, beqL]

end Go.Proofs.Ytpfklkmmhdpphac
