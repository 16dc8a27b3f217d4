/- Contracts of both IsRegion. Conditions: sizes. -/
import Derived.Test.YtpfklkmmhdpphadGreatDoorJnOps2
namespace Go.Proofs.YtpfklkmmhdpphadGreatDoor
open Go.RowKit
set_option linter.unusedVariables false
set_option linter.unusedSimpArgs false
set_option maxRecDepth 100000

def allHalf (z : Int) (hs : List Pr) : Bool := hs.all fun h => isHalf z h.1 h.2
def isReg (z : Int) (hs : List Pr) : Bool := inR z 1 3 && (decide (hs.length ≤ 8) && allHalf z hs)
theorem allHalf_step {z : Int} {hs : List Pr} {k : Nat} (h : k < hs.length) (ha : allHalf z (hs.take k) = true) (hn : isHalf z (nrm hs k) (bnd hs k) = true) : allHalf z (hs.take (k + 1)) = true := by
  rw [take_prAt h]; simp_all [allHalf, nrm, bnd]
theorem allHalf_stop {z : Int} {hs : List Pr} {k : Nat} (h : k < hs.length) (hn : isHalf z (nrm hs k) (bnd hs k) = false) : allHalf z hs = false := by
  simp only [allHalf, List.all_eq_false]
  exact ⟨prAt hs k, prAt_mem h, by simpa [nrm, bnd] using hn⟩
theorem isReg_facts {z : Int} {hs : List Pr} (h : isReg z hs = true) : 1 ≤ z ∧ z ≤ 3 ∧ hs.length ≤ 8 ∧ ∀ k, k < hs.length → isHalf z (nrm hs k) (bnd hs k) = true := by
  simp only [isReg, Bool.and_eq_true, decide_eq_true_eq, allHalf, List.all_eq_true] at h
  obtain ⟨h1, h2, h3⟩ := h
  have := inR_true h1
  exact ⟨this.1, this.2, h2, fun k hk => h3 _ (prAt_mem hk)⟩
theorem isHalf_facts {z : Int} {xs : List Int} {b : Int} (h : isHalf z xs b = true) : (xs.length : Int) = z ∧ allR xs (-20) 20 = true ∧ 0 < gcdL xs ∧ -200 ≤ b ∧ b ≤ 200 := by
  simp only [isHalf, Bool.and_eq_true, decide_eq_true_eq] at h
  have := inR_true h.2.2.2.2
  exact ⟨h.2.1, h.2.2.1, h.2.2.2.1, this.1, this.2⟩

theorem implIsRegion_any (z : Int) (p : Option Addr) (n c : Nat) (hs : List Pr) (w : World) (hn : n ≤ 9223372036854775807) (hx : Prs w p n hs) :
    Calls Tryz.prog 23 #[.agg #[.int .i64 z, .slice p n c]] w (Ret (.bool (isReg z hs)) w) := by
  have hl := Lib.hid hx.len
  cases h1 : inR z 1 3
  · go_enter Tryz.func23, Tryz.ntmps23
    go_wp2_with (go_at_call 57; (with_reducible refine (within_any _ _ _ _).mono ?_); rintro e w' ⟨rfl, rfl⟩)
    go_ret
    exact ⟨ret_bool (by simp [isReg, h1]), boxed _ _⟩
  by_cases h2 : n ≤ 8
  · have h2' : ¬ (8 < n) := by omega
    obtain ⟨k0, k1⟩ := box1c w (.int .i64 z) (.slice p n c) 26
    have hT := boxed w (.cells #[.int .i64 z, .slice p n c] 26)
    have hx1 := hx.below hT
    have hsz : w.heap.size < (w.alloc (.cells #[.int .i64 z, .slice p n c] 26)).heap.size := by simp
    go_enter Tryz.func23, Tryz.ntmps23
    go_wp2_with (go_at_call 57; (with_reducible refine (within_any _ _ _ _).mono ?_); rintro e w' ⟨rfl, rfl⟩)
    generalize w.alloc (.cells #[.int .i64 z, .slice p n c] 26) = W at *
    go_loopw [18] (fun i wr => ∃ k : Nat, k ≤ n ∧ i = .int .i64 k ∧ Hid (allHalf z (hs.take k) = true) ∧ Below W.heap.size W wr) (fun i _ => n - (intOf i).toNat)
    case atStart => exact ⟨0, Nat.zero_le _, rfl, rfl, Below.refl _ _⟩
    case round =>
      obtain ⟨k, hk, rfl, hall, hb⟩ := hrel
      have k0 := (hb.cell (p := ⟨w.heap.size, 0, none⟩) hsz).trans k0
      have k1 := (hb.cell (p := ⟨w.heap.size, 1, none⟩) hsz).trans k1
      by_cases hlt : k < n
      · obtain ⟨b, o, q, m, d, rfl, hc, hcb, hmd, hd, hi⟩ := (hx1.below hb).cell k hlt
        have hl' : k < hs.length := by rw [hl.out]; exact hlt
        have ksz := hb.size
        have klt : w.heap.size < wr.heap.size := by omega
        have k0a := ((boxed wr (.cells #[.slice q m d, .int .i64 (bnd hs k)] 36)).cell (p := ⟨w.heap.size, 0, none⟩) klt).trans k0
        cases hr : isHalf z (nrm hs k) (bnd hs k)
        all_goals
          go_wp2_with fail
          refine (implIsHalf_any _ _ _ _ _ _ _ (by omega) (hi.alloc _)).mono ?_
          rw [hr]
          rintro e w1 ⟨rfl, hb1⟩
          have hb2 := Below.step hb (Below.step (boxed _ _) hb1)
          go_wp2
        · go_ret
          exact ⟨ret_bool (by rw [isReg, allHalf_stop hl' hr]; simp), Below.step hT hb2⟩
        · go_roundw
          case rel => exact ⟨k + 1, by omega, by go_num, allHalf_step hl' hall.out hr, hb2⟩
          case measure => simp [intOf]; omega
      · go_wp2
        go_ret
        have hkn : k = hs.length := by have := hl.out; omega
        refine ⟨ret_bool ?_, Below.step hT hb⟩
        have := hall.out
        rw [hkn, List.take_length] at this
        rw [isReg, h1, this, hl.out]
        simp [h2]
  · have h2' : 8 < n := by omega
    go_enter Tryz.func23, Tryz.ntmps23
    go_wp2_with (go_at_call 57; (with_reducible refine (within_any _ _ _ _).mono ?_); rintro e w' ⟨rfl, rfl⟩)
    go_ret
    exact ⟨ret_bool (by rw [isReg, hl.out]; simp [h2]), boxed _ _⟩

end Go.Proofs.YtpfklkmmhdpphadGreatDoor
