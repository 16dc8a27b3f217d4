/- Sizes of the points of a region; contracts of CountIn. Conditions: sizes. -/
import Derived.Test.YtpfklkmmhdpphacPts2
import Derived.Test.YtpfklkmmhdpphacJnVecFns2
namespace Go.Proofs.Ytpfklkmmhdpphac
open Go.RowKit
set_option linter.unusedVariables false
set_option linter.unusedSimpArgs false
set_option maxRecDepth 100000

theorem tot_rows (B : Nat) (xss : List (List Int)) (h : ∀ r, r ∈ xss → r.length ≤ B) : tot xss ≤ B * xss.length := by
  induction xss with
  | nil => simp [tot]
  | cons r t ih =>
    have h1 := h r (by simp)
    have h2 := ih (fun s hs => h s (by simp [hs]))
    simp only [tot, List.map_cons, List.sum_cons, List.length_cons, Nat.mul_succ] at h2 ⊢
    omega
theorem ptsV_row {z : Int} {hs : List Pr} : ∀ r ∈ ptsV z hs, (r.length : Int) = z ∧ r.length ≤ 3 ∧ 1 ≤ r.length := fun r hr => by
  cases h : isReg z hs
  · rw [ptsV_no h] at hr; cases hr
  · obtain ⟨h1, h3, _⟩ := isReg_facts h
    rw [ptsV, if_pos h] at hr
    have := allTo_rows (-6) 6 z.toNat r ((List.mem_filter.1 hr).1)
    omega
theorem ptsV_len (z : Int) (hs : List Pr) : (ptsV z hs).length ≤ 8120601 ∧ tot (ptsV z hs) ≤ 24361803 := by
  have hl : (ptsV z hs).length ≤ 8120601 := by
    cases h : isReg z hs
    · rw [ptsV_no h]; simp
    · obtain ⟨h1, h3, _⟩ := isReg_facts h
      have := boxOf_len h1 h3
      rw [ptsV, if_pos h]
      exact Nat.le_trans (List.length_filter_le _ _) this
  have := tot_rows 3 (ptsV z hs) (fun r hr => (ptsV_row r hr).2.1)
  omega

def countV (z : Int) (hs : List Pr) : Int := if isReg z hs = true then ((ptsV z hs).length : Int) else -1

theorem implCount_any (z : Int) (p : Option Addr) (n c : Nat) (hs : List Pr) (w : World) (hn : n ≤ 9223372036854775807) (hx : Prs w p n hs) :
    Calls Try.prog 17 #[.agg #[.int .i64 z, .slice p n c]] w (Ret (.int .i64 (countV z hs)) w) := by
  obtain ⟨b0, b1⟩ := box1c w (.int .i64 z) (.slice p n c) 26
  have hT := boxed w (.cells #[.int .i64 z, .slice p n c] 26)
  have hx1 := hx.below hT
  have hv := Lib.hid (show countV z hs = if isReg z hs = true then ((ptsV z hs).length : Int) else -1 from rfl)
  have hpl := (ptsV_len z hs).1
  cases h1 : isReg z hs
  · go_enter Try.func17, Try.ntmps17
    go_wp2_with fail
    refine (implIsRegion_any _ _ _ _ _ _ hn hx1).mono ?_
    rw [h1]
    rintro e w1 ⟨rfl, hb1⟩
    go_wp2
    go_ret
    exact ⟨by rw [hv.out, h1]; rfl, Below.step hT hb1⟩
  · go_enter Try.func17, Try.ntmps17
    go_wp2_with fail
    refine (implIsRegion_any _ _ _ _ _ _ hn hx1).mono ?_
    rw [h1]
    rintro e w1 ⟨rfl, hb1⟩
    have hx2 := hx1.below hb1
    have hT1 := Below.step hT hb1
    replace b0 := Below.cells hb1 b0
    replace b1 := Below.cells hb1 b1
    go_wp2_with fail
    refine (implPoints_any _ _ _ _ _ _ hn hx2).mono ?_
    rintro e w2 ⟨p2, n2, c2, rfl, ho2, hb2⟩
    rw [ho2.len] at hpl
    go_wp2
    go_ret
    exact ⟨by rw [hv.out, h1, ho2.len]; rfl, Below.step hT1 hb2⟩

theorem specCount_any (z : Int) (p : Option Addr) (n c : Nat) (hs : List Pr) (w : World) (hn : n ≤ 9223372036854775807) (hx : Prs w p n hs) :
    Calls Try.prog 18 #[.agg #[.int .i64 z, .slice p n c]] w (Ret (.int .i64 (countV z hs)) w) := by
  obtain ⟨b0, b1⟩ := box1c w (.int .i64 z) (.slice p n c) 26
  have hT := boxed w (.cells #[.int .i64 z, .slice p n c] 26)
  have hx1 := hx.below hT
  have hv := Lib.hid (show countV z hs = if isReg z hs = true then ((ptsV z hs).length : Int) else -1 from rfl)
  have hpl := (ptsV_len z hs).1
  cases h1 : isReg z hs
  · go_enter Try.func18, Try.ntmps18
    go_wp2_with fail
    refine (specIsRegion_any _ _ _ _ _ _ hn hx1).mono ?_
    rw [h1]
    rintro e w1 ⟨rfl, hb1⟩
    go_wp2
    go_ret
    exact ⟨by rw [hv.out, h1]; rfl, Below.step hT hb1⟩
  · go_enter Try.func18, Try.ntmps18
    go_wp2_with fail
    refine (specIsRegion_any _ _ _ _ _ _ hn hx1).mono ?_
    rw [h1]
    rintro e w1 ⟨rfl, hb1⟩
    have hx2 := hx1.below hb1
    have hT1 := Below.step hT hb1
    replace b0 := Below.cells hb1 b0
    replace b1 := Below.cells hb1 b1
    go_wp2_with fail
    refine (specPoints_any _ _ _ _ _ _ hn hx2).mono ?_
    rintro e w2 ⟨p2, n2, c2, rfl, ho2, hb2⟩
    rw [ho2.len] at hpl
    go_wp2
    go_ret
    exact ⟨by rw [hv.out, h1, ho2.len]; rfl, Below.step hT1 hb2⟩

end Go.Proofs.Ytpfklkmmhdpphac
