/- Contracts of both HermiteOf. Conditions: sizes. -/
import Derived.Test.YtdchckljggjaaaaHerm6
import Derived.Test.YtdchckljggjaaaaInv5
namespace Go.Proofs.Ytdchckljggjaaaa
open Go.RowKit
set_option linter.unusedVariables false
set_option linter.unusedSimpArgs false
set_option maxRecDepth 100000

def hermV (xss : List (List Int)) : List (List Int) × Bool := if detV xss = 0 then ([], false) else matIf (hermW xss)
theorem hermV_len (xss : List (List Int)) : (hermV xss).1.length ≤ 3 ∧ tot (hermV xss).1 ≤ 9 := by
  unfold hermV
  split
  · simp [tot]
  · exact matIf_len _

theorem herm_start {n : Nat} {xss : List (List Int)} (hl : xss.length = n) (h : detV xss ≠ 0) : 1 ≤ n ∧ n ≤ 3 ∧ Inv n 0 xss := by
  have hmat : isMat xss = true := by
    cases h1 : isMat xss
    · simp [detV, h1] at h
    · rfl
  obtain ⟨hs, hl1, hl3, hr⟩ := isMat_facts hmat
  rw [hl] at hs hl1 hl3
  exact ⟨hl1, hl3, Inv.start hs hl1 hl3 hr (by simpa [detV, hmat] using h)⟩

theorem implHermiteOf_any (p : Option Addr) (n c : Nat) (xss : List (List Int)) (w : World) (hn : n ≤ 1048576) (hx : Intss w p n xss) :
    Calls Try.prog 41 #[.slice p n c] w (NewMB w (hermV xss)) := by
  have hl := hx.len
  by_cases h0 : detV xss = 0
  · go_enter Try.func41, Try.ntmps41
    go_wp2_with fail
    refine (implDetOf_any _ _ _ _ _ (by omega) hx).mono ?_
    rw [h0]
    rintro e w1 ⟨rfl, hb1⟩
    go_wp2_with fail
    go_ret2
    rw [show hermV xss = ([], false) by simp [hermV, h0]]
    exact NewMB.none_ hb1
  · obtain ⟨h1, h3, hI⟩ := herm_start hl h0
    have hne : (detV xss == 0) = false := by simpa using h0
    have HV := Lib.hid (show hermV xss = matIf (hermTo n xss n) by simp [hermV, h0, hermW, hl])
    have HI := Lib.hid hI
    clear hI
    go_enter Try.func41, Try.ntmps41
    go_wp2_with fail
    refine (implDetOf_any _ _ _ _ _ (by omega) hx).mono ?_
    rintro e w1 ⟨rfl, hb1⟩
    go_wp2_with fail
    refine (hermite_any _ _ _ _ _ h1 h3 (hx.below hb1) HI.out).mono ?_
    rintro e w2 ⟨p2, c2, rfl, ho2, hb2⟩
    go_wp2_with fail
    refine (matrixOf_any _ _ _ _ _ _ _ (by omega) ho2).mono ?_
    rintro e w3 ⟨⟨p3, n3, c3, rfl, ho3⟩, rfl⟩
    go_wp2_with fail
    go_ret2
    rw [HV.out]
    exact ⟨_, _, _, rfl, ho3.widen hb1.size (Nat.le_refl _), Below.step hb1 hb2⟩

theorem specHermiteOf_any (p : Option Addr) (n c : Nat) (xss : List (List Int)) (w : World) (hn : n ≤ 1048576) (hx : Intss w p n xss) :
    Calls Try.prog 42 #[.slice p n c] w (NewMB w (hermV xss)) := by
  have hl := hx.len
  by_cases h0 : detV xss = 0
  · go_enter Try.func42, Try.ntmps42
    go_wp2_with fail
    refine (specDetOf_any _ _ _ _ _ (by omega) hx).mono ?_
    rw [h0]
    rintro e w1 ⟨rfl, hb1⟩
    go_wp2_with fail
    go_ret2
    rw [show hermV xss = ([], false) by simp [hermV, h0]]
    exact NewMB.empty hb1
  · obtain ⟨h1, h3, hI⟩ := herm_start hl h0
    have hne : (detV xss == 0) = false := by simpa using h0
    have HV := Lib.hid (show hermV xss = matIf (hermTo n xss n) by simp [hermV, h0, hermW, hl])
    have HI := Lib.hid hI
    clear hI
    cases h2 : isMat (hermTo n xss n)
    all_goals
      have H2 := Lib.hid h2
      go_enter Try.func42, Try.ntmps42
      go_wp2_with fail
      refine (specDetOf_any _ _ _ _ _ (by omega) hx).mono ?_
      rintro e w1 ⟨rfl, hb1⟩
      go_wp2_with fail
      refine (l3Hermite_any _ _ _ _ _ h1 h3 (hx.below hb1) HI.out).mono ?_
      rintro e w2 ⟨p2, c2, rfl, ho2, hb2⟩
      have hbw := Below.step hb1 hb2
      go_wp2_with fail
      refine (specIsMatrix_any _ _ _ _ _ (by omega) ho2.rd).mono ?_
      rw [H2.out]
      rintro e w3 ⟨rfl, rfl⟩
      go_wp2_with fail
      go_ret2
      rw [HV.out]
    · rw [matIf_no H2.out]
      exact NewMB.empty hbw
    · rw [matIf_yes H2.out]
      exact ⟨_, _, _, rfl, ho2.widen hb1.size (Nat.le_refl _), hbw⟩

end Go.Proofs.Ytdchckljggjaaaa
