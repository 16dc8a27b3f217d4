/- How great a region may be. Conditions: none. -/
import Derived.Test.YtpfklkmmhdpphadGreatDoorMove2
namespace Go.Proofs.YtpfklkmmhdpphadGreatDoor
open Go.RowKit
set_option linter.unusedVariables false
set_option linter.unusedSimpArgs false
set_option maxRecDepth 100000

theorem tot_most (B : Nat) (xss : List (List Int)) (h : ∀ r, r ∈ xss → r.length ≤ B) : tot xss ≤ B * xss.length := by
  induction xss with
  | nil => simp [tot]
  | cons r rest ih =>
    have h1 := h r (by simp)
    have h2 := ih (fun x hx => h x (by simp [hx]))
    simp only [tot, List.map_cons, List.sum_cons, List.length_cons] at *
    rw [Nat.mul_add]
    omega
theorem regIf_len (z : Int) (hs : List Pr) : (regIf z hs).1.2.length ≤ 8 ∧ totH (regIf z hs).1.2 ≤ 24 := by
  cases h : isReg z hs
  · rw [regIf_no h]; simp [totH, nrms, tot]
  · rw [regIf_yes h]
    have hf := isReg_facts h
    refine ⟨hf.2.2.1, ?_⟩
    have := tot_most 3 (nrms hs) fun r hr => by
      obtain ⟨k, hk, rfl⟩ := List.getElem_of_mem hr
      rw [nrms_length] at hk
      have h1 := isReg_len h k hk
      rw [← nthR_eq, nrms_nth hk]
      have := hf.2.1
      omega
    rw [nrms_length] at this
    show tot (nrms hs) ≤ 24
    have := hf.2.2.1
    omega
theorem moveV_len (z : Int) (hs : List Pr) (xs : List Int) : (moveV z hs xs).1.2.length ≤ 8 ∧ totH (moveV z hs xs).1.2 ≤ 24 := by
  unfold moveV
  split
  · exact regIf_len _ _
  · simp [totH, nrms, tot]

end Go.Proofs.YtpfklkmmhdpphadGreatDoor
