/- How great the slice of a region may be. Conditions: none. -/
import Derived.Test.YtpfklkmmhdpphacSlice2
import Derived.Test.YtpfklkmmhdpphacSlice3
namespace Go.Proofs.Ytpfklkmmhdpphac
open Go.RowKit
set_option linter.unusedVariables false
set_option linter.unusedSimpArgs false
set_option maxRecDepth 100000

theorem tot_mostS (B : Nat) (xss : List (List Int)) (h : ∀ r, r ∈ xss → r.length ≤ B) : tot xss ≤ B * xss.length := by
  induction xss with
  | nil => simp [tot]
  | cons r rest ih =>
    have h1 := h r (by simp)
    have h2 := ih (fun x hx => h x (by simp [hx]))
    simp only [tot, List.map_cons, List.sum_cons, List.length_cons] at *
    rw [Nat.mul_add]
    omega
theorem regIf_lenS (z : Int) (hs : List Pr) : (regIf z hs).1.2.length ≤ 8 ∧ totH (regIf z hs).1.2 ≤ 24 := by
  cases h : isReg z hs
  · rw [regIf_no h]; simp [totH, nrms, tot]
  · rw [regIf_yes h]
    have hf := isReg_facts h
    refine ⟨hf.2.2.1, ?_⟩
    have := tot_mostS 3 (nrms hs) fun r hr => by
      obtain ⟨k, hk, rfl⟩ := List.getElem_of_mem hr
      rw [nrms_length] at hk
      have h1 := isReg_len h k hk
      rw [← nthR_eq, nrms_nth hk]
      have := hf.2.1
      omega
    rw [nrms_length] at this
    show tot (nrms hs) ≤ 24
    have := hf.2.2.1
    omega
theorem sliceV_len (z k n : Int) (hs : List Pr) : (sliceV z k n hs).1.2.length ≤ 8 ∧ totH (sliceV z k n hs).1.2 ≤ 24 := by
  unfold sliceV
  split
  · exact regIf_lenS _ _
  · simp [totH, nrms, tot]

end Go.Proofs.Ytpfklkmmhdpphac
