/- Sizes of a hull. Conditions: none. -/
import Derived.Test.YtododompjocgoaaHullI
import Derived.Test.YtododompjocgoaaOpenM
namespace Go.Proofs.Ytododompjocgoaa
open Go.RowKit
set_option linter.unusedVariables false
set_option linter.unusedSimpArgs false
set_option maxRecDepth 100000

theorem totH_rows (B : Nat) (xss : List (List Int)) (h : ∀ r, r ∈ xss → r.length ≤ B) : tot xss ≤ B * xss.length := by
  induction xss with
  | nil => simp [tot]
  | cons r t ih =>
    have h1 := h r (by simp)
    have h2 := ih (fun s hs => h s (by simp [hs]))
    simp only [tot, List.map_cons, List.sum_cons, List.length_cons, Nat.mul_succ] at h2 ⊢
    omega
theorem hullV_len (xss : List (List Int)) : (hullV xss).1.length ≤ 12 ∧ tot (hullV xss).1 ≤ 24 := by
  unfold hullV
  split
  · rename_i h
    have hlen : (hullL (sortL xss)).length ≤ 12 := by simpa [hullL] using h.2.2.2.2
    have := totH_rows 2 (hullL (sortL xss)) (fun r hr => by
      simp only [hullL, List.mem_map] at hr
      obtain ⟨i, hi, rfl⟩ := hr
      have := (isPt_in (List.all_eq_true.1 h.2.1 _ (sortL_mem (nthR_mem (idxH_lt hi))))).len
      omega)
    refine ⟨hlen, ?_⟩
    show tot (hullL (sortL xss)) ≤ 24
    omega
  · simp [tot]

end Go.Proofs.Ytododompjocgoaa
