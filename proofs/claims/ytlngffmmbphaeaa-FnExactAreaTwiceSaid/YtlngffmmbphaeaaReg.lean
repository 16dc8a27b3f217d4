/- Contracts of both IsRegion. Conditions: sizes. -/
import Derived.Test.YtlngffmmbphaeaaRegKit2
import Derived.Test.YtlngffmmbphaeaaHalf
namespace Go.Proofs.Ytlngffmmbphaeaa
open Go.RowKit
set_option linter.unusedVariables false
set_option linter.unusedSimpArgs false
set_option maxRecDepth 100000

def allHalf (z : Int) (hs : List Pr) : Bool := hs.all fun h => isHalf z h.1 h.2
def isReg (z : Int) (hs : List Pr) : Bool := inR z 1 3 && (decide (hs.length ≤ 8) && allHalf z hs)
theorem allHalf_step {z : Int} {hs : List Pr} {k : Nat} (h : k < hs.length) (ha : allHalf z (hs.take k) = true) (hn : isHalf z (nrm hs k) (bnd hs k) = true) : allHalf z (hs.take (k + 1)) = true := by
  rw [take_prAt h]; simp_all [allHalf, nrm, bnd]
theorem allHalf_stop {z : Int} {hs : List Pr} {k : Nat} (h : k < hs.length) (hn : isHalf z (nrm hs k) (bnd hs k) = false) : allHalf z hs = false := by
  simp only [allHalf, List.all_eq_false]
  exact ⟨prAt hs k, prAt_mem h, by simpa [nrm, bnd] using hn⟩
theorem isReg_facts {z : Int} {hs : List Pr} (h : isReg z hs = true) : 1 ≤ z ∧ z ≤ 3 ∧ hs.length ≤ 8 ∧ ∀ k, k < hs.length → isHalf z (nrm hs k) (bnd hs k) = true := by
  simp only [isReg, Bool.and_eq_true, decide_eq_true_eq, allHalf, List.all_eq_true] at h
  obtain ⟨h1, h2, h3⟩ := h
  have := inR_true h1
  exact ⟨this.1, this.2, h2, fun k hk => h3 _ (prAt_mem hk)⟩
theorem isHalf_facts {z : Int} {xs : List Int} {b : Int} (h : isHalf z xs b = true) : (xs.length : Int) = z ∧ allR xs (-20) 20 = true ∧ 0 < gcdL xs ∧ -200 ≤ b ∧ b ≤ 200 := by
  simp only [isHalf, Bool.and_eq_true, decide_eq_true_eq] at h
  have := inR_true h.2.2.2.2
  exact ⟨h.2.1, h.2.2.1, h.2.2.2.1, this.1, this.2⟩

end Go.Proofs.Ytlngffmmbphaeaa
