/- Contracts of both HasPoint. Conditions: sizes. -/
import Derived.Test.YtbdndkombedfnaaReg2
namespace Go.Proofs.Ytbdndkombedfnaa
open Go.RowKit
set_option linter.unusedVariables false
set_option linter.unusedSimpArgs false
set_option maxRecDepth 100000

/-- A point is in all halves. -/
def hasP (hs : List Pr) (xs : List Int) : Bool := hs.all fun h => decide (dotW h.1 xs ≤ h.2)
def hasPt (z : Int) (hs : List Pr) (xs : List Int) : Bool := isReg z hs && (isVec xs && (decide ((xs.length : Int) = z) && hasP hs xs))
theorem hasP_step {hs : List Pr} {xs : List Int} {k : Nat} (h : k < hs.length) (ha : hasP (hs.take k) xs = true) (hn : dotW (nrm hs k) xs ≤ bnd hs k) : hasP (hs.take (k + 1)) xs = true := by
  rw [take_prAt h]
  simp only [hasP, List.all_append, Bool.and_eq_true, List.all_cons, List.all_nil, Bool.and_true, decide_eq_true_eq] at ha ⊢
  exact ⟨ha, hn⟩
theorem hasP_stop {hs : List Pr} {xs : List Int} {k : Nat} (h : k < hs.length) (hn : ¬ dotW (nrm hs k) xs ≤ bnd hs k) : hasP hs xs = false := by
  simp only [hasP, List.all_eq_false]
  exact ⟨prAt hs k, prAt_mem h, by simpa [nrm, bnd] using hn⟩

theorem isReg_len {z : Int} {hs : List Pr} (h : isReg z hs = true) : ∀ k, k < hs.length → ((nrm hs k).length : Int) = z := fun k hk =>
  (isHalf_facts ((isReg_facts h).2.2.2 k hk)).1

end Go.Proofs.Ytbdndkombedfnaa
