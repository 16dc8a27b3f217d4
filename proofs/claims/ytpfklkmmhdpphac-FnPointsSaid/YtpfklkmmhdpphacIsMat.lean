/- Contracts of both IsMatrix. Conditions: sizes. -/
import Derived.Test.YtpfklkmmhdpphacJnVecFns2
namespace Go.Proofs.Ytpfklkmmhdpphac
open Go.RowKit
set_option linter.unusedVariables false
set_option linter.unusedSimpArgs false
set_option maxRecDepth 100000

/-- A row of a matrix with n columns. -/
def rowOk (n : Nat) (r : List Int) : Bool := decide (r.length = n) && allR r (-100) 100
def rowsOk (n : Nat) (xss : List (List Int)) : Bool := xss.all (rowOk n)
def isMat (xss : List (List Int)) : Bool := inR xss.length 1 3 && rowsOk xss.length xss

theorem rowsOk_step {n : Nat} {xss : List (List Int)} {k : Nat} (h : k < xss.length) (ha : rowsOk n (xss.take k) = true) (hr : rowOk n (nthR xss k) = true) : rowsOk n (xss.take (k + 1)) = true := by
  rw [take_nthR h]; simp_all [rowsOk]
theorem rowsOk_stop {n : Nat} {xss : List (List Int)} {k : Nat} (h : k < xss.length) (hr : rowOk n (nthR xss k) = false) : rowsOk n xss = false := by
  rw [nthR_eq h] at hr
  simp only [rowsOk, List.all_eq_false]
  exact ⟨xss[k], List.getElem_mem h, by simp [hr]⟩
theorem rowOk_yes {n : Nat} {r : List Int} (h1 : r.length = n) (h2 : allR r (-100) 100 = true) : rowOk n r = true := by simp [rowOk, h1, h2]
theorem rowOk_len {n : Nat} {r : List Int} (h1 : ¬ r.length = n) : rowOk n r = false := by simp [rowOk, h1]
theorem rowOk_no {n : Nat} {r : List Int} (h2 : allR r (-100) 100 = false) : rowOk n r = false := by simp [rowOk, h2]

end Go.Proofs.Ytpfklkmmhdpphac
