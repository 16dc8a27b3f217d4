/- Contract of impl.TimesMatrix. Conditions: sizes. -/
import Derived.Test.YtpfklkmmhdpphaaGreatDoorTimes
namespace Go.Proofs.YtpfklkmmhdpphaaGreatDoor
open Go.RowKit
set_option linter.unusedVariables false
set_option linter.unusedSimpArgs false
set_option maxRecDepth 100000

/-- The row of a product behind i rounds. -/
def rowTo (yss : List (List Int)) (r : List Int) (n i : Nat) : List Int := (List.range n).map fun j => dotTo (colL yss j) r i
theorem rowTo_length (yss : List (List Int)) (r : List Int) (n i : Nat) : (rowTo yss r n i).length = n := by simp [rowTo]
theorem rowTo_nth {yss : List (List Int)} {r : List Int} {n i j : Nat} (h : j < n) : nth (rowTo yss r n i) j = dotTo (colL yss j) r i := by
  rw [nth_eq (by rw [rowTo_length]; exact h)]; simp [rowTo]
theorem rowTo_zero (yss : List (List Int)) (r : List Int) (n : Nat) : rowTo yss r n 0 = List.replicate n 0 := by
  apply List.ext_getElem
  · simp [rowTo]
  · intro i h1 h2; simp [rowTo, dotTo]
theorem rowTo_next {yss : List (List Int)} {r : List Int} {n i j : Nat} (h : j < n) (hi : i < yss.length) :
    nth (rowTo yss r n (i + 1)) j = wrap64 (nth (rowTo yss r n i) j + wrap64 (nth r i * nth (nthR yss i) j)) := by
  rw [rowTo_nth h, rowTo_nth h, dotTo, colL_nth hi, Int.mul_comm]
theorem rowTo_all {yss : List (List Int)} {r : List Int} {n : Nat} (h : yss.length = n) : rowTo yss r n n = applyW (turnL yss) r := by
  subst h
  simp only [rowTo, applyW, turnL, List.map_map]
  apply List.map_congr_left
  intro j _
  simp [Function.comp, dotW, colL_length]

theorem tot_bound (B : Nat) (xss : List (List Int)) (h : ∀ r, r ∈ xss → r.length ≤ B) : tot xss ≤ B * xss.length := by
  induction xss with
  | nil => simp [tot]
  | cons r rest ih =>
    have h1 := h r (by simp)
    have h2 := ih (fun x hx => h x (by simp [hx]))
    simp only [tot, List.map_cons, List.sum_cons, List.length_cons] at *
    rw [Nat.mul_add]
    omega
theorem matIf_len (xss : List (List Int)) : (matIf xss).1.length ≤ 3 ∧ tot (matIf xss).1 ≤ 9 := by
  cases h : isMat xss
  · rw [matIf_no h]; simp [tot]
  · rw [matIf_yes h]
    obtain ⟨hs, hl1, hl3, _⟩ := isMat_facts h
    refine ⟨hl3, ?_⟩
    have := tot_bound 3 xss fun r hr => by
      obtain ⟨k, hk, rfl⟩ := List.getElem_of_mem hr
      have := hs.2 k hk
      rw [nthR_eq hk] at this
      omega
    show tot xss ≤ 9
    omega
theorem timesV_len (xss yss : List (List Int)) : (timesV xss yss).1.length ≤ 3 ∧ tot (timesV xss yss).1 ≤ 9 := by
  unfold timesV
  split
  · exact matIf_len _
  · simp [tot]

end Go.Proofs.YtpfklkmmhdpphaaGreatDoor
