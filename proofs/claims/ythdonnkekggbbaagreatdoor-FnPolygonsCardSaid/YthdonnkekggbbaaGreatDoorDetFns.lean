/- Contracts of minors and determinants. Conditions: sizes. -/
import Derived.Test.YthdonnkekggbbaaGreatDoorDet
import Derived.Test.YthdonnkekggbbaaGreatDoorJnTexts
namespace Go.Proofs.YthdonnkekggbbaaGreatDoor
open Go.RowKit
set_option linter.unusedVariables false
set_option linter.unusedSimpArgs false
set_option maxRecDepth 100000

theorem Ints.take {w : World} {p : Option Addr} {n : Nat} {xs : List Int} (h : Ints w p n xs) {k : Nat} (hk : k ≤ n) : Ints w p k (xs.take k) := by
  have hl := h.len
  refine ⟨by simp; omega, fun i hi => ?_⟩
  obtain ⟨b, o, hp, hc⟩ := h.cell i (by omega)
  refine ⟨b, o, hp, ?_⟩
  rw [hc, nth_eq (by omega), nth_eq (by simp; omega)]
  simp
theorem Ints.drop {w : World} {b o n : Nat} {xs : List Int} (h : Ints w (some ⟨b, o, none⟩) n xs) (k : Nat) : Ints w (some ⟨b, o + k, none⟩) (n - k) (xs.drop k) := by
  have hl := h.len
  refine ⟨by simp; omega, fun i hi => ?_⟩
  obtain ⟨b', o', hp, hc⟩ := h.cell (k + i) (by omega)
  injection hp with hp
  injection hp with e1 e2
  subst e1; subst e2
  refine ⟨_, _, rfl, ?_⟩
  rw [Nat.add_assoc, hc, nth_eq (by omega), nth_eq (by simp; omega)]
  simp
theorem cutAt_len {r : List Int} {j : Nat} (h : j < r.length) : (cutAt r j).length = r.length - 1 := by simp [cutAt]; omega

theorem minorTo_len (xss : List (List Int)) (i j k : Nat) : (minorTo xss i j k).length = if i < k then k - 1 else k := by
  induction k with
  | zero => simp [minorTo]
  | succ k ih =>
    rw [minorTo]
    split
    · rename_i h; subst h; rw [ih]; simp
    · rw [List.length_append, ih]
      simp only [List.length_cons, List.length_nil]
      split <;> split <;> omega
theorem minorTo_rows {xss : List (List Int)} {m0 : Nat} (h : ∀ k, k < xss.length → (nthR xss k).length = m0) {i j : Nat} (hj : j < m0) (k : Nat) (hk : k ≤ xss.length) :
    ∀ r ∈ minorTo xss i j k, r.length = m0 - 1 := by
  induction k with
  | zero => simp [minorTo]
  | succ k ih =>
    rw [minorTo]
    split
    · exact ih (by omega)
    · intro r hr
      rw [List.mem_append] at hr
      rcases hr with hr | hr
      · exact ih (by omega) r hr
      · simp only [List.mem_singleton] at hr
        subst hr
        rw [cutAt_len (by rw [h k (by omega)]; exact hj), h k (by omega)]
theorem Sq.minor {N : Nat} {xss : List (List Int)} (h : Sq (N + 1) xss) {i j : Nat} (hi : i < N + 1) (hj : j < N + 1) : Sq N (minorL xss i j) := by
  have hl := h.1
  refine ⟨by rw [minorL, minorTo_len, hl, if_pos hi]; omega, fun k hk => ?_⟩
  have hlen : (minorL xss i j).length = N := by rw [minorL, minorTo_len, hl, if_pos hi]; omega
  have hmem : nthR (minorL xss i j) k ∈ minorL xss i j := nthR_mem (by omega)
  have := minorTo_rows (m0 := N + 1) (fun k hk => h.2 k (by omega)) hj xss.length (Nat.le_refl _) _ hmem
  omega

end Go.Proofs.YthdonnkekggbbaaGreatDoor
