/- Contract of spec.InverseMatrix. Conditions: sizes. -/
import Derived.Test.YtdchckljggjaaaaInv3
namespace Go.Proofs.Ytdchckljggjaaaa
open Go.RowKit
set_option linter.unusedVariables false
set_option linter.unusedSimpArgs false
set_option maxRecDepth 100000

theorem mem_cutAt {r : List Int} {j : Nat} {x : Int} (h : x ∈ cutAt r j) : x ∈ r := by
  unfold cutAt at h
  rcases List.mem_append.1 h with h | h
  · exact List.mem_of_mem_take h
  · exact List.mem_of_mem_drop h
theorem mem_minorTo {xss : List (List Int)} {i j : Nat} : ∀ {k : Nat}, k ≤ xss.length → ∀ r ∈ minorTo xss i j k, ∃ s ∈ xss, r = cutAt s j
  | 0, _, r, hr => by simp [minorTo] at hr
  | k + 1, hk, r, hr => by
    unfold minorTo at hr
    split at hr
    · exact mem_minorTo (by omega) r hr
    · rcases List.mem_append.1 hr with h | h
      · exact mem_minorTo (by omega) r h
      · simp only [List.mem_singleton] at h
        exact ⟨_, nthR_mem (by omega), h⟩

/-- The minor's determinant, as the program and the reference reckon it. -/
theorem minorS_detF {xss : List (List Int)} {N i j : Nat} (hs : Sq (N + 1) xss) (hN : N ≤ 2) (hi : i < N + 1) (hj : j < N + 1) (hr : ∀ r ∈ xss, ∀ x ∈ r, -100 ≤ x ∧ x ≤ 100) :
    minorS N (minorL xss i j) = detF N (minorL xss i j) := by
  cases N with
  | zero => simp [minorS, detF]
  | succ N =>
    rw [minorS, if_neg (by omega)]
    refine (detF_detS (hs.minor hi hj) (by omega) (by omega) fun r hr1 x hx => ?_).symm
    obtain ⟨s, hs1, rfl⟩ := mem_minorTo (Nat.le_refl _) r hr1
    have := hr s hs1 x (mem_cutAt hx)
    omega

/-- An entry of the inverse as the reference reckons it. -/
theorem inv_entry {xss : List (List Int)} {N k t : Nat} {sg : Int} (hs : Sq (N + 1) xss) (hN : N ≤ 2) (hk : k < N + 1) (ht : t < N + 1) (hr : ∀ r ∈ xss, ∀ x ∈ r, -100 ≤ x ∧ x ≤ 100)
    (hd : detV xss = detS xss) (hsg : sg = if (k + t) % 2 = 1 then -1 else 1) :
    nth (nthR (invW xss) k) t = wrap64 (wrap64 (detS xss * sg) * minorS N (minorL xss t k)) := by
  rw [invW_nth' hs.1 hk, mulRow_nth (by rw [adjRow_length]; exact ht), adjRow_nth ht, adjAt, Nat.add_sub_cancel, minorS_detF hs hN ht hk hr, hd, wrap64_mul_l, hsg]
  split
  · rw [wrap64_mul_l]; congr 1; grind
  · congr 1; grind

end Go.Proofs.Ytdchckljggjaaaa
