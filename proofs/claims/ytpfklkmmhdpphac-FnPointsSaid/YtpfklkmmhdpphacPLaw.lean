/- Plain laws of points: the least and the greatest; the slices' counts. Conditions: none. -/
import Derived.Test.YtpfklkmmhdpphacBest2
import Derived.Test.YtpfklkmmhdpphacSlice
import Derived.Test.YtpfklkmmhdpphacJnVecFns2
namespace Go.Proofs.Ytpfklkmmhdpphac
open Go.RowKit
set_option linter.unusedVariables false
set_option linter.unusedSimpArgs false
set_option maxRecDepth 100000

theorem bestIdx_ge (s : Int) (a : List Int) (L : List (List Int)) : ∀ k j, j < k → s * dotW a (nthR L j) ≤ s * dotW a (nthR L (bestIdx s a L k))
  | 0, j, h => by omega
  | k + 1, j, h => by
    unfold bestIdx
    by_cases e : j = k
    · subst e
      split <;> omega
    · have ih := bestIdx_ge s a L k j (by omega)
      split <;> omega
theorem dotTo_comm (xs ys : List Int) : ∀ k, dotTo xs ys k = dotTo ys xs k
  | 0 => rfl
  | k + 1 => by rw [dotTo, dotTo, dotTo_comm xs ys k, Int.mul_comm]
theorem dotW_comm {xs ys : List Int} (h : xs.length = ys.length) : dotW xs ys = dotW ys xs := by rw [dotW, dotW, dotTo_comm, h]

theorem best_in {s z : Int} {hs : List Pr} {v x : List Int} (h : bestV s z hs v = (x, true)) : x ∈ ptsV z hs ∧ isReg z hs = true ∧ x.length = v.length ∧ ∀ y ∈ ptsV z hs, s * dotW v y ≤ s * dotW v x := by
  unfold bestV at h
  split at h
  · rename_i hc
    obtain ⟨hv, hl, hne⟩ := hc
    have hx : nthR (ptsV z hs) (bestIdx s v (ptsV z hs) (ptsV z hs).length) = x := congrArg Prod.fst h
    have hlen : 0 < (ptsV z hs).length := by
      cases hp : ptsV z hs
      · exact absurd hp hne
      · simp
    have hlt : bestIdx s v (ptsV z hs) (ptsV z hs).length < (ptsV z hs).length := by
      have := bestIdx_lt s v (ptsV z hs) ((ptsV z hs).length - 1)
      rw [show (ptsV z hs).length - 1 + 1 = (ptsV z hs).length by omega] at this
      exact this
    have hm : x ∈ ptsV z hs := by rw [← hx]; exact nthR_mem hlt
    have hreg : isReg z hs = true := by
      cases hr : isReg z hs
      · rw [ptsV_no hr] at hm; cases hm
      · rfl
    have hz := (isReg_facts hreg)
    refine ⟨hm, hreg, ?_, fun y hy => ?_⟩
    · have := ptsV_row x hm
      omega
    · obtain ⟨j, hj, e⟩ := List.getElem_of_mem hy
      rw [← e, ← nthR_eq hj, ← hx]
      exact bestIdx_ge s v (ptsV z hs) _ j hj
  · cases h
theorem best_has {z : Int} {hs : List Pr} {x : List Int} (hreg : isReg z hs = true) (hm : x ∈ ptsV z hs) : hasPt z hs x = true := by
  rw [← ptsV_has hreg] at hm
  exact (List.mem_filter.1 hm).2
/-- The least one's product is at most the greatest one's, and both are points. -/
theorem best_law {z : Int} {hs : List Pr} {v x : List Int} (h : bestV (-1) z hs v = (x, true)) : ∃ y, bestV 1 z hs v = (y, true) ∧ dotW x v ≤ dotW y v ∧ hasPt z hs x = true ∧ hasPt z hs y = true ∧ x.length = v.length ∧ y.length = v.length := by
  obtain ⟨h1, h2, h3, h4⟩ := best_in h
  have hb : ∃ y, bestV 1 z hs v = (y, true) := by
    unfold bestV at h ⊢
    split at h
    · rename_i hc
      exact ⟨_, if_pos hc⟩
    · cases h
  obtain ⟨y, hy⟩ := hb
  obtain ⟨g1, g2, g3, g4⟩ := best_in hy
  refine ⟨y, hy, ?_, best_has h2 h1, best_has h2 g1, h3, g3⟩
  have := g4 x h1
  rw [dotW_comm h3, dotW_comm g3]
  omega

/-- The product, not wrapped. -/
def dz : List Int → List Int → Int
  | a :: us, x :: xs => a * x + dz us xs
  | _, _ => 0
theorem dz_app : ∀ {us xs : List Int} (a x : Int), us.length = xs.length → dz (us ++ [a]) (xs ++ [x]) = dz us xs + a * x
  | [], [], a, x, _ => by simp [dz]
  | b :: us, y :: xs, a, x, h => by
    have := dz_app (us := us) (xs := xs) a x (by simpa using h)
    simp only [List.cons_append, dz, this]
    omega
theorem dotTo_dz {xs ys : List Int} (h : xs.length = ys.length) : ∀ k, k ≤ xs.length → dotTo xs ys k = wrap64 (dz (xs.take k) (ys.take k))
  | 0, _ => by simp [dotTo, dz, wrap64]
  | k + 1, hk => by
    rw [dotTo, dotTo_dz h k (by omega), take_nth (by omega), take_nth (by omega), dz_app _ _ (by simp; omega), wrap64_add_l, wrap64_add_r]
theorem dotW_dz {xs ys : List Int} (h : xs.length = ys.length) : dotW xs ys = wrap64 (dz xs ys) := by
  rw [dotW, dotTo_dz h _ (Nat.le_refl _), List.take_length, h, List.take_length]
theorem dz_bound {A B : Int} : ∀ {us xs : List Int}, (∀ a ∈ us, Abs A a) → (∀ x ∈ xs, Abs B x) → 0 ≤ A * B → Abs (A * B * us.length) (dz us xs)
  | [], _, _, _, h => by simp [dz, Abs]
  | a :: us, [], h1, h2, h => by
    have : 0 ≤ A * B * ((a :: us).length : Int) := Int.mul_nonneg h (by omega)
    simp only [dz, Abs]; omega
  | a :: us, x :: xs, h1, h2, h => by
    have ih := dz_bound (us := us) (xs := xs) (fun b hb => h1 b (by simp [hb])) (fun b hb => h2 b (by simp [hb])) h
    have hm := (h1 a (by simp)).mul (h2 x (by simp))
    have := hm.add ih
    have e : A * B * ((a :: us).length : Int) = A * B + A * B * (us.length : Int) := by
      simp only [List.length_cons, Int.natCast_add, Int.mul_add]; omega
    rw [e]
    exact this
theorem gcdTo_zero {xs : List Int} : ∀ k, gcdTo xs k = 0 → ∀ j, j < k → nth xs j = 0
  | 0, _, j, h => by omega
  | k + 1, h, j, hj => by
    rw [gcdTo, gcdI] at h
    have h1 : Int.gcd (gcdTo xs k) (nth xs k) = 0 := by omega
    rw [Int.gcd_eq_zero_iff] at h1
    by_cases e : j = k
    · rw [e]; exact h1.2
    · exact gcdTo_zero k h1.1 j (by omega)
theorem dz_zero : ∀ {us xs : List Int}, (∀ a ∈ us, a = 0) → dz us xs = 0
  | [], _, _ => by simp [dz]
  | a :: us, [], _ => by simp [dz]
  | a :: us, x :: xs, h => by
    rw [dz, dz_zero (fun b hb => h b (by simp [hb])), h a (by simp)]; omega

end Go.Proofs.Ytpfklkmmhdpphac
