/- Plain laws of vectors and their texts: a text of numbers is cut where it was joined; a vector is its divisor times a primitive one. Conditions: none. -/
import Derived.Test.YthdonnkekggbbaaGreatDoorPVec
import Derived.Test.YthdonnkekggbbaaGreatDoorJnStrFns3
namespace Go.Proofs.YthdonnkekggbbaaGreatDoor
open Go.RowKit
set_option linter.unusedVariables false
set_option linter.unusedSimpArgs false
set_option maxRecDepth 100000

theorem splitA_over (c : UInt8) : ∀ (x r cur : List UInt8), c ∉ x → splitA c cur (x ++ r) = splitA c (cur ++ x) r
  | [], r, cur, _ => by simp
  | b :: x, r, cur, h => by
    rw [List.cons_append, splitA, if_neg fun e => h (by simp [e]), splitA_over c x r _ fun hc => h (List.mem_cons_of_mem _ hc)]
    simp
theorem split_tail (c : UInt8) : ∀ (r : List (List UInt8)) (cur : List UInt8), (∀ p ∈ r, c ∉ p) → splitA c cur (Lib.joinTail [c] r) = cur :: r
  | [], cur, _ => by simp [Lib.joinTail, splitA]
  | y :: r, cur, h => by
    have e : Lib.joinTail [c] (y :: r) = c :: (y ++ Lib.joinTail [c] r) := by simp [Lib.joinTail]
    rw [e, splitA, if_pos rfl, splitA_over c y _ [] (h y (by simp)), List.nil_append, split_tail c r y fun p hp => h p (List.mem_cons_of_mem _ hp)]
/-- A text that was joined is cut into what was joined. -/
theorem split_of_join {c : UInt8} {ps : List (List UInt8)} (h0 : ps ≠ []) (h : ∀ p ∈ ps, c ∉ p) : splitW c (Lib.join ps [c]) = ps := by
  cases ps with
  | nil => exact absurd rfl h0
  | cons x r =>
    rw [Lib.join_cons, splitW, splitA_over c x _ [] (h x (by simp)), List.nil_append, split_tail c r x fun p hp => h p (List.mem_cons_of_mem _ hp)]
theorem itoa_free {c : UInt8} (hc : c.toNat < 45 ∨ (45 < c.toNat ∧ c.toNat < 48) ∨ 57 < c.toNat) (n : Int) : c ∉ Lib.itoa n := by
  intro h
  have hd : ∀ u, c ∉ Lib.decDigits u := fun u hu => by
    have := decDigits_dig u c hu
    unfold isDig at this
    omega
  by_cases hn : n < 0
  · rw [itoa_neg hn] at h
    rcases List.mem_cons.1 h with h | h
    · rw [h] at hc; simp at hc
    · exact hd _ h
  · rw [itoa_pos hn] at h
    exact hd _ h
theorem byte44 : byteD 44 = (44 : UInt8) := by decide
theorem isVec_at {xs : List Int} (h : isVec xs = true) {k : Nat} (hk : k < xs.length) : -1000 ≤ nth xs k ∧ nth xs k ≤ 1000 := by
  unfold isVec at h
  rw [Bool.and_eq_true] at h
  have := List.all_eq_true.1 h.2 (nth xs k) (by rw [nth_eq hk]; exact List.getElem_mem hk)
  exact inR_true this
theorem numP_itoa {n : Int} (h0 : -999999999999 ≤ n) (h1 : n ≤ 999999999999) : numP (Lib.itoa n) = (n, true) := by
  unfold numP; rw [parse_itoa, if_pos ⟨h0, h1⟩]
/-- A vector is read out of its text. -/
theorem pvec_text {xs : List Int} (h : isVec xs = true) : pvecV (commaT xs) = (xs, true) := by
  have hl := isVec_len h
  have hs : splitW (byteD 44) (commaT xs) = itoas xs := by
    rw [byte44]
    refine split_of_join (fun e => ?_) fun p hp => ?_
    · have h0 : xs.length = 0 := by rw [← itoas_length, e]; rfl
      omega
    · rw [itoas, List.mem_map] at hp
      obtain ⟨n, _, rfl⟩ := hp
      exact itoa_free (by decide) n
  have hb : ∀ x ∈ xs, -999999999999 ≤ x ∧ x ≤ 999999999999 := fun x hx => by
    obtain ⟨k, hk, rfl⟩ := List.getElem_of_mem hx
    have := isVec_at h hk
    rw [nth_eq hk] at this
    omega
  have ho : okP (itoas xs) = true := by
    unfold okP itoas
    rw [List.all_map, List.all_eq_true]
    intro x hx
    have := hb x hx
    simp [numP_itoa this.1 this.2]
  have hn : numsL (itoas xs) = xs := by
    unfold numsL itoas
    rw [List.map_map]
    conv => rhs; rw [← List.map_id xs]
    refine List.map_congr_left fun x hx => ?_
    have := hb x hx
    simp [numP_itoa this.1 this.2]
  unfold pvecV
  rw [hs, if_pos ho, hn, vecIf_yes h]
theorem itoa_ne (n : Int) : Lib.itoa n ≠ [] := by
  by_cases h : n < 0
  · rw [itoa_neg h]; simp
  · rw [itoa_pos h]; exact decDigits_ne _
theorem pvec_none : pvecV [] = ([], false) := by
  have h : okP (splitW (byteD 44) []) = false := by
    have e : splitW (byteD 44) [] = [[]] := rfl
    rw [e]
    have : (numP []).2 = false := by
      unfold numP
      rcases parseW_cases 999999999999 [] with ⟨n, h, _⟩ | ⟨_, h⟩
      · exact absurd h (itoa_ne n)
      · rw [h]
    simp [okP, this]
  unfold pvecV
  rw [if_neg (by rw [h]; simp)]

theorem gcdTo_dvd {xs : List Int} : ∀ k, k ≤ xs.length → ∀ j, j < k → gcdTo xs k ∣ nth xs j
  | 0, _, j, hj => by omega
  | k + 1, hk, j, hj => by
    rw [show gcdTo xs (k + 1) = gcdI (gcdTo xs k) (nth xs k) from rfl]
    by_cases h : j = k
    · subst h; exact Int.gcd_dvd_right ..
    · exact Int.dvd_trans (Int.gcd_dvd_left ..) (gcdTo_dvd k (by omega) j (by omega))
theorem quo_mul {xs : List Int} {g : Int} {j : Nat} (hj : j < xs.length) (hd : g ∣ nth xs j) : nth (quoW xs g) j * g = nth xs j := by
  rw [quoW_nth hj]
  exact Int.tdiv_mul_cancel hd
theorem gcdTo_quo {xs : List Int} {g : Int} (hg : 0 < g) (hd : ∀ j, j < xs.length → g ∣ nth xs j) : ∀ k, k ≤ xs.length → gcdTo (quoW xs g) k * g = gcdTo xs k
  | 0, _ => by simp [gcdTo]
  | k + 1, hk => by
    rw [show gcdTo xs (k + 1) = gcdI (gcdTo xs k) (nth xs k) from rfl, show gcdTo (quoW xs g) (k + 1) = gcdI (gcdTo (quoW xs g) k) (nth (quoW xs g) k) from rfl, ← gcdTo_quo hg hd k (by omega), ← quo_mul (by omega) (hd k (by omega))]
    unfold gcdI
    rw [Int.gcd_mul_right, Int.natCast_mul, Int.natAbs_of_nonneg (by omega)]
/-- What is primitive, times the divisor, is the vector; its own divisor is 1. -/
theorem prim_law {xs : List Int} (h : (primV xs).2 = true) : isVec xs = true ∧ 1 ≤ gcdL xs ∧ (primV xs).1 = quoW xs (gcdL xs) ∧ isVec (quoW xs (gcdL xs)) = true ∧ gcdL (quoW xs (gcdL xs)) = 1 ∧ ∀ j, j < xs.length → nth (quoW xs (gcdL xs)) j * gcdL xs = nth xs j := by
  unfold primV at h ⊢
  split at h
  · rename_i h1
    obtain ⟨hv, hg⟩ := h1
    rw [if_pos ⟨hv, hg⟩]
    have hd : ∀ j, j < xs.length → gcdL xs ∣ nth xs j := gcdTo_dvd xs.length (Nat.le_refl _)
    have hm : ∀ j, j < xs.length → nth (quoW xs (gcdL xs)) j * gcdL xs = nth xs j := fun j hj => quo_mul hj (hd j hj)
    have hl := isVec_len hv
    refine ⟨hv, hg, rfl, ?_, ?_, hm⟩
    · simp only [isVec, Bool.and_eq_true, inR, allR, List.all_eq_true, decide_eq_true_eq, quoW_length]
      refine ⟨⟨by omega, by omega⟩, fun x hx => ?_⟩
      obtain ⟨j, hj, rfl⟩ := List.getElem_of_mem hx
      rw [quoW_length] at hj
      have h1 := isVec_at hv hj
      have h2 := hm j hj
      rw [nth_eq (by rw [quoW_length]; exact hj)] at h2
      generalize (quoW xs (gcdL xs))[j] = q at *
      have h3 : q.natAbs * (gcdL xs).natAbs = (nth xs j).natAbs := by rw [← Int.natAbs_mul, h2]
      have h4 : q.natAbs * 1 ≤ q.natAbs * (gcdL xs).natAbs := Nat.mul_le_mul (Nat.le_refl _) (by omega)
      omega
    · have := gcdTo_quo (xs := xs) (g := gcdL xs) (by omega) hd xs.length (Nat.le_refl _)
      have e : gcdL (quoW xs (gcdL xs)) = gcdTo (quoW xs (gcdL xs)) xs.length := by rw [gcdL, quoW_length]
      rw [e]
      have e2 : gcdTo xs xs.length = gcdL xs := rfl
      rw [e2] at this
      generalize gcdTo (quoW xs (gcdL xs)) xs.length = r at *
      have h5 : (r - 1) * gcdL xs = 0 := by rw [Int.sub_mul, this]; omega
      rcases Int.mul_eq_zero.1 h5 with h6 | h6 <;> omega
  · cases h

end Go.Proofs.YthdonnkekggbbaaGreatDoor
