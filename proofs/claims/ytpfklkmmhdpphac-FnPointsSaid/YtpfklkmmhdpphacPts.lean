/- Plain laws and memory words for the points of a region. Conditions: none. -/
import Derived.Test.YtpfklkmmhdpphacLat2
import Derived.Test.YtpfklkmmhdpphacReg3
import Derived.Test.YtpfklkmmhdpphacBox
namespace Go.Proofs.Ytpfklkmmhdpphac
open Go.RowKit
set_option linter.unusedVariables false
set_option linter.unusedSimpArgs false
set_option maxRecDepth 100000

/-- The places of the first k lists that a test takes. -/
def idxTo (t : List Int → Bool) (xss : List (List Int)) : Nat → List Nat
  | 0 => []
  | k + 1 => if t (nthR xss k) = true then idxTo t xss k ++ [k] else idxTo t xss k
theorem idxTo_lt (t : List Int → Bool) (xss : List (List Int)) : ∀ k, ∀ i ∈ idxTo t xss k, i < k
  | 0 => by simp [idxTo]
  | k + 1 => by
    intro i hi
    unfold idxTo at hi
    split at hi
    · rcases List.mem_append.1 hi with h | h
      · have := idxTo_lt t xss k i h; omega
      · simp only [List.mem_singleton] at h; omega
    · have := idxTo_lt t xss k i hi; omega
theorem idxTo_inc (t : List Int → Bool) (xss : List (List Int)) : ∀ k, (idxTo t xss k).Pairwise (· < ·)
  | 0 => by simp [idxTo]
  | k + 1 => by
    unfold idxTo
    split
    · rw [List.pairwise_append]
      refine ⟨idxTo_inc t xss k, List.pairwise_singleton _ _, fun a ha b hb => ?_⟩
      simp only [List.mem_singleton] at hb
      have := idxTo_lt t xss k a ha
      omega
    · exact idxTo_inc t xss k
theorem idxTo_filter (t : List Int → Bool) (xss : List (List Int)) : ∀ k, k ≤ xss.length → (idxTo t xss k).map (nthR xss) = (xss.take k).filter t
  | 0, _ => by simp [idxTo]
  | k + 1, hk => by
    have e : idxTo t xss (k + 1) = if t (nthR xss k) = true then idxTo t xss k ++ [k] else idxTo t xss k := rfl
    rw [e, take_nthR (by omega), List.filter_append, ← idxTo_filter t xss k (by omega)]
    by_cases h : t (nthR xss k) = true
    · simp [h]
    · simp [h]

def rowAtD (rows : List Row) (i : Nat) : Row := rows.getD i (none, 0, 0)
theorem rowAtD_eq {rows : List Row} {i : Nat} (h : i < rows.length) : rowAtD rows i = rows[i] := by simp [rowAtD, List.getD, h]
def rowsOf (rows : List Row) (idx : List Nat) : List Row := idx.map (rowAtD rows)

/-- Some rows of lists of the call's own, in a slice of their own. -/
theorem Own2.pick {w : World} {lo hi lo' : Nat} {p q : Option Addr} {n c m d : Nat} {rows : List Row} {xss : List (List Int)} (h : Own2 w lo hi p n c rows xss) {idx : List Nat} (hlt : ∀ i ∈ idx, i < rows.length) (hinc : idx.Pairwise (· < ·))
    (ho : OwnV w 30 1 lo' w.heap.size q m d ((rowsOf rows idx).map Row.val)) (h1 : lo ≤ lo') (h2 : hi ≤ w.heap.size) : Own2 w lo w.heap.size q m d (rowsOf rows idx) (idx.map (nthR xss)) := by
  refine ⟨ho.widen h1 (Nat.le_refl _), by simp [rowsOf], fun k hk => ?_, ?_⟩
  · simp only [rowsOf, List.length_map] at hk
    have hi := hlt idx[k] (List.getElem_mem hk)
    have e : nthR (idx.map (nthR xss)) k = nthR xss idx[k] := by rw [nthR_eq (by simpa using hk)]; simp
    rw [e]
    simp only [rowsOf, List.getElem_map, rowAtD_eq hi]
    exact (h.inner idx[k] hi).widen (Nat.le_refl _) h2
  · rw [rowsOf, List.pairwise_map]
    refine hinc.imp_of_mem fun {a b} ha hb hab => ?_
    rw [rowAtD_eq (hlt a ha), rowAtD_eq (hlt b hb)]
    exact List.pairwise_iff_getElem.1 h.apart a b (hlt a ha) (hlt b hb) hab

theorem latStep_all {lo hi : Int} {P : Int → Prop} (hP : ∀ x, lo ≤ x → x ≤ hi → P x) {xss : List (List Int)} (h : ∀ r ∈ xss, ∀ x ∈ r, P x) : ∀ r ∈ latStep lo hi xss, ∀ x ∈ r, P x := by
  induction xss with
  | nil => simp [latStep]
  | cons v t ih =>
    intro r hr x hx
    simp only [latStep, List.mem_append] at hr
    rcases hr with hr | hr
    · simp only [latRow, List.mem_map, List.mem_range] at hr
      obtain ⟨j, hj, rfl⟩ := hr
      rcases List.mem_append.1 hx with hx | hx
      · exact h v (by simp) x hx
      · simp only [List.mem_singleton] at hx
        subst hx
        unfold wid at hj
        exact hP _ (by omega) (by omega)
    · exact ih (fun s hs => h s (by simp [hs])) r hr x hx
theorem allTo_all (lo hi : Int) : ∀ (k : Nat), ∀ r ∈ allTo lo hi k, ∀ x ∈ r, lo ≤ x ∧ x ≤ hi
  | 0 => by simp [allTo]
  | k + 1 => latStep_all (fun x h1 h2 => ⟨h1, h2⟩) (allTo_all lo hi k)
theorem box_vec {k : Nat} (h1 : 1 ≤ k) (h3 : k ≤ 3) : ∀ r ∈ allTo (-6) 6 k, isVec r = true := fun r hr => by
  have hl := allTo_rows (-6) 6 k r hr
  have ha := allTo_all (-6) 6 k r hr
  simp only [isVec, Bool.and_eq_true, inR, allR, List.all_eq_true, decide_eq_true_eq]
  refine ⟨⟨by omega, by omega⟩, fun x hx => ?_⟩
  have := ha x hx
  omega

/-- The points of a region in the box. -/
def boxOf (z : Int) : List (List Int) := allTo (-6) 6 z.toNat
def ptsV (z : Int) (hs : List Pr) : List (List Int) := if isReg z hs = true then (boxOf z).filter (hasP hs) else []
theorem ptsV_no {z : Int} {hs : List Pr} (h : isReg z hs = false) : ptsV z hs = [] := by simp [ptsV, h]
theorem hasPt_box {z : Int} {hs : List Pr} (h : isReg z hs = true) : ∀ x ∈ boxOf z, hasPt z hs x = hasP hs x := fun x hx => by
  obtain ⟨h1, h3, _⟩ := isReg_facts h
  have hv := box_vec (k := z.toNat) (by omega) (by omega) x hx
  have hl := allTo_rows (-6) 6 z.toNat x hx
  rw [hasPt, h, hv, decide_eq_true (show (x.length : Int) = z by omega)]
  rfl
theorem ptsV_has {z : Int} {hs : List Pr} (h : isReg z hs = true) : (boxOf z).filter (hasPt z hs) = ptsV z hs := by
  rw [ptsV, if_pos h]
  exact List.filter_congr (hasPt_box h)
theorem boxOf_len {z : Int} (h1 : 1 ≤ z) (h3 : z ≤ 3) : (boxOf z).length ≤ 8120601 := by
  have := allTo_length (lo := -6) (hi := 6) (by decide) z.toNat
  have h2 : (201 : Nat) ^ z.toNat ≤ 201 ^ 3 := Nat.pow_le_pow_right (by omega) (by omega)
  unfold boxOf
  omega

end Go.Proofs.Ytpfklkmmhdpphac
