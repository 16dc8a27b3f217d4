/- Plain laws of a region's text: what is read is written the same. Conditions: none. -/
import Derived.Test.YtpfklkmmhdpphadGreatDoorRegTx
import Derived.Test.YtpfklkmmhdpphadGreatDoorPVec
import Derived.Test.YtpfklkmmhdpphadGreatDoorFnSp
namespace Go.Proofs.YtpfklkmmhdpphadGreatDoor
open Go.RowKit
set_option linter.unusedVariables false
set_option linter.unusedSimpArgs false
set_option maxRecDepth 100000

theorem numP_back {p : List UInt8} (h : (numP p).2 = true) : Lib.itoa (numP p).1 = p := (parseW_true h).1
theorem numP_in {p : List UInt8} : -999999999999 ≤ (numP p).1 ∧ (numP p).1 ≤ 999999999999 := by
  cases h : (numP p).2
  · unfold numP at h ⊢
    rcases parseW_cases 999999999999 p with ⟨n, _, _, _, h4⟩ | ⟨_, h4⟩
    · rw [h4] at h; cases h
    · rw [h4]; decide
  · have := parseW_true (show (parseW 999999999999 p).2 = true from h)
    exact ⟨this.2.1, this.2.2⟩
theorem pvec_back {l : List UInt8} (h : (pvecV l).2 = true) : commaT (pvecV l).1 = l := by
  unfold pvecV at h ⊢
  split at h
  · rename_i ho
    rw [if_pos ho]
    cases hv : isVec (numsL (splitW (byteD 44) l))
    · rw [vecIf_no hv] at h; cases h
    · rw [vecIf_yes hv]
      have e : itoas (numsL (splitW (byteD 44) l)) = splitW (byteD 44) l := by
        unfold itoas numsL
        rw [List.map_map]
        conv => rhs; rw [← List.map_id (splitW (byteD 44) l)]
        refine List.map_congr_left fun p hp => ?_
        exact numP_back (List.all_eq_true.1 ho p hp)
      show Lib.join (itoas (numsL (splitW (byteD 44) l))) [44] = l
      rw [e]
      exact split_join (byteD 44) l
  · cases h
/-- A half out of a part of a text. -/
def halfP (part : List UInt8) : Pr × Bool :=
  if (splitW (byteD 60) part).length = 2 ∧ (pvecV (nthS (splitW (byteD 60) part) 0)).2 = true ∧ (numP (nthS (splitW (byteD 60) part) 1)).2 = true then (((pvecV (nthS (splitW (byteD 60) part) 0)).1, (numP (nthS (splitW (byteD 60) part) 1)).1), true) else (([], 0), false)
theorem half_back {part : List UInt8} (h : (halfP part).2 = true) : commaT (halfP part).1.1 ++ [60] ++ Lib.itoa (halfP part).1.2 = part := by
  unfold halfP at h ⊢
  split at h
  · rename_i h1
    rw [if_pos h1]
    obtain ⟨h2, h3, h4⟩ := h1
    show commaT (pvecV (nthS (splitW (byteD 60) part) 0)).1 ++ [60] ++ Lib.itoa (numP (nthS (splitW (byteD 60) part) 1)).1 = part
    rw [pvec_back h3, numP_back h4]
    have hj := split_join (byteD 60) part
    match hs : splitW (byteD 60) part, h2 with
    | [a, b], _ =>
      rw [hs] at hj
      rw [← hj]
      have e60 : byteD 60 = (60 : UInt8) := by decide
      simp [nthS, Lib.join_cons, Lib.joinTail, e60]
  · cases h
def halvesP (ps : List (List UInt8)) : List Pr := ps.map fun p => (halfP p).1
def okH (ps : List (List UInt8)) : Bool := ps.all fun p => (halfP p).2
theorem halvesP_length (ps : List (List UInt8)) : (halvesP ps).length = ps.length := by simp [halvesP]
theorem halvesP_take {ps : List (List UInt8)} {k : Nat} (h : k < ps.length) : halvesP (ps.take (k + 1)) = halvesP (ps.take k) ++ [(halfP (nthS ps k)).1] := by
  rw [take_nthS h]; simp [halvesP]
theorem okH_take {ps : List (List UInt8)} {k : Nat} (h : k < ps.length) (ha : okH (ps.take k) = true) (hn : (halfP (nthS ps k)).2 = true) : okH (ps.take (k + 1)) = true := by
  rw [take_nthS h]; simp only [okH, List.all_append, Bool.and_eq_true] at *; exact ⟨ha, by simpa using hn⟩
theorem okH_no {ps : List (List UInt8)} {k : Nat} (h : k < ps.length) (hn : (halfP (nthS ps k)).2 = false) : okH ps = false := by
  unfold okH
  rw [List.all_eq_false]
  exact ⟨ps[k], List.getElem_mem h, by rw [← nthS_eq h]; simpa using hn⟩
/-- A region out of a text. -/
def pregV (l : List UInt8) : (Int × List Pr) × Bool :=
  if (numP (nthS (splitW (byteD 59) l) 0)).2 = true ∧ okH (splitW (byteD 59) l).tail = true ∧ isReg (numP (nthS (splitW (byteD 59) l) 0)).1 (halvesP (splitW (byteD 59) l).tail) = true then (((numP (nthS (splitW (byteD 59) l) 0)).1, halvesP (splitW (byteD 59) l).tail), true) else ((0, []), false)
theorem half_flat : ∀ (r : List (List UInt8)), okH r = true → ((halvesP r).map halfT).flatten = Lib.joinTail [59] r
  | [], _ => rfl
  | p :: r, h => by
    simp only [okH, List.all_cons, Bool.and_eq_true] at h
    have ih := half_flat r h.2
    have hb := half_back h.1
    have e : ((halvesP (p :: r)).map halfT).flatten = halfT (halfP p).1 ++ ((halvesP r).map halfT).flatten := rfl
    have e2 : Lib.joinTail [59] (p :: r) = ([59] ++ p) ++ Lib.joinTail [59] r := rfl
    rw [e, e2, ih]
    congr 1
    show [59] ++ commaT (halfP p).1.1 ++ [60] ++ Lib.itoa (halfP p).1.2 = [59] ++ p
    rw [List.append_assoc, List.append_assoc, ← List.append_assoc (commaT _), hb]
/-- What a text says is written as that text. -/
theorem reg_back {l : List UInt8} (h0 : (numP (nthS (splitW (byteD 59) l) 0)).2 = true) (h1 : okH (splitW (byteD 59) l).tail = true) (h2 : isReg (numP (nthS (splitW (byteD 59) l) 0)).1 (halvesP (splitW (byteD 59) l).tail) = true) :
    regT (numP (nthS (splitW (byteD 59) l) 0)).1 (halvesP (splitW (byteD 59) l).tail) = l := by
  unfold regT
  rw [if_pos h2]
  unfold regTo
  rw [List.take_of_length_le (Nat.le_refl _), half_flat _ h1, numP_back h0]
  have hj := split_join (byteD 59) l
  match hs : splitW (byteD 59) l with
  | [] => exact absurd hs (splitW_ne _ _)
  | a :: r =>
    rw [hs] at hj
    conv => rhs; rw [← hj, Lib.join_cons]
    rfl

end Go.Proofs.YtpfklkmmhdpphadGreatDoor
