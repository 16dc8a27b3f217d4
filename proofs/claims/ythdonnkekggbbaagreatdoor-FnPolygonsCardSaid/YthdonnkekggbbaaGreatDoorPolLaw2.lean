/- Plain laws of polygons: a polygon is read out of its text, is its own hull; the points that a hull was made of lie in it. Conditions: none. -/
import Derived.Test.YthdonnkekggbbaaGreatDoorPolLaw
import Derived.Test.YthdonnkekggbbaaGreatDoorPolHull
import Derived.Test.YthdonnkekggbbaaGreatDoorHull5
import Derived.Test.YthdonnkekggbbaaGreatDoorPPol
import Derived.Test.YthdonnkekggbbaaGreatDoorPTx
import Derived.Test.YthdonnkekggbbaaGreatDoorVecLaws
namespace Go.Proofs.YthdonnkekggbbaaGreatDoor
open Go.RowKit
set_option linter.unusedVariables false
set_option linter.unusedSimpArgs false
set_option maxRecDepth 100000

theorem mem_jointail {c b : UInt8} : ∀ r : List (List UInt8), b ∈ Lib.joinTail [c] r → b = c ∨ ∃ p ∈ r, b ∈ p
  | [], h => by simp [Lib.joinTail] at h
  | y :: r, h => by
    have e : Lib.joinTail [c] (y :: r) = c :: (y ++ Lib.joinTail [c] r) := by simp [Lib.joinTail]
    rw [e] at h
    rcases List.mem_cons.1 h with h | h
    · exact .inl h
    · rcases List.mem_append.1 h with h | h
      · exact .inr ⟨y, by simp, h⟩
      · rcases mem_jointail r h with h | ⟨p, hp, h⟩
        · exact .inl h
        · exact .inr ⟨p, by simp [hp], h⟩
theorem commaT_free {c : UInt8} (h44 : c ≠ 44) (hc : c.toNat < 45 ∨ (45 < c.toNat ∧ c.toNat < 48) ∨ 57 < c.toNat) (xs : List Int) : c ∉ commaT xs := by
  intro h
  unfold commaT at h
  have key : ∀ p ∈ itoas xs, c ∉ p := fun p hp => by
    rw [itoas, List.mem_map] at hp
    obtain ⟨n, _, rfl⟩ := hp
    exact itoa_free hc n
  cases hs : itoas xs with
  | nil => rw [hs] at h; simp [Lib.join] at h
  | cons x r =>
    rw [hs, Lib.join_cons] at h
    rcases List.mem_append.1 h with h | h
    · exact key x (by rw [hs]; simp) h
    · rcases mem_jointail r h with h | ⟨p, hp, h⟩
      · exact h44 h
      · exact key p (by rw [hs]; simp [hp]) h
theorem byte32 : byteD 32 = (32 : UInt8) := by decide
/-- A polygon is read out of its text. -/
theorem ppol_text {P : List (List Int)} (h : polyB P = true) : ppolV (polyT P) = (P, true) := by
  obtain ⟨h3, h12, hpt, _⟩ := polyB_iff.1 h
  have e : splitW (byteD 32) (polyT P) = rowsT P := by
    rw [byte32]
    unfold polyT
    rw [if_pos h]
    refine split_of_join (fun e => ?_) fun p hp => ?_
    · have := rowsT_length P
      rw [e] at this
      simp at this
      omega
    · rw [rowsT, List.mem_map] at hp
      obtain ⟨x, _, rfl⟩ := hp
      exact commaT_free (by decide) (by decide) x
  have hv : ∀ x ∈ P, pvecV (commaT x) = (x, true) := fun x hx => by
    obtain ⟨k, hk, rfl⟩ := List.getElem_of_mem hx
    have := pt_vec (hpt k hk)
    rw [nthR_eq hk] at this
    exact pvec_text this.1
  have ho : okV (rowsT P) = true := by
    unfold okV
    rw [List.all_eq_true]
    intro p hp
    rw [rowsT, List.mem_map] at hp
    obtain ⟨x, hxm, rfl⟩ := hp
    rw [hv x hxm]
  have hb : rowsV (rowsT P) = P := by
    unfold rowsV rowsT
    rw [List.map_map]
    refine (List.map_congr_left fun x hxm => ?_).trans (List.map_id P)
    simp only [Function.comp_apply, id_eq]
    rw [hv x hxm]
  unfold ppolV
  rw [e, hb, if_pos ⟨ho, h⟩]
theorem ppol_none {P : List (List Int)} (h : polyB P = false) : ppolV (polyT P) = ([], false) := by
  have e : polyT P = [] := by unfold polyT; rw [if_neg (by rw [h]; simp)]
  rw [e]
  unfold ppolV
  rw [if_neg]
  rintro ⟨h1, _⟩
  have h3 : splitW (byteD 32) [] = [[]] := by rfl
  rw [h3] at h1
  simp [okV, pvec_none] at h1
theorem polyT_length (P : List (List Int)) : (polyT P).length ≤ 1048576 := by
  unfold polyT
  split
  · next h =>
    obtain ⟨h3, h12, hpt, _⟩ := polyB_iff.1 h
    have h1 := rowsT_tot hpt
    have h2 := joinTo_length (rowsT P) [32] (rowsT P).length (Nat.le_refl _)
    rw [joinTo_eq (rowsT P) [32] _ (Nat.le_refl _), List.take_length] at h2
    have h4 := rowsT_length P
    have h5 : (rowsT P).length * ([32] : List UInt8).length = (rowsT P).length := by simp
    omega
  · simp

/-- A polygon is its own hull. -/
theorem hull_self {P : List (List Int)} (h : polyB P = true) : hullV P = (P, true) := by
  rw [← polyS_eq] at h
  unfold polyS at h
  simp only [Bool.and_eq_true, decide_eq_true_eq] at h
  exact Prod.ext h.2 h.1.2
/-- The points that a hull was made of lie in it. -/
theorem hull_in {xs : List (List Int)} (h : (hullV xs).2 = true) {x : List Int} (hx : x ∈ xs) : 0 ≤ placeOfV (hullV xs).1 x := by
  have hV : xs.length ≤ 200 ∧ flatB xs = true ∧ 3 ≤ (sortL xs).length ∧ 3 ≤ (idxH (sortL xs)).length ∧ (idxH (sortL xs)).length ≤ 12 ∧ hullV xs = (hullL (sortL xs), true) := by
    unfold hullV at h ⊢
    split
    · next hc => exact ⟨hc.1, hc.2.1, hc.2.2.1, hc.2.2.2.1, hc.2.2.2.2, rfl⟩
    · next hc => rw [if_neg hc] at h; cases h
  obtain ⟨_, hf, _, g3, g12, hV⟩ := hV
  rw [hV]
  show 0 ≤ placeOfV (hullL (sortL xs)) x
  have h2' : ∀ y ∈ xs, y.length = 2 := fun y hy => (isPt_in (List.all_eq_true.1 hf y hy)).len
  have hS := sortL_srt h2'
  have hpw : ((sortL xs).map ptOf).Pairwise lx := by rw [List.pairwise_map]; exact hS.ord
  have hlenH : (hullL (sortL xs)).length = (idxH (sortL xs)).length := by simp [hullL]
  have hh : hullOf tn ((sortL xs).map ptOf) = (List.range (hullL (sortL xs)).length).map fun k => ptOf (nthR (hullL (sortL xs)) k) := by rw [← hull_pts, map_pts]
  have hmem : ∀ y ∈ hullL (sortL xs), y ∈ xs := fun y hy => by
    rw [hullL, List.mem_map] at hy
    obtain ⟨i, hi, rfl⟩ := hy
    exact sortL_mem (nthR_mem (idxH_lt hi))
  have hpt : ∀ k, k < (hullL (sortL xs)).length → isPt 50 (nthR (hullL (sortL xs)) k) = true := fun k hk => List.all_eq_true.1 hf _ (hmem _ (nthR_mem hk))
  have hP : polyB (hullL (sortL xs)) = true := polyB_yes ⟨by omega, by omega, hpt, (fan_iff (by omega) fun k hk => (isPt_in (hpt k hk)).len).1 (hull_fan hpw (by omega) hh)⟩
  have hv := pt_vec (List.all_eq_true.1 hf x hx)
  unfold placeOfV
  rw [if_pos ⟨hP, hv.1, hv.2.2⟩, plac_ins]
  intro k hk
  exact hull_left hpw (by omega) hh k hk _ (List.mem_map.2 ⟨_, sortL_has hx, rfl⟩)

theorem sumT_place {P : List (List Int)} (h : polyB P = true) {x : List Int} (hx : x ∈ ptsPV P) : placeOfV P x = placV P x := by
  have hpt : PtIn 1000 x := by
    unfold ptsPV at hx
    split at hx
    · obtain ⟨h3, h12, hp, _⟩ := polyB_iff.1 h
      exact boxP_ptsIn rfl (fun k hk => isPt_in (hp k hk)) (by omega) x (List.mem_filter.1 hx).1
    · cases hx
  have hv : isVec x = true := by
    unfold isVec inR allR
    rw [hpt.len]
    simp only [Bool.and_eq_true, List.all_eq_true]
    refine ⟨by decide, fun y hy => ?_⟩
    obtain ⟨j, hj, rfl⟩ := List.getElem_of_mem hy
    have hl := hpt.len
    have h0 := hpt.x0
    have h1 := hpt.x1
    have h2 := hpt.y0
    have h3 := hpt.y1
    rcases (by omega : j = 0 ∨ j = 1) with rfl | rfl
    · rw [nth_eq (by omega)] at h0 h1; unfold inR; simp only [Bool.and_eq_true, decide_eq_true_eq]; omega
    · rw [nth_eq (by omega)] at h2 h3; unfold inR; simp only [Bool.and_eq_true, decide_eq_true_eq]; omega
  unfold placeOfV
  rw [if_pos ⟨h, hv, hpt.len⟩]

end Go.Proofs.YthdonnkekggbbaaGreatDoor
