/- The whole points of a polygon, plainly: the corners of its box; the points of the box that lie in it. Conditions: none. -/
import Derived.Test.YthdonnkekggbbaaGreatDoorPlace
import Derived.Test.YthdonnkekggbbaaGreatDoorLat
namespace Go.Proofs.YthdonnkekggbbaaGreatDoor
open Go.RowKit
set_option linter.unusedVariables false
set_option linter.unusedSimpArgs false
set_option maxRecDepth 100000

theorem nthSet {xs : List Int} {k i : Nat} {v : Int} (hk : k < xs.length) : nth (xs.set k v) i = if i = k then v else nth xs i := by
  unfold nth
  rw [List.getD_eq_getElem?_getD, List.getD_eq_getElem?_getD, List.getElem?_set]
  by_cases h : k = i
  · subst h; simp [hk]
  · rw [if_neg h, if_neg (fun e => h e.symm)]
def mnTo (P : List (List Int)) (j : Nat) : Nat → Int
  | 0 => nth (nthR P 0) j
  | k + 1 => min (mnTo P j k) (nth (nthR P k) j)
def mxTo (P : List (List Int)) (j : Nat) : Nat → Int
  | 0 => nth (nthR P 0) j
  | k + 1 => max (mxTo P j k) (nth (nthR P k) j)
theorem pt_nth {x : List Int} (h : PtIn 50 x) {j : Nat} (hj : j < 2) : -50 ≤ nth x j ∧ nth x j ≤ 50 := by
  rcases (by omega : j = 0 ∨ j = 1) with rfl | rfl
  · exact ⟨h.x0, h.x1⟩
  · exact ⟨h.y0, h.y1⟩
theorem mn_in {P : List (List Int)} {n j : Nat} (h : ∀ k, k < n → PtIn 50 (nthR P k)) (h0 : 0 < n) (hj : j < 2) : ∀ k, k ≤ n → -50 ≤ mnTo P j k ∧ mnTo P j k ≤ 50
  | 0, _ => pt_nth (h 0 h0) hj
  | k + 1, hk => by
    have h1 := mn_in h h0 hj k (by omega)
    have h2 := pt_nth (h k (by omega)) hj
    rw [mnTo]; omega
theorem mx_in {P : List (List Int)} {n j : Nat} (h : ∀ k, k < n → PtIn 50 (nthR P k)) (h0 : 0 < n) (hj : j < 2) : ∀ k, k ≤ n → -50 ≤ mxTo P j k ∧ mxTo P j k ≤ 50
  | 0, _ => pt_nth (h 0 h0) hj
  | k + 1, hk => by
    have h1 := mx_in h h0 hj k (by omega)
    have h2 := pt_nth (h k (by omega)) hj
    rw [mxTo]; omega
theorem mn_first {P : List (List Int)} (h2 : ∀ k, k < P.length → (nthR P k).length = 2) (hg : ∀ k, k < P.length → 0 < k → cmpL (nthR P 0) (nthR P k) < 0) (h0 : 0 < P.length) : ∀ k, k ≤ P.length → mnTo P 0 k = nth (nthR P 0) 0
  | 0, _ => rfl
  | k + 1, hk => by
    rw [mnTo, mn_first h2 hg h0 k (by omega)]
    rcases Nat.eq_zero_or_pos k with rfl | hp
    · omega
    · have h1 := (cmp_lx (h2 0 h0) (h2 k (by omega))).1 (hg k (by omega) hp)
      rcases h1 with h1 | ⟨h1, _⟩
      · have : nth (nthR P 0) 0 < nth (nthR P k) 0 := h1
        omega
      · have : nth (nthR P 0) 0 = nth (nthR P k) 0 := h1
        omega

def boxP (P : List (List Int)) : List (List Int) := latTo [mnTo P 0 P.length, mnTo P 1 P.length] [mxTo P 0 P.length, mxTo P 1 P.length] 2
noncomputable def inP (P : List (List Int)) (x : List Int) : Bool := decide (0 ≤ placV P x)
noncomputable def ptsPV (P : List (List Int)) : List (List Int) := if polyB P = true ∧ areaV P ≤ 2000 then (boxP P).filter (inP P) else []
theorem ptsPV_no {P : List (List Int)} (h : polyB P = false) : ptsPV P = [] := by rw [ptsPV, if_neg]; rw [h]; simp
theorem ptsPV_big {P : List (List Int)} (h : 2000 < areaV P) : ptsPV P = [] := by rw [ptsPV, if_neg]; omega
theorem boxP_eq (P : List (List Int)) : boxP P = latStep (mnTo P 1 P.length) (mxTo P 1 P.length) (latRow [] (mnTo P 0 P.length) (wid (mnTo P 0 P.length) (mxTo P 0 P.length))) := by
  unfold boxP
  simp [latTo, latStep, nth]
theorem boxP_ptsIn {P : List (List Int)} {n : Nat} (hn : P.length = n) (h : ∀ k, k < n → PtIn 50 (nthR P k)) (h0 : 0 < n) : ∀ x ∈ boxP P, PtIn 1000 x := by
  intro x hx
  have hr := latTo_rows _ _ 2 x hx
  rw [boxP_eq] at hx
  have a0 := mn_in h h0 (j := 0) (by omega) n (Nat.le_refl _)
  have a1 := mn_in h h0 (j := 1) (by omega) n (Nat.le_refl _)
  have b0 := mx_in h h0 (j := 0) (by omega) n (Nat.le_refl _)
  have b1 := mx_in h h0 (j := 1) (by omega) n (Nat.le_refl _)
  rw [hn] at hx
  have H : ∀ (xs : List (List Int)) (lo hi : Int), x ∈ latStep lo hi xs → ∃ v ∈ xs, ∃ j : Nat, j < wid lo hi ∧ x = v ++ [lo + (j : Int)] := by
    intro xs lo hi
    induction xs with
    | nil => intro h; simp [latStep] at h
    | cons v r ih =>
      intro h
      rw [latStep, List.mem_append] at h
      rcases h with h | h
      · rw [latRow, List.mem_map] at h
        obtain ⟨j, hj, rfl⟩ := h
        exact ⟨v, by simp, j, by simpa using hj, rfl⟩
      · obtain ⟨v', hv, hj⟩ := ih h
        exact ⟨v', by simp [hv], hj⟩
  obtain ⟨v, hv, j, hj, rfl⟩ := H _ _ _ hx
  rw [latRow, List.mem_map] at hv
  obtain ⟨i, hi, rfl⟩ := hv
  have hi' : i < wid (mnTo P 0 n) (mxTo P 0 n) := by simpa using hi
  unfold wid at hi' hj
  refine ⟨by simp, ?_, ?_, ?_, ?_⟩ <;> simp [nth] <;> omega
theorem boxP_len {P : List (List Int)} {n : Nat} (hn : P.length = n) (h : ∀ k, k < n → PtIn 50 (nthR P k)) (h0 : 0 < n) : (boxP P).length ≤ 10201 := by
  have a0 := mn_in h h0 (j := 0) (by omega) n (Nat.le_refl _)
  have a1 := mn_in h h0 (j := 1) (by omega) n (Nat.le_refl _)
  have b0 := mx_in h h0 (j := 0) (by omega) n (Nat.le_refl _)
  have b1 := mx_in h h0 (j := 1) (by omega) n (Nat.le_refl _)
  rw [boxP_eq, hn, latStep_length, latRow_length]
  have h1 : wid (mnTo P 0 n) (mxTo P 0 n) ≤ 101 := by unfold wid; omega
  have h2 : wid (mnTo P 1 n) (mxTo P 1 n) ≤ 101 := by unfold wid; omega
  exact Nat.le_trans (Nat.mul_le_mul h1 h2) (by omega)
theorem ptsPV_row {P : List (List Int)} : ∀ r ∈ ptsPV P, r.length = 2 := fun r hr => by
  by_cases h : polyB P = true ∧ areaV P ≤ 2000
  · rw [ptsPV, if_pos h] at hr
    exact latTo_rows _ _ 2 r (List.mem_filter.1 hr).1
  · rw [ptsPV, if_neg h] at hr; cases hr
theorem ptsPV_len (P : List (List Int)) : (ptsPV P).length ≤ 10201 := by
  by_cases h : polyB P = true ∧ areaV P ≤ 2000
  · rw [ptsPV, if_pos h]
    obtain ⟨h3, _, hp, _⟩ := polyB_iff.1 h.1
    exact Nat.le_trans (List.length_filter_le _ _) (boxP_len rfl (fun k hk => isPt_in (hp k hk)) (by omega))
  · rw [ptsPV, if_neg h]; simp

theorem l1Min_any (a b : Int) (w : World) :
    Calls Tryz.prog 86 #[.int .i64 a, .int .i64 b] w fun e w' => e = .returned (.int .i64 (min a b)) ∧ w = w' := by
  by_cases h : a < b
  all_goals
    go_enter Tryz.func86, Tryz.ntmps86
    go_wp2
    go_ret
    exact ⟨ret_int (by omega), rfl⟩

end Go.Proofs.YthdonnkekggbbaaGreatDoor
