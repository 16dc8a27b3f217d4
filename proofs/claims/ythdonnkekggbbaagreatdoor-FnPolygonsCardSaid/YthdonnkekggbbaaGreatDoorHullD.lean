/- The hull of a sorted list that may hold a point more than once, plainly. Conditions: none. -/
import Derived.Test.YthdonnkekggbbaaGreatDoorHull5
namespace Go.Proofs.YthdonnkekggbbaaGreatDoor
open Go.RowKit
set_option linter.unusedVariables false
set_option linter.unusedSimpArgs false
set_option maxRecDepth 100000

section
variable {α : Type} [DecidableEq α]
/-- What stands behind x, equal neighbours once. -/
def onceB (x : α) : List α → List α
  | [] => []
  | y :: l => if y = x then onceB x l else y :: onceB y l
def once : List α → List α
  | [] => []
  | x :: l => x :: onceB x l
theorem onceB_mem {a : α} : ∀ (l : List α) (x : α), a ∈ x :: onceB x l ↔ a ∈ x :: l
  | [], x => by simp [onceB]
  | y :: l, x => by
    by_cases h : y = x
    · subst h
      rw [onceB, if_pos rfl, onceB_mem l y]
      simp
    · rw [onceB, if_neg h, List.mem_cons, onceB_mem l y]
      simp
theorem once_mem {a : α} (l : List α) : a ∈ once l ↔ a ∈ l := by
  cases l with
  | nil => simp [once]
  | cons x l => exact onceB_mem l x
theorem onceB_ord {r : α → α → Prop} (hr : ∀ a b, r a b → ¬ r b a) : ∀ (l : List α) (x : α), (x :: l).Pairwise (fun a b => r a b ∨ a = b) → (x :: onceB x l).Pairwise r
  | [], x, _ => by simp [onceB]
  | y :: l, x, h => by
    rw [List.pairwise_cons] at h
    by_cases e : y = x
    · subst e
      rw [onceB, if_pos rfl]
      exact onceB_ord hr l y h.2
    · rw [onceB, if_neg e, List.pairwise_cons]
      refine ⟨fun z hz => ?_, onceB_ord hr l y h.2⟩
      have hz' := (onceB_mem l y).1 hz
      rcases h.1 z hz' with h1 | h1
      · exact h1
      · subst h1
        have h3 : r x y := by
          rcases h.1 y (by simp) with h3 | h3
          · exact h3
          · exact absurd h3.symm e
        rcases List.mem_cons.1 hz' with h4 | h4
        · exact absurd h4.symm e
        · rcases (List.pairwise_cons.1 h.2).1 x h4 with h5 | h5
          · exact absurd h5 (hr _ _ h3)
          · exact absurd h5 e
theorem once_ord {r : α → α → Prop} (hr : ∀ a b, r a b → ¬ r b a) {l : List α} (h : l.Pairwise (fun a b => r a b ∨ a = b)) : (once l).Pairwise r := by
  cases l with
  | nil => exact List.Pairwise.nil
  | cons x l => exact onceB_ord hr l x h
end
section
variable {α : Type}
theorem ord_one {r : α → α → Prop} (hr : ∀ a b, r a b → ¬ r b a) : ∀ {S T : List α}, S.Pairwise r → T.Pairwise r → (∀ a, a ∈ S ↔ a ∈ T) → S = T
  | [], [], _, _, _ => rfl
  | [], b :: T, _, _, h => by have := (h b).2 (by simp); cases this
  | a :: S, [], _, _, h => by have := (h a).1 (by simp); cases this
  | a :: S, b :: T, h1, h2, h => by
    rw [List.pairwise_cons] at h1 h2
    have e : a = b := by
      rcases List.mem_cons.1 ((h a).1 (by simp)) with h3 | h3
      · exact h3
      · rcases List.mem_cons.1 ((h b).2 (by simp)) with h4 | h4
        · exact h4.symm
        · exact absurd (h1.1 b h4) (hr _ _ (h2.1 a h3))
    subst e
    have := ord_one hr h1.2 h2.2 fun x => by
      constructor
      · intro hx
        rcases List.mem_cons.1 ((h x).1 (List.mem_cons_of_mem _ hx)) with h3 | h3
        · subst h3; exact absurd (h1.1 x hx) (hr _ _ (h1.1 x hx))
        · exact h3
      · intro hx
        rcases List.mem_cons.1 ((h x).2 (List.mem_cons_of_mem _ hx)) with h3 | h3
        · subst h3; exact absurd (h2.1 x hx) (hr _ _ (h2.1 x hx))
        · exact h3
    rw [this]

variable {t : α → α → α → Int}
theorem push_form (tb : ∀ a b, t a b b ≤ 0) (y : α) : ∀ c : List α, ∃ r, pushC t c y = y :: r ∧ (r = [] ∨ pushC t (y :: r) y = y :: r) ∧ (c ≠ [] → r ≠ [])
  | [] => ⟨[], rfl, .inl rfl, fun h => absurd rfl h⟩
  | [b] => ⟨[b], rfl, .inr (by rw [pushC, if_pos (tb _ _)]; rfl), fun _ => by simp⟩
  | b :: a :: r => by
    by_cases h : t a b y ≤ 0
    · obtain ⟨r2, h1, h2, h3⟩ := push_form tb y (a :: r)
      exact ⟨r2, by rw [pushC, if_pos h, h1], h2, fun _ => h3 (by simp)⟩
    · refine ⟨b :: a :: r, by rw [pushC, if_neg h], .inr ?_, fun _ => by simp⟩
      rw [pushC, if_pos (tb _ _), pushC, if_neg h]
theorem fold_two (tb : ∀ a b, t a b b ≤ 0) : ∀ (l c : List α), (2 ≤ c.length ∨ (c ≠ [] ∧ l ≠ [])) → 2 ≤ (l.foldl (pushC t) c).length
  | [], c, h => by
    rcases h with h | h
    · exact h
    · exact absurd rfl h.2
  | y :: l, c, h => by
    obtain ⟨r, h1, _, h3⟩ := push_form tb y c
    refine fold_two tb l _ (.inl ?_)
    rw [h1]
    have hc : c ≠ [] := by rintro rfl; rcases h with h | h <;> simp at h
    have := List.length_pos_iff.2 (h3 hc)
    simp; omega
theorem chain_two (tb : ∀ a b, t a b b ≤ 0) {l : List α} (h : 2 ≤ l.length) : 2 ≤ (chainR t l).length := by
  match l, h with
  | x :: y :: l, _ => exact fold_two tb (y :: l) [x] (.inr ⟨by simp, by simp⟩)
end
section
variable {α : Type} [DecidableEq α] {t : α → α → α → Int}
theorem fold_once (tb : ∀ a b, t a b b ≤ 0) (ta : ∀ a b, t a a b ≤ 0) : ∀ (l : List α) (x : α) (r c' : List α), (r = [] ∨ pushC t (x :: r) x = x :: r) → (c' = x :: r ∨ (r = [] ∧ c' = [x, x])) →
    (onceB x l).foldl (pushC t) (x :: r) = l.foldl (pushC t) c' ∨ ∃ y, (onceB x l).foldl (pushC t) (x :: r) = [y] ∧ l.foldl (pushC t) c' = [y, y]
  | [], x, r, c', hs, hc => by
    rcases hc with rfl | ⟨rfl, rfl⟩
    · exact .inl rfl
    · exact .inr ⟨x, rfl, rfl⟩
  | y :: l, x, r, c', hs, hc => by
    by_cases e : y = x
    · subst e
      rw [onceB, if_pos rfl, List.foldl_cons]
      refine fold_once tb ta l y r _ hs ?_
      rcases hc with rfl | ⟨rfl, rfl⟩
      · rcases hs with rfl | hs
        · exact .inr ⟨rfl, rfl⟩
        · exact .inl hs
      · exact .inr ⟨rfl, by rw [pushC, if_pos (tb _ _)]; rfl⟩
    · rw [onceB, if_neg e, List.foldl_cons, List.foldl_cons]
      obtain ⟨r2, h1, h2, _⟩ := push_form tb y (x :: r)
      have h3 : pushC t c' y = y :: r2 := by
        rcases hc with rfl | ⟨rfl, rfl⟩
        · exact h1
        · rw [pushC, if_pos (ta _ _)]; exact h1
      rw [h1, h3]
      exact fold_once tb ta l y r2 _ h2 (.inl rfl)
theorem chain_once (tb : ∀ a b, t a b b ≤ 0) (ta : ∀ a b, t a a b ≤ 0) (D : List α) : chainR t (once D) = chainR t D ∨ ∃ y, chainR t (once D) = [y] ∧ chainR t D = [y, y] := by
  cases D with
  | nil => exact .inl rfl
  | cons x l => exact fold_once tb ta l x [] [x] (.inl rfl) (.inl rfl)
theorem chain_same (tb : ∀ a b, t a b b ≤ 0) (ta : ∀ a b, t a a b ≤ 0) {D : List α} (h : 2 ≤ (once D).length) : chainR t D = chainR t (once D) := by
  rcases chain_once tb ta D with h1 | ⟨y, h1, _⟩
  · exact h1.symm
  · have := chain_two (t := t) tb h
    rw [h1] at this; simp at this
theorem chain_small (tb : ∀ a b, t a b b ≤ 0) (ta : ∀ a b, t a a b ≤ 0) {D : List α} (h : (once D).length ≤ 1) : (chainR t D).length ≤ 2 := by
  have h0 : (chainR t (once D)).length ≤ 1 := by
    match once D, h with
    | [], _ => simp [chainR]
    | [x], _ => simp [chainR, pushC]
  rcases chain_once tb ta D with h1 | ⟨y, _, h1⟩
  · rw [← h1]; omega
  · rw [h1]; simp
end

theorem tz_abb (a b : List Int) : turnZ a b b ≤ 0 := by unfold turnZ; rw [tn_abb]; omega
theorem tz_aab (a b : List Int) : turnZ a a b ≤ 0 := by
  have : turnZ a a b = 0 := by unfold turnZ tn cr sb; grind
  omega
theorem polyB_len {L : List (List Int)} (h : polyB L = true) : 3 ≤ L.length ∧ L.length ≤ 12 := by
  have := polyB_iff.1 h
  exact ⟨this.1, this.2.1⟩

/-- The hull of the points, sorted in whatever way. -/
theorem hullD_eq {xss D : List (List Int)} (hl : xss.length ≤ 200) (hf : flatB xss = true) (hm : ∀ a, a ∈ D ↔ a ∈ xss) (hD : D.Pairwise (fun a b => ¬ lx (ptOf b) (ptOf a))) :
    hullV xss = if polyB (hullOf turnZ D) = true then (hullOf turnZ D, true) else ([], false) := by
  have h2 : ∀ x ∈ xss, x.length = 2 := fun x hx => (isPt_in (List.all_eq_true.1 hf x hx)).len
  have hS := sortL_srt h2
  have ha : ∀ a b : List Int, lx (ptOf a) (ptOf b) → ¬ lx (ptOf b) (ptOf a) := fun a b h h' => (h.trans h').irrefl
  have hD2 : D.Pairwise (fun a b => lx (ptOf a) (ptOf b) ∨ a = b) := by
    refine hD.imp_of_mem fun {a b} hma hmb h => ?_
    rcases lx_total (ptOf a) (ptOf b) with h1 | h1 | h1
    · exact .inl h1
    · exact .inr (ptOf_inj (h2 _ ((hm a).1 hma)) (h2 _ ((hm b).1 hmb)) h1)
    · exact absurd h1 h
  have e1 : once D = sortL xss := ord_one (r := fun a b => lx (ptOf a) (ptOf b)) ha (once_ord ha hD2) hS.ord fun a => by
    rw [once_mem, hm]
    exact ⟨sortL_has, sortL_mem⟩
  have e2 : once D.reverse = (sortL xss).reverse := ord_one (r := fun a b => lx (ptOf b) (ptOf a)) (fun a b h => ha _ _ h)
    (once_ord (fun a b h => ha _ _ h) (by rw [List.pairwise_reverse]; exact hD2.imp fun h => h.imp id Eq.symm)) (by rw [List.pairwise_reverse]; exact hS.ord) fun a => by
    rw [once_mem, List.mem_reverse, hm, List.mem_reverse]
    exact ⟨sortL_has, sortL_mem⟩
  by_cases hs : 2 ≤ (sortL xss).length
  · have eo : hullOf turnZ D = hullL (sortL xss) := by
      rw [hullL_eq]
      unfold hullOf
      rw [chain_same tz_abb tz_aab (by rw [e1]; exact hs), chain_same (D := D.reverse) tz_abb tz_aab (by rw [e2]; simpa using hs), e1, e2]
    rw [eo]
    have hlenH : (hullL (sortL xss)).length = (idxH (sortL xss)).length := by simp [hullL]
    have hle := hullOf_length (turnI (sortL xss)) (List.range (sortL xss).length)
    have hle2 : (idxH (sortL xss)).length ≤ 2 * ((sortL xss).length - 1) := by simpa [idxH] using hle
    by_cases h3 : 3 ≤ (idxH (sortL xss)).length ∧ (idxH (sortL xss)).length ≤ 12
    · have hp : polyB (hullL (sortL xss)) = true := by
        have hmem : ∀ k, k < (hullL (sortL xss)).length → nthR (hullL (sortL xss)) k ∈ xss := fun k hk => by
          rw [nthR_eq hk]
          simp only [hullL, List.getElem_map]
          exact sortL_mem (nthR_mem (idxH_lt (List.getElem_mem _)))
        have hpw : ((sortL xss).map ptOf).Pairwise lx := by rw [List.pairwise_map]; exact hS.ord
        refine polyB_yes ⟨by omega, by omega, fun k hk => List.all_eq_true.1 hf _ (hmem k hk), (fan_iff (by omega) fun k hk => h2 _ (hmem k hk)).1 (hull_fan hpw (by omega) ?_)⟩
        rw [← hull_pts, map_pts]
      rw [if_pos hp]
      unfold hullV
      rw [if_pos ⟨hl, hf, by omega, h3.1, h3.2⟩]
    · have hp : ¬ polyB (hullL (sortL xss)) = true := fun h => by have := polyB_len h; rw [hlenH] at this; exact h3 this
      rw [if_neg hp]
      unfold hullV
      rw [if_neg fun h => h3 h.2.2.2]
  · have h4 := chain_small (t := turnZ) tz_abb tz_aab (D := D) (by rw [e1]; omega)
    have h5 := chain_small (t := turnZ) tz_abb tz_aab (D := D.reverse) (by rw [e2, List.length_reverse]; omega)
    have hp : ¬ polyB (hullOf turnZ D) = true := fun h => by
      have := (polyB_len h).1
      unfold hullOf at this
      simp at this
      omega
    rw [if_neg hp]
    unfold hullV
    rw [if_neg fun h => hs (by have := h.2.2.1; omega)]

end Go.Proofs.YthdonnkekggbbaaGreatDoor
