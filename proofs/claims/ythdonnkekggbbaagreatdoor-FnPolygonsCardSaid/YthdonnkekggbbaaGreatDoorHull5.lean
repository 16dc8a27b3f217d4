/- The reference's IsPolygon says what the program's says. Conditions: none. -/
import Derived.Test.YthdonnkekggbbaaGreatDoorHull4
namespace Go.Proofs.YthdonnkekggbbaaGreatDoor
open Go.RowKit
set_option linter.unusedVariables false
set_option linter.unusedSimpArgs false
set_option maxRecDepth 100000

theorem two_list {x : List Int} (h : x.length = 2) : x = [nth x 0, nth x 1] := by
  match x, h with
  | [a, b], _ => rfl
theorem ptOf_inj {x y : List Int} (hx : x.length = 2) (hy : y.length = 2) (h : ptOf x = ptOf y) : x = y := by
  rw [two_list hx, two_list hy]
  unfold ptOf at h
  injection h with h1 h2
  rw [h1, h2]
theorem cmp_lx {x y : List Int} (hx : x.length = 2) (hy : y.length = 2) : cmpL x y < 0 ↔ lx (ptOf x) (ptOf y) := by
  match x, y, hx, hy with
  | [a, b], [c, d], _, _ =>
    show cmpL [a, b] [c, d] < 0 ↔ a < c ∨ (a = c ∧ b < d)
    simp only [cmpL]
    unfold cmpI
    by_cases h1 : a < c
    · simp [h1]
    · by_cases h2 : c < a
      · have h3 : ¬ a = c := by omega
        simp [h1, h2, h3]
      · have h3 : a = c := by omega
        subst h3
        by_cases h4 : b < d
        · simp [h4]
        · by_cases h5 : d < b
          · simp [h4, h5]
          · simp [h4, h5]
theorem bef_lx {x y : List Int} (hx : x.length = 2) (hy : y.length = 2) : befL x y = true ↔ lx (ptOf x) (ptOf y) := by
  rw [befL, decide_eq_true_eq, cmp_lx hx hy]

/-- Lists of two numbers, in order. -/
structure Srt (S : List (List Int)) : Prop where
  two : ∀ x ∈ S, x.length = 2
  ord : S.Pairwise fun a b => lx (ptOf a) (ptOf b)

theorem putAt_spec {S : List (List Int)} {v : List Int} : ∀ n, (∀ j, putAt S v n ≤ j → j < n → befL v (nthR S j) = true) ∧ (0 < putAt S v n → befL v (nthR S (putAt S v n - 1)) = false)
  | 0 => ⟨fun j h1 h2 => by omega, fun h => by simp [putAt] at h⟩
  | n + 1 => by
    obtain ⟨h1, h2⟩ := putAt_spec (S := S) (v := v) n
    rw [putAt]
    split
    · rename_i hb
      refine ⟨fun j h3 h4 => ?_, h2⟩
      by_cases hj : j = n
      · subst hj; exact hb
      · exact h1 j h3 (by omega)
    · rename_i hb
      exact ⟨fun j h3 h4 => by omega, fun _ => by simpa using hb⟩

theorem Srt.at_ {S : List (List Int)} (h : Srt S) {i j : Nat} (hij : i < j) (hj : j < S.length) : lx (ptOf (nthR S i)) (ptOf (nthR S j)) := by
  rw [nthR_eq (by omega), nthR_eq hj]
  exact List.pairwise_iff_getElem.1 h.ord i j (by omega) hj hij

theorem Srt.put {S : List (List Int)} {v : List Int} (h : Srt S) (hv : v.length = 2) : Srt (putL S v) := by
  unfold putL
  split
  · exact h
  · rename_i hne
    obtain ⟨h1, h2⟩ := putAt_spec (S := S) (v := v) S.length
    have hle := putAt_le S v S.length
    generalize putAt S v S.length = k at *
    have hlow : ∀ j, j < k → lx (ptOf (nthR S j)) (ptOf v) := fun j hj => by
      have hk1 : k - 1 < S.length := by omega
      have e2 : (nthR S (k - 1)).length = 2 := h.two _ (nthR_mem hk1)
      have h3 := h2 (by omega)
      have h4 : lx (ptOf (nthR S (k - 1))) (ptOf v) := by
        rcases lx_total (ptOf (nthR S (k - 1))) (ptOf v) with h5 | h5 | h5
        · exact h5
        · exact absurd ⟨by omega, ptOf_inj e2 hv h5⟩ hne
        · rw [(bef_lx hv e2).2 h5] at h3; cases h3
      by_cases hjk : j = k - 1
      · subst hjk; exact h4
      · exact (h.at_ (show j < k - 1 by omega) hk1).trans h4
    have hhigh : ∀ j, k ≤ j → j < S.length → lx (ptOf v) (ptOf (nthR S j)) := fun j h3 h4 => (bef_lx hv (h.two _ (nthR_mem h4))).1 (h1 j h3 h4)
    refine ⟨fun x hx => ?_, ?_⟩
    · have h5 : x ∈ S ∨ x = v := by
        unfold putIn at hx
        rcases List.mem_append.1 hx with hx | hx
        · rcases List.mem_append.1 hx with hx | hx
          · exact .inl (List.mem_of_mem_take hx)
          · exact .inr (by simpa using hx)
        · exact .inl (List.mem_of_mem_drop hx)
      rcases h5 with h5 | h5
      · exact h.two x h5
      · rw [h5]; exact hv
    · have hap : (S.take k ++ S.drop k).Pairwise fun a b => lx (ptOf a) (ptOf b) := by rw [List.take_append_drop]; exact h.ord
      rw [List.pairwise_append] at hap
      unfold putIn
      rw [List.append_assoc, List.pairwise_append]
      have mt : ∀ a ∈ S.take k, ∃ j, j < k ∧ a = nthR S j := fun a ha => by
        obtain ⟨j, hj, rfl⟩ := List.getElem_of_mem ha
        rw [List.length_take] at hj
        exact ⟨j, by omega, by rw [nthR_eq (by omega), List.getElem_take]⟩
      have md : ∀ a ∈ S.drop k, ∃ j, k ≤ j ∧ j < S.length ∧ a = nthR S j := fun a ha => by
        obtain ⟨j, hj, rfl⟩ := List.getElem_of_mem ha
        rw [List.length_drop] at hj
        exact ⟨k + j, by omega, by omega, by rw [nthR_eq (by omega), List.getElem_drop]⟩
      refine ⟨hap.1, ?_, fun a ha b hb => ?_⟩
      · rw [List.singleton_append, List.pairwise_cons]
        refine ⟨fun b hb => ?_, hap.2.1⟩
        obtain ⟨j, h3, h4, rfl⟩ := md b hb
        exact hhigh j h3 h4
      · obtain ⟨j, hj, rfl⟩ := mt a ha
        rw [List.singleton_append, List.mem_cons] at hb
        rcases hb with rfl | hb
        · exact hlow j hj
        · exact hap.2.2 _ ha b hb

theorem putL_has {S : List (List Int)} {v : List Int} : v ∈ putL S v := by
  unfold putL
  split
  · rename_i h
    rw [← h.2]
    exact nthR_mem (by have := putAt_le S v S.length; omega)
  · unfold putIn; simp
theorem putL_keep {S : List (List Int)} {v a : List Int} (h : a ∈ S) : a ∈ putL S v := by
  unfold putL
  split
  · exact h
  · unfold putIn
    rw [← List.take_append_drop (putAt S v S.length) S] at h
    rcases List.mem_append.1 h with h | h
    · simp [h]
    · simp [h]
theorem fold_srt : ∀ (xss acc : List (List Int)), (∀ x ∈ xss, x.length = 2) → Srt acc → Srt (xss.foldl putL acc)
  | [], _, _, h => h
  | v :: r, acc, h1, h => fold_srt r _ (fun x hx => h1 x (List.mem_cons_of_mem _ hx)) (h.put (h1 v (by simp)))
theorem fold_keep {a : List Int} : ∀ (xss acc : List (List Int)), a ∈ acc ∨ a ∈ xss → a ∈ xss.foldl putL acc
  | [], _, h => by simpa using h
  | v :: r, acc, h => fold_keep r _ (by
      rcases h with h | h
      · exact .inl (putL_keep h)
      · rcases List.mem_cons.1 h with rfl | h
        · exact .inl putL_has
        · exact .inr h)
theorem sortL_srt {xss : List (List Int)} (h : ∀ x ∈ xss, x.length = 2) : Srt (sortL xss) := fold_srt xss [] h ⟨fun x hx => by simp at hx, List.Pairwise.nil⟩
theorem sortL_has {xss : List (List Int)} {a : List Int} (h : a ∈ xss) : a ∈ sortL xss := fold_keep xss [] (.inr h)

theorem hull_pts (S : List (List Int)) : (hullL S).map ptOf = hullOf tn (S.map ptOf) := by
  rw [hullL_eq, hullOf_map (t := turnZ) ptOf (t' := tn) (fun a b c => rfl)]
theorem map_pts (xss : List (List Int)) : xss.map ptOf = (List.range xss.length).map fun k => ptOf (nthR xss k) := by
  refine List.ext_getElem (by simp) fun i h1 h2 => ?_
  simp at h1
  simp [nthR_eq h1]

theorem fan_iff {p : List (List Int)} (h3 : 3 ≤ p.length) (h2 : ∀ k, k < p.length → (nthR p k).length = 2) : Fan p.length (fun k => ptOf (nthR p k)) ↔ ∀ k, k < p.length → GoodP p k := by
  constructor
  · intro h k hk
    refine ⟨h.loc k hk, fun h0 => (cmp_lx (h2 0 (by omega)) (h2 k hk)).2 (h.first k h0 hk), fun h0 h1 => h.fan k h0 h1⟩
  · intro h
    exact ⟨h3, fun k h0 hk => (cmp_lx (h2 0 (by omega)) (h2 k hk)).1 ((h k hk).2.1 h0), fun k h0 hk => (h k (by omega)).2.2 h0 hk, fun k hk => (h k hk).1⟩

theorem polyS_eq (p : List (List Int)) : polyS p = polyB p := by
  by_cases hr : 3 ≤ p.length ∧ p.length ≤ 12
  · cases hf : flatB p
    · rw [polyB_no (fun h => by have := flatB_yes h.2.2.1; rw [hf] at this; cases this)]
      unfold polyS
      rw [hf]; simp
    · have hpt : ∀ k, k < p.length → isPt 50 (nthR p k) = true := fun k hk => flatB_at hf hk
      have h2 : ∀ k, k < p.length → (nthR p k).length = 2 := fun k hk => (isPt_in (hpt k hk)).len
      have h2' : ∀ x ∈ p, x.length = 2 := fun x hx => (isPt_in (List.all_eq_true.1 hf x hx)).len
      have hS := sortL_srt h2'
      have hpw : ((sortL p).map ptOf).Pairwise lx := by rw [List.pairwise_map]; exact hS.ord
      have hmem : ∀ a, a ∈ (sortL p).map ptOf ↔ ∃ i, i < p.length ∧ a = ptOf (nthR p i) := fun a => by
        constructor
        · intro h
          obtain ⟨x, hx, rfl⟩ := List.mem_map.1 h
          obtain ⟨i, hi, rfl⟩ := List.getElem_of_mem (sortL_mem hx)
          exact ⟨i, hi, by rw [nthR_eq hi]⟩
        · rintro ⟨i, hi, rfl⟩
          exact List.mem_map.2 ⟨_, sortL_has (nthR_mem hi), rfl⟩
      have hrb : inR (p.length : Int) 3 12 = true := by unfold inR; simp; omega
      have hlenH : (hullL (sortL p)).length = (idxH (sortL p)).length := by simp [hullL]
      by_cases hG : ∀ k, k < p.length → GoodP p k
      · rw [polyB_yes ⟨hr.1, hr.2, hpt, hG⟩]
        have hF := (fan_iff hr.1 h2).2 hG
        have hh := hF.hull hpw hmem
        rw [← hull_pts, ← map_pts] at hh
        have hlen : (hullL (sortL p)).length = p.length := by have := congrArg List.length hh; simpa using this
        have heq : hullL (sortL p) = p := by
          refine List.ext_getElem hlen fun i h5 h6 => ?_
          have h7 : ((hullL (sortL p)).map ptOf)[i]? = (p.map ptOf)[i]? := by rw [hh]
          rw [List.getElem?_map, List.getElem?_map, List.getElem?_eq_getElem h5, List.getElem?_eq_getElem h6] at h7
          simp only [Option.map_some, Option.some.injEq] at h7
          refine ptOf_inj ?_ (h2' _ (List.getElem_mem h6)) h7
          simp only [hullL, List.getElem_map]
          exact hS.two _ (nthR_mem (idxH_lt (List.getElem_mem _)))
        have hsl : 3 ≤ (sortL p).length := by
          have h8 := hullOf_length (turnI (sortL p)) (List.range (sortL p).length)
          have h9 : (hullOf (turnI (sortL p)) (List.range (sortL p).length)).length = p.length := by
            rw [← hlen, hlenH]; rfl
          rw [h9, List.length_range] at h8
          omega
        have hV : hullV p = (p, true) := by
          unfold hullV
          rw [if_pos ⟨by omega, hf, hsl, by rw [← hlenH, hlen]; exact hr.1, by rw [← hlenH, hlen]; exact hr.2⟩, heq]
        unfold polyS
        rw [hrb, hf, hV]; simp
      · rw [polyB_no (fun h => hG h.2.2.2)]
        unfold polyS
        rw [hrb, hf]
        cases hv : (hullV p).2
        · simp
        · simp only [Bool.true_and, decide_eq_false_iff_not]
          intro he
          apply hG
          have hV : hullV p = (hullL (sortL p), true) := by
            unfold hullV at hv ⊢
            split
            · rfl
            · rename_i hn; rw [if_neg hn] at hv; cases hv
          rw [hV] at he
          replace he : hullL (sortL p) = p := he
          have hh : hullOf tn ((sortL p).map ptOf) = (List.range p.length).map fun k => ptOf (nthR p k) := by rw [← hull_pts, he, map_pts]
          exact (fan_iff hr.1 h2).1 (hull_fan hpw hr.1 hh)
  · rw [polyB_no (fun h => hr ⟨h.1, h.2.1⟩)]
    unfold polyS
    have : inR (p.length : Int) 3 12 = false := by
      cases h : inR (p.length : Int) 3 12
      · rfl
      · have := inR_true h; omega
    rw [this]; simp

theorem specIsPolygon_any (p : Option Addr) (n c : Nat) (xss : List (List Int)) (w : World) (hn : n ≤ 9223372036854775807) (hx : Intss w p n xss) :
    Calls Tryz.prog 25 #[.slice p n c] w (Ret (.bool (polyB xss)) w) := by
  rw [← polyS_eq]
  exact specIsPolygonS_any p n c xss w hn hx

end Go.Proofs.YthdonnkekggbbaaGreatDoor
