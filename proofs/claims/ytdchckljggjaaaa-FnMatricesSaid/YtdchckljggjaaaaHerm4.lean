/- Rows of a matrix of the call's own: one written while the others are read, two exchanged, one replaced. Conditions: none. -/
import Derived.Test.YtdchckljggjaaaaHerm3
namespace Go.Proofs.Ytdchckljggjaaaa
open Go.RowKit
set_option linter.unusedVariables false
set_option linter.unusedSimpArgs false
set_option maxRecDepth 100000

theorem Own2.apartBlk {w : World} {lo hi : Nat} {p : Option Addr} {n c : Nat} {rows : List Row} {xss : List (List Int)} (h : Own2 w lo hi p n c rows xss) {i j : Nat} (hi : i < rows.length) (hj : j < rows.length) (hne : i ≠ j) :
    blk rows[i].1 ≠ blk rows[j].1 ∨ rows[i].1 = none := by
  have h2 := List.pairwise_iff_getElem.1 h.apart
  by_cases hlt : i < j
  · exact h2 i j hi hj hlt
  · rcases h2 j i hj hi (by omega) with h3 | h3
    · exact .inl fun e => h3 e.symm
    · cases hb : rows[i].1 with
      | none => exact .inr rfl
      | some a => exact .inl (by rw [h3]; simp [blk])

theorem Own2.markO {w : World} {lo hi : Nat} {p : Option Addr} {n c : Nat} {rows : List Row} {xss : List (List Int)} (h : Own2 w lo hi p n c rows xss) (k : Nat) (hk : k < rows.length) (hlh : lo ≤ hi) :
    ∃ lo' hi', Own w lo' hi' rows[k].1 rows[k].2.1 rows[k].2.2 (nthR xss k) ∧ (∀ j (hj : j < rows.length), j ≠ k → Out lo' hi' rows[j].1) ∧ lo ≤ lo' ∧ hi' ≤ hi ∧
      ∀ (w' : World) (ys : List Int), Own w' lo' hi' rows[k].1 rows[k].2.1 rows[k].2.2 ys → Within lo' hi' w w' → Own2 w' lo hi p n c rows (xss.set k ys) ∧ Within lo hi w w' := by
  have hT : 3 ≠ 40 := by decide
  have hl := h.len
  have hin := h.inner k hk
  rcases hin.form with ⟨hp, hn, hcc⟩ | ⟨g, hp, hg1, hg2, hg3, _⟩
  · have e0 : nthR xss k = [] := by
      have := hin.len
      rw [hn] at this
      exact List.length_eq_zero_iff.1 this
    refine ⟨lo, lo, ?_, fun j hj _ a ha => .inr ((h.inner j hj).lt a ha).1, Nat.le_refl _, hlh, fun w' ys ho hw => ?_⟩
    · rw [hp, hn, hcc, e0]; exact Own.nil _ _ _
    · have e1 : ys = [] := by
        have := ho.len
        rw [hn] at this
        exact List.length_eq_zero_iff.1 this
      subst e1
      have e2 : xss.set k [] = xss := by
        rw [← e0, nthR_eq (by omega)]; exact List.set_getElem_self _
      rw [e2]
      exact ⟨h.within hw (.inr (Nat.le_refl _)), hw.wide (Nat.le_refl _) hlh⟩
  · refine ⟨g, g + 1, ?_, fun j hj hjk a ha => ?_, hg1, hg2, fun w' ys ho hw => ⟨⟨?_, by simpa using hl, fun j hj => ?_, h.apart⟩, hw.wide hg1 hg2⟩⟩
    · rw [hp] at hin ⊢; exact hin.tight
    · rcases h.apartBlk hk hj (Ne.symm hjk) with h3 | h3
      · rw [hp, ha] at h3
        simp only [blk, Option.map_some, ne_eq, Option.some.injEq] at h3
        omega
      · rw [hp] at h3; cases h3
    · exact h.outer.kept (q := rows[k].1) (by rw [hp]; exact hw.grownAt) (hin.v.ne h.outer hT)
    · by_cases hjk : k = j
      · subst hjk
        rw [show nthR (xss.set k ys) k = ys by rw [nthR_eq (by simp; omega)]; simp]
        exact ho.widen hg1 hg2
      · rw [show nthR (xss.set k ys) j = nthR xss j by rw [nthR_eq (by simp; omega), nthR_eq (by omega), List.getElem_set_ne hjk]]
        have hap : blk rows[k].1 ≠ blk rows[j].1 ∨ rows[j].1 = none := by
          rcases h.apartBlk hk hj hjk with h3 | h3
          · exact .inl h3
          · rw [hp] at h3; cases h3
        exact (h.inner j hj).kept (q := rows[k].1) (by rw [hp]; exact hw.grownAt) hap

/-- Two rows are exchanged. -/
theorem Own2.swap {w : World} {lo top g : Nat} {n c : Nat} {rows : List Row} {xss : List (List Int)} (h : Own2 w lo top (some ⟨g, 0, none⟩) n c rows xss) {i j : Nat} (hi : i < rows.length) (hj : j < rows.length) (hij : i ≠ j) :
    Own2 ((w.setCell ⟨g, i, none⟩ (Row.val rows[j])).setCell ⟨g, j, none⟩ (Row.val rows[i])) lo top (some ⟨g, 0, none⟩) n c ((rows.set i rows[j]).set j rows[i]) ((xss.set i (nthR xss j)).set j (nthR xss i)) := by
  have hT : 40 ≠ 3 := by decide
  have hl := h.len
  have keep : ∀ {lo' hi' : Nat} {p' : Option Addr} {n' c' : Nat} {zs : List Int}, Own w lo' hi' p' n' c' zs → Own ((w.setCell ⟨g, i, none⟩ (Row.val rows[j])).setCell ⟨g, j, none⟩ (Row.val rows[i])) lo' hi' p' n' c' zs := fun hz =>
    (hz.kept (q := some ⟨g, 0, none⟩) (set_grown w g i _) (h.outer.ne hz.v hT)).kept (q := some ⟨g, 0, none⟩) (set_grown _ g j _) (h.outer.ne hz.v hT)
  refine ⟨⟨?_, h.outer.top⟩, by simpa using hl, fun k hk => ?_, ?_⟩
  · rw [List.map_set, List.map_set]
    exact ((h.outer.row.stored (g := g) (cap := c) i (Row.val rows[j])).1.stored (g := g) (cap := c) j (Row.val rows[i])).1
  · simp only [List.length_set] at hk
    have e : nthR ((xss.set i (nthR xss j)).set j (nthR xss i)) k = if j = k then nthR xss i else if i = k then nthR xss j else nthR xss k := by
      rw [nthR_set _ (by simp; omega), nthR_set _ (by omega)]
    rw [e]
    simp only [List.getElem_set]
    by_cases h1 : j = k
    · simp only [if_pos h1]; exact keep (h.inner i hi)
    · simp only [if_neg h1]
      by_cases h2 : i = k
      · simp only [if_pos h2]; exact keep (h.inner j hj)
      · simp only [if_neg h2]; exact keep (h.inner k hk)
  · have hs : ∀ k, k < rows.length → (if j = k then i else if i = k then j else k) < rows.length := fun k hk => by
      split
      · exact hi
      · split
        · exact hj
        · exact hk
    have key : ∀ k (hk : k < rows.length), ((rows.set i rows[j]).set j rows[i])[k]'(by simpa using hk) = rows[if j = k then i else if i = k then j else k]'(hs k hk) := fun k hk => by
      simp only [List.getElem_set]
      by_cases h1 : j = k
      · simp only [if_pos h1]
      · simp only [if_neg h1]
        by_cases h2 : i = k
        · simp only [if_pos h2]
        · simp only [if_neg h2]
    rw [List.pairwise_iff_getElem]
    intro a b ha hb hab
    simp only [List.length_set] at ha hb
    rw [key a ha, key b hb]
    refine h.apartBlk _ _ ?_
    split <;> split <;> (try split) <;> (try split) <;> omega

theorem setCell_twice (w : World) (g o : Nat) (u v : Value) : (w.setCell ⟨g, o, none⟩ u).setCell ⟨g, o, none⟩ v = w.setCell ⟨g, o, none⟩ v := by
  unfold World.setCell
  simp only
  congr 1
  apply Array.ext
  · simp
  · intro i h1 h2
    simp only [Array.getElem_modify]
    split
    · cases w.heap[i]'(by simpa using h2) <;> simp
    · rfl

end Go.Proofs.Ytdchckljggjaaaa
