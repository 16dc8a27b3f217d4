/- Contracts of markIntSS and heldIntSS. Conditions: sizes. -/
import Derived.Test.YtdchckljggjaaaaMat
namespace Go.Proofs.Ytdchckljggjaaaa
open Go.RowKit
set_option linter.unusedVariables false
set_option linter.unusedSimpArgs false
set_option maxRecDepth 100000

/-- The numbers from k on, in rows as long as those of xss. -/
def upR : Int → List (List Int) → List (List Int)
  | _, [] => []
  | k, xs :: r => upFrom k xs.length :: upR (k + (xs.length : Int)) r
theorem upR_length (xss : List (List Int)) : ∀ k, (upR k xss).length = xss.length := by
  induction xss with
  | nil => intro k; rfl
  | cons x r ih => intro k; simp [upR, ih]
theorem upR_nth (xss : List (List Int)) : ∀ (k0 : Int) (k : Nat), k < xss.length → nthR (upR k0 xss) k = upFrom (k0 + (tot (xss.take k) : Nat)) (nthR xss k).length := by
  induction xss with
  | nil => intro k0 k h; simp at h
  | cons x r ih =>
    intro k0 k h
    cases k with
    | zero => simp [nthR, upR, tot]
    | succ k =>
      have h' : k < r.length := by simpa using h
      have := ih (k0 + (x.length : Int)) k h'
      rw [show nthR (upR k0 (x :: r)) (k + 1) = nthR (upR (k0 + (x.length : Int)) r) k by simp [nthR, upR], this,
        show nthR (x :: r) (k + 1) = nthR r k by simp [nthR]]
      congr 1
      simp only [List.take_succ_cons, tot, List.map_cons, List.sum_cons]
      omega

theorem Within.grownAt {w w' : World} {g : Nat} (h : Within g (g + 1) w w') : w.grownBy w' (some g) :=
  ⟨h.os, h.tape, h.output, h.size, fun i hi hne => h.block i hi (by
    have : i ≠ g := fun e => hne (by rw [e])
    omega)⟩
theorem Within.wide {w w' : World} {lo hi lo' hi' : Nat} (h : Within lo' hi' w w') (h1 : lo ≤ lo') (h2 : hi' ≤ hi) : Within lo hi w w' :=
  ⟨h.os, h.tape, h.output, h.size, fun i hi hd => h.block i hi (by omega)⟩
theorem Own.tight {w : World} {lo hi g n c : Nat} {xs : List Int} (h : Own w lo hi (some ⟨g, 0, none⟩) n c xs) : Own w g (g + 1) (some ⟨g, 0, none⟩) n c xs := by
  refine ⟨⟨h.row.1, ?_⟩, fun a ha => by injection ha with ha; subst ha; exact Nat.lt_succ_self _⟩
  rcases h.row.2 with ⟨h0, _⟩ | ⟨g', cap, cur, hv, hl, hr⟩
  · cases h0
  · refine .inr ⟨g', cap, cur, hv, ?_, hr⟩
    injection hv with a
    injection a with a
    injection a with a
    omega

/-- One row of the call's own is written anew. -/
theorem Own2.mark {w : World} {lo hi : Nat} {p : Option Addr} {n c : Nat} {rows : List Row} {xss : List (List Int)} (h : Own2 w lo hi p n c rows xss) (k : Nat) (hk : k < rows.length) :
    ∃ lo' hi', Own w lo' hi' rows[k].1 rows[k].2.1 rows[k].2.2 (nthR xss k) ∧ ∀ (w' : World) (ys : List Int), Own w' lo' hi' rows[k].1 rows[k].2.1 rows[k].2.2 ys → Within lo' hi' w w' → Own2 w' lo hi p n c rows (xss.set k ys) ∧ Within lo hi w w' := by
  have hT : 3 ≠ 40 := by decide
  have hc := h.count
  have hl := h.len
  have hin := h.inner k hk
  rcases hin.form with ⟨hp, hn, hcc⟩ | ⟨g, hp, hg1, hg2, hg3, _⟩
  · have hlh : lo ≤ hi := by
      rcases h.outer.form with ⟨_, hn0, _⟩ | ⟨g, _, h1, h2, _⟩
      · omega
      · omega
    have e0 : nthR xss k = [] := by
      have := hin.len
      rw [hn] at this
      exact List.length_eq_zero_iff.1 this
    refine ⟨lo, lo, ?_, fun w' ys ho hw => ?_⟩
    · rw [hp, hn, hcc, e0]; exact Own.nil _ _ _
    · have e1 : ys = [] := by
        have := ho.len
        rw [hn] at this
        exact List.length_eq_zero_iff.1 this
      subst e1
      have e2 : xss.set k [] = xss := by
        rw [← e0, nthR_eq (by omega)]; exact List.set_getElem_self _
      rw [e2]
      exact ⟨h.within hw (.inr (Nat.le_refl _)), hw.wide (Nat.le_refl _) hlh⟩
  · refine ⟨g, g + 1, ?_, fun w' ys ho hw => ⟨⟨?_, by simpa using hl, fun j hj => ?_, h.apart⟩, hw.wide hg1 hg2⟩⟩
    · rw [hp] at hin ⊢; exact hin.tight
    · exact h.outer.kept (q := rows[k].1) (by rw [hp]; exact hw.grownAt) (hin.v.ne h.outer hT)
    · by_cases hjk : k = j
      · subst hjk
        rw [show nthR (xss.set k ys) k = ys by rw [nthR_eq (by simp; omega)]; simp]
        exact ho.widen hg1 hg2
      · rw [show nthR (xss.set k ys) j = nthR xss j by rw [nthR_eq (by simp; omega), nthR_eq (by omega), List.getElem_set_ne hjk]]
        have hap : blk rows[k].1 ≠ blk rows[j].1 ∨ rows[j].1 = none := by
          have h2 := List.pairwise_iff_getElem.1 h.apart
          by_cases hlt : k < j
          · rcases h2 k j hk hj hlt with h3 | h3
            · exact .inl h3
            · rw [hp] at h3; cases h3
          · rcases h2 j k hj hk (by omega) with h3 | h3
            · exact .inl fun e => h3 e.symm
            · exact .inr h3
        exact (h.inner j hj).kept (q := rows[k].1) (by rw [hp]; exact hw.grownAt) hap

theorem Own2.rowAt {w : World} {lo hi : Nat} {p : Option Addr} {n c : Nat} {rows : List Row} {xss : List (List Int)} (h : Own2 w lo hi p n c rows xss) (k : Nat) (hlt : k < n) (hk : k < rows.length) :
    ∃ g, p = some ⟨g, 0, none⟩ ∧ w.cell? ⟨g, k, none⟩ = some (.slice rows[k].1 rows[k].2.1 rows[k].2.2) := by
  rcases h.outer.form with ⟨_, rfl, _⟩ | ⟨g, rfl, _⟩
  · omega
  · have hcell := h.outer.cell (k := k) (by omega)
    rw [List.getElem?_map, List.getElem?_eq_getElem hk] at hcell
    exact ⟨g, rfl, hcell⟩

theorem Within.trans {lo hi : Nat} {a b d : World} (h : Within lo hi a b) (h' : Within lo hi b d) : Within lo hi a d :=
  ⟨h'.os.trans h.os, h'.tape.trans h.tape, h'.output.trans h.output, Nat.le_trans h.size h'.size, fun i hi hd => (h'.block i (Nat.lt_of_lt_of_le hi h.size) hd).trans (h.block i hi hd)⟩

end Go.Proofs.Ytdchckljggjaaaa
