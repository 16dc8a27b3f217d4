/- The reference's draws of matrices: one whose determinant is 1 or -1. Conditions: sizes. -/
import Derived.Test.YthdonnkekggbbaaGreatDoorJnTexts
namespace Go.Proofs.YthdonnkekggbbaaGreatDoor
open Go.RowKit
set_option linter.unusedVariables false
set_option linter.unusedSimpArgs false
set_option maxRecDepth 100000

theorem l1Bit_some (t : Bool) : ∃ z : Int, 0 ≤ z ∧ z ≤ 1 ∧ ∀ W : World, Calls Tryz.prog 46 #[.bool t] W fun e w' => e = .returned (.int .i64 z) ∧ W = w' := by
  cases t
  · refine ⟨0, by omega, by omega, fun W => ?_⟩
    go_enter Tryz.func46, Tryz.ntmps46
    go_wp2
    go_ret
    exact ⟨rfl, rfl⟩
  · refine ⟨1, by omega, by omega, fun W => ?_⟩
    go_enter Tryz.func46, Tryz.ntmps46
    go_wp2
    go_ret
    exact ⟨rfl, rfl⟩

theorem Own2.cellAt {w : World} {lo hi g : Nat} {n c : Nat} {rows : List Row} {xss : List (List Int)} (h : Own2 w lo hi (some ⟨g, 0, none⟩) n c rows xss) {k : Nat} (hk : k < rows.length) {q : Option Addr} {m d : Nat} (hr : rows[k] = (q, m, d)) :
    w.cell? ⟨g, k, none⟩ = some (.slice q m d) := by
  obtain ⟨g', hg, hc⟩ := h.rowAt k (by rw [← h.count]; exact hk) hk
  injection hg with hg
  injection hg with e
  subst e
  rw [hr] at hc
  exact hc
theorem Own2.rowOf {w : World} {lo hi : Nat} {p : Option Addr} {n c : Nat} {rows : List Row} {xss : List (List Int)} (h : Own2 w lo hi p n c rows xss) {k : Nat} (hk : k < rows.length) {q : Option Addr} {m d : Nat} (hr : rows[k] = (q, m, d)) :
    Own w lo hi q m d (nthR xss k) := by
  have h1 := h.inner k hk
  rw [hr] at h1
  exact h1

end Go.Proofs.YthdonnkekggbbaaGreatDoor
