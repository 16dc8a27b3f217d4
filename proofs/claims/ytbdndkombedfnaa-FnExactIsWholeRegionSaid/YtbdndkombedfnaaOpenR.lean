/- The arguments of a law, opened: a region that came in. Conditions: none. -/
import Derived.Test.YtbdndkombedfnaaOpen
import Derived.Test.YtbdndkombedfnaaOpenM
import Derived.Test.YtbdndkombedfnaaOpenP
import Derived.Test.YtbdndkombedfnaaHalves
namespace Go.Proofs.Ytbdndkombedfnaa
open Go.ChangeShapes Go.WideShapes Go.ChangeAt Go.RowKit Go.Deep Go.Joins
set_option linter.unusedVariables false
set_option linter.unusedSimpArgs false
set_option maxRecDepth 100000

section
variable {H : Type} {enc : TypeId × Value → H} {W : World} {v : Value} {d : DataW H} {p : List MemPlace}
/-- A slice of halves, out of the reading of its cell. -/
theorem prs_of {f : Nat} {v0 : Value} {y0 : DataW H × List MemPlace} (hs : ∃ q n c, v0 = .slice q n c)
    (h0 : DataW.trod enc Try.prog W 0 (fun _ => true) true f 22 [v0] = some y0) :
    ∃ q n c hs, v0 = .slice q n c ∧ n ≤ 9223372036854775807 ∧ Prs W q n hs := by
  obtain ⟨q, n, c, rfl⟩ := hs
  rcases open_slice_pairs Try.underlying22 Try.underlying61 (by kernel_rfl) (by kernel_rfl) (by kernel_rfl) (by kernel_rfl) (by kernel_rfl) h0 with ⟨hcs, _⟩ | ⟨a, l, c', m, fu, V0, V1, D0, D1, P0, P1, hcs, _, hl, hm, hmm, _, hrow⟩
  · simp at hcs
    obtain ⟨rfl, rfl, rfl⟩ := hcs
    exact ⟨none, 0, 0, [], rfl, by omega, Prs.nil _ _⟩
  · simp at hcs
    obtain ⟨rfl, rfl, rfl⟩ := hcs
    have hnm : n ≤ m := by rw [hmm]; simpa using hl
    have each : ∀ k, k < n → ∃ x : (Option Addr × Nat × Nat) × (List Int × Int), V0 k = .slice x.1.1 x.1.2.1 x.1.2.2 ∧ V1 k = .int .i64 x.2.2 ∧ x.1.2.1 ≤ x.1.2.2 ∧ x.1.2.2 ≤ 9223372036854775807 ∧ Ints W x.1.1 x.1.2.1 x.2.1 := by
      intro k hk
      obtain ⟨_, _, ht0, ht1⟩ := hrow k (by omega)
      obtain ⟨b, e1, _, wb⟩ := DataW.trod_int Try.underlying3 ht1
      simp at e1
      rcases open_ints Try.underlying43 Try.underlying3 (by kernel_rfl) ht0 with ⟨hcs, _⟩ | ⟨x, l, c2, zs, hcs, _, hl2, hm2, hz, _, hcell, hwz⟩
      · simp at hcs
        exact ⟨((none, 0, 0), ([], b)), hcs, e1, Nat.le_refl _, by dsimp only; omega, Ints.nil _ _⟩
      · simp at hcs
        unfold maxLen at hm2
        exact ⟨((some x, l, c2), (zs.take l, b)), hcs, e1, hl2, by dsimp only; omega, ints_of_cells (by simp at hz; dsimp only; omega) hcell⟩
    obtain ⟨F, hF⟩ := choose_lt each
    unfold maxLen at hm
    refine ⟨_, n, c, (List.range n).map fun r => (F r).2, rfl, by omega, by simp, fun k hk => ?_⟩
    obtain ⟨h1, h2, h3, h4, h5⟩ := hF k hk
    obtain ⟨hc0, hc1, _, _⟩ := hrow k (by omega)
    have hat : prAt ((List.range n).map fun r => (F r).2) k = (F k).2 := by rw [prAt_eq (by simpa using hk)]; simp
    obtain ⟨b, o, spot⟩ := a
    have h00 := (hrow 0 (by omega)).1
    have hspot : spot = none := by simpa [Addr.add] using World.cell?_spot h00
    clear h00
    subst hspot
    rw [Addr.add_lit, h1] at hc0
    rw [Addr.add_lit, h2] at hc1
    exact ⟨b, o, _, _, _, rfl, hc0, by rw [bnd, hat]; exact hc1, h3, h4, by rw [nrm, hat]; exact h5⟩

theorem halves_slice {f : Nat} {v0 : Value} {y0 : DataW H × List MemPlace} (h0 : DataW.trod enc Try.prog W 0 (fun _ => true) true f 22 [v0] = some y0) : ∃ q n c, v0 = .slice q n c := by
  rcases open_slice_pairs Try.underlying22 Try.underlying61 (by kernel_rfl) (by kernel_rfl) (by kernel_rfl) (by kernel_rfl) (by kernel_rfl) h0 with ⟨hcs, _⟩ | ⟨a, l, c', m, fu, V0, V1, D0, D1, P0, P1, hcs, _⟩
  · simp at hcs; exact ⟨_, _, _, hcs⟩
  · simp at hcs; exact ⟨_, _, _, hcs⟩

set_option maxRecDepth 100000 in
theorem openRegion {base : Nat} (hv : Value.okWide Try.prog W .any base 24 v) (h : DataW.Trod enc Try.prog W 0 (fun _ => true) true 24 v d p) :
    ∃ z q n c hs, v = .agg #[.int .i64 z, .slice q n c] ∧ n ≤ 9223372036854775807 ∧ Prs W q n hs ∧ -9223372036854775808 ≤ z ∧ z ≤ 9223372036854775807 := by
  obtain ⟨c0, c1, y0, y1, m, rfl, _, _, h0, h1⟩ := open_agg2 Try.underlying24 (by kernel_rfl) (by kernel_rfl) hv h
  obtain ⟨b, e1, _, wb⟩ := DataW.trod_int Try.underlying3 h0
  simp at e1
  have hb := bounds_i64 wb
  obtain ⟨q, n, c, hs, rfl, hn, hx⟩ := prs_of (halves_slice h1) h1
  exact ⟨b, q, n, c, hs, by rw [e1], hn, hx, hb.1, hb.2⟩
end

end Go.Proofs.Ytbdndkombedfnaa
