/- The arguments of a law, opened: a struct of a slice of numbers and a number that came in. Conditions: none. -/
import Derived.Test.YtbdndkombedfnaaOpen
namespace Go.Proofs.Ytbdndkombedfnaa
open Go.ChangeShapes Go.WideShapes Go.ChangeAt Go.RowKit Go.Deep Go.Joins
set_option linter.unusedVariables false
set_option linter.unusedSimpArgs false
set_option maxRecDepth 100000

section
variable {H : Type} {enc : TypeId × Value → H} {W : World} {v : Value} {d : DataW H} {p : List MemPlace}
/-- A slice of numbers and a number, out of the readings of their cells. -/
theorem pair_of {n : Nat} {v0 v1 : Value} {y0 y1 : DataW H × List MemPlace} (hs : ∃ q n c, v0 = .slice q n c)
    (h0 : DataW.trod enc Try.prog W 0 (fun _ => true) true n 43 [v0] = some y0) (h1 : DataW.trod enc Try.prog W 0 (fun _ => true) true n 3 [v1] = some y1) :
    ∃ q n c xs b, v0 = .slice q n c ∧ v1 = .int .i64 b ∧ n ≤ 9223372036854775807 ∧ Ints W q n xs ∧ -9223372036854775808 ≤ b ∧ b ≤ 9223372036854775807 := by
  obtain ⟨b, e1, _, wb⟩ := DataW.trod_int Try.underlying3 h1
  simp at e1
  have hb := bounds_i64 wb
  obtain ⟨q, m, c, rfl⟩ := hs
  rcases open_ints Try.underlying43 Try.underlying3 (by kernel_rfl) h0 with ⟨hcs, _⟩ | ⟨x, l, c', zs, hcs, _, hl, hm, hz, _, hcell, hwz⟩
  · simp at hcs
    obtain ⟨rfl, rfl, rfl⟩ := hcs
    exact ⟨none, 0, 0, [], b, rfl, e1, by omega, Ints.nil _ _, hb.1, hb.2⟩
  · simp at hcs
    obtain ⟨rfl, rfl, rfl⟩ := hcs
    unfold maxLen at hm
    exact ⟨_, m, c, zs.take m, b, rfl, e1, by omega, ints_of_cells (by simp at hz; omega) hcell, hb.1, hb.2⟩

theorem slice_of {n : Nat} {v0 : Value} {y0 : DataW H × List MemPlace} (h0 : DataW.trod enc Try.prog W 0 (fun _ => true) true n 43 [v0] = some y0) : ∃ q n c, v0 = .slice q n c := by
  rcases open_ints Try.underlying43 Try.underlying3 (by kernel_rfl) h0 with ⟨hcs, _⟩ | ⟨x, l, c', zs, hcs, _⟩
  · simp at hcs; exact ⟨_, _, _, hcs⟩
  · simp at hcs; exact ⟨_, _, _, hcs⟩

set_option maxRecDepth 100000 in
theorem openHalf {base : Nat} (hv : Value.okWide Try.prog W .any base 61 v) (h : DataW.Trod enc Try.prog W 0 (fun _ => true) true 61 v d p) :
    ∃ q n c xs b, v = .agg #[.slice q n c, .int .i64 b] ∧ n ≤ 9223372036854775807 ∧ Ints W q n xs ∧ -9223372036854775808 ≤ b ∧ b ≤ 9223372036854775807 := by
  obtain ⟨c0, c1, y0, y1, m, rfl, _, _, h0, h1⟩ := open_agg2 Try.underlying61 (by kernel_rfl) (by kernel_rfl) hv h
  obtain ⟨q, n, c, xs, b, rfl, rfl, hn, hx, hb1, hb2⟩ := pair_of (slice_of h0) h0 h1
  exact ⟨q, n, c, xs, b, rfl, hn, hx, hb1, hb2⟩
end

end Go.Proofs.Ytbdndkombedfnaa
