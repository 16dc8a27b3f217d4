/- The arguments of a law, opened: a slice of slices of numbers that came in. Conditions: none. -/
import Derived.Test.YthdonnkekggbbaaGreatDoorJnBase
import Derived.Test.YthdonnkekggbbaaGreatDoorJnVecFns2
namespace Go.Proofs.YthdonnkekggbbaaGreatDoor
open Go.ChangeShapes Go.WideShapes Go.ChangeAt Go.RowKit Go.Deep
set_option linter.unusedVariables false
set_option linter.unusedSimpArgs false
set_option maxRecDepth 100000

theorem addr_cell {w : World} {a : Addr} {k : Nat} {v : Value} (h0 : ∃ u, w.cell? a = some u) (h : w.cell? (a.add k) = some v) : ∃ b o, a = ⟨b, o, none⟩ ∧ w.cell? ⟨b, o + k, none⟩ = some v := by
  obtain ⟨b, o, spot⟩ := a
  obtain ⟨u, h0⟩ := h0
  have hs : spot = none := World.cell?_spot h0
  subst hs
  exact ⟨b, o, rfl, by rw [Addr.add_lit] at h; exact h⟩

section
variable {H : Type} {enc : TypeId × Value → H} {W : World} {v : Value} {d : DataW H} {p : List MemPlace}
set_option maxRecDepth 100000 in
theorem openIntss {base : Nat} (hv : Value.okWide Tryz.prog W .any base 24 v) (h : DataW.Trod enc Tryz.prog W 0 (fun _ => true) true 24 v d p) :
    ∃ q n c xss, v = .slice q n c ∧ n ≤ 9223372036854775807 ∧ Intss W q n xss := by
  obtain ⟨q, n, c, rfl⟩ := okWide_slice Tryz.underlying24 hv
  obtain ⟨fuel, hf⟩ := h
  rcases open_int_rows Tryz.underlying24 Tryz.underlying29 Tryz.underlying3 (by kernel_rfl) (by kernel_rfl) hf with ⟨hcs, _⟩ | ⟨a, l, c', A, L, C, Z, hcs, _, hl, hm, _, hrow⟩
  · simp [Value.cells] at hcs
    obtain ⟨rfl, rfl, rfl⟩ := hcs
    exact ⟨none, 0, 0, [], rfl, by omega, Intss.nil _ _⟩
  · simp [Value.cells] at hcs
    obtain ⟨rfl, rfl, rfl⟩ := hcs
    unfold maxLen at hm
    refine ⟨_, n, c, (List.range n).map fun r => (Z r).take (L r), rfl, by omega, by simp, fun k hk => ?_⟩
    obtain ⟨hcell, hlc, hcm, hz, _, hnone, hrest⟩ := hrow k (by omega)
    obtain ⟨b, o, ha, hck⟩ := addr_cell (w := W) (a := a) (by
      have := (hrow 0 (by omega)).1
      rw [show a.add 0 = a by simp [Addr.add]] at this
      exact ⟨_, this⟩) hcell
    unfold maxLen at hcm
    refine ⟨b, o, A k, L k, C k, by rw [ha], hck, hlc, by omega, ?_⟩
    have e : nthR ((List.range n).map fun r => (Z r).take (L r)) k = (Z k).take (L k) := by
      rw [nthR_eq (by simpa using hk)]; simp
    rw [e]
    cases hA : A k with
    | none =>
      have h0 := hnone hA
      have hL : L k = 0 := by omega
      rw [hL]
      simp only [List.take_zero]
      exact Ints.nil _ _
    | some a' =>
      refine ints_of_cells (by omega) fun i hi => ?_
      exact (hrest a' hA).2 i (by omega)
end

end Go.Proofs.YthdonnkekggbbaaGreatDoor
