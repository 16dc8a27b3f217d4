/- The argument of a law, opened: bytes that came in. Conditions: none. -/
import Derived.Test.YtpfklkmmhdpphacJnBase
import Derived.Test.YtpfklkmmhdpphacCur
namespace Go.Proofs.Ytpfklkmmhdpphac
open Go.ChangeShapes Go.WideShapes Go.ChangeAt Go.RowKit Go.Deep Go.Joins
set_option linter.unusedVariables false
set_option linter.unusedSimpArgs false
set_option maxRecDepth 100000

section
variable {H : Type} {enc : TypeId × Value → H} {W : World} {v : Value} {d : DataW H} {p : List MemPlace}
theorem bytes_of_cells {w : World} {a : Addr} {zs : List Int} {len : Nat} (hl : len ≤ zs.length) (hc : ∀ i, i < zs.length → w.cell? (a.add i) = some (.int .u8 (zs.getD i 0))) (hw : ∀ n ∈ zs, 0 ≤ n ∧ n ≤ 255) :
    BytesZ w (some a) len (zs.take len) := by
  refine ⟨by simp [Nat.min_eq_left hl], fun k hk => ?_⟩
  obtain ⟨b, o, spot⟩ := a
  have h0 := hc 0 (by omega)
  have hs : spot = none := by simpa [Addr.add] using World.cell?_spot h0
  subst hs
  have hk' := hc k (by omega)
  rw [Addr.add_lit] at hk'
  have e : nth (zs.take len) k = zs.getD k 0 := by
    unfold nth
    rw [List.getD_eq_getElem?_getD, List.getElem?_take, if_pos hk, List.getD_eq_getElem?_getD]
  have hm : zs.getD k 0 ∈ zs := by
    rw [List.getD_eq_getElem?_getD, List.getElem?_eq_getElem (by omega)]
    exact List.getElem_mem _
  have hb := hw _ hm
  exact ⟨b, o, rfl, by rw [e]; exact hk', by rw [e]; exact hb.1, by rw [e]; exact hb.2⟩
set_option maxRecDepth 100000 in
theorem openBytes {base : Nat} (hv : Value.okWide Try.prog W .any base 22 v) (h : DataW.Trod enc Try.prog W 0 (fun _ => true) true 22 v d p) :
    ∃ q n c xs, v = .slice q n c ∧ n ≤ 9223372036854775807 ∧ BytesZ W q n xs := by
  obtain ⟨q, n, c, rfl⟩ := okWide_slice Try.underlying22 hv
  obtain ⟨fuel, hf⟩ := h
  rcases open_ints Try.underlying22 Try.underlying5 (by kernel_rfl) hf with ⟨hcs, _⟩ | ⟨x, l, c', zs, hcs, _, hl, hm, hz, _, hcell, hwz⟩
  · simp [Value.cells] at hcs
    obtain ⟨rfl, rfl, rfl⟩ := hcs
    exact ⟨none, 0, 0, [], rfl, by omega, rfl, fun k hk => by omega⟩
  · simp [Value.cells] at hcs
    obtain ⟨rfl, rfl, rfl⟩ := hcs
    unfold maxLen at hm
    refine ⟨_, n, c, zs.take n, rfl, by omega, bytes_of_cells (by simp at hz; omega) hcell fun m hm2 => ?_⟩
    have wn := hwz m hm2
    simp only [Lit.wf, Bool.and_eq_true, decide_eq_true_eq] at wn
    have e1 : IntKind.u8.min = 0 := rfl
    have e2 : IntKind.u8.max = 255 := rfl
    rw [e1, e2] at wn
    exact wn
end

end Go.Proofs.Ytpfklkmmhdpphac
