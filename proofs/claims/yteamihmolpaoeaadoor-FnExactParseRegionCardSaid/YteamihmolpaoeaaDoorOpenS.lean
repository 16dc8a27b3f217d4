/- The arguments of a law, opened: texts, slices of texts, bytes. Conditions: none. -/
import Derived.Test.YteamihmolpaoeaaDoorOpen
import Derived.Test.YteamihmolpaoeaaDoorStr
import Derived.ChangeMaps5
import Derived.SliceStrings
namespace Go.Proofs.YteamihmolpaoeaaDoor
open Go.ChangeShapes Go.WideShapes Go.ChangeAt Go.RowKit Go.Deep
open Go.ChangeMaps (open_string shut_string)
set_option linter.unusedVariables false
set_option linter.unusedSimpArgs false
set_option maxRecDepth 100000

section
variable {H : Type} {enc : TypeId × Value → H} {W : World} {v : Value} {d : DataW H} {p : List MemPlace}
theorem openString {base : Nat} (hv : Value.okWide Tryd.prog W .any base 9 v) (h : DataW.Trod enc Tryd.prog W 0 (fun _ => true) true 9 v d p) :
    ∃ l : List UInt8, v = .string ⟨l.toArray⟩ ∧ l.length ≤ 9223372036854775807 := by
  obtain ⟨s, rfl, rfl, rfl, hs⟩ := open_string Tryd.underlying9 hv h
  refine ⟨s.data.toList, by rw [mk_eta], ?_⟩
  unfold maxLen at hs
  have : s.data.toList.length = s.size := Array.length_toList
  omega
theorem openStrings {base : Nat} (hv : Value.okWide Tryd.prog W .any base 35 v) (h : DataW.Trod enc Tryd.prog W 0 (fun _ => true) true 35 v d p) :
    ∃ q n c xs, v = .slice q n c ∧ (n ≤ 9223372036854775807 ∧ ∀ k, k < n → (nthS xs k).length ≤ 9223372036854775807) ∧ Strs W q n xs := by
  obtain ⟨q, n, c, rfl⟩ := okWide_slice Tryd.underlying35 hv
  obtain ⟨fuel, hf⟩ := h
  rcases open_strings Tryd.underlying35 Tryd.underlying9 (by kernel_rfl) hf with ⟨hcs, _⟩ | ⟨a, l, c', ss, hcs, _, hl, hm, hz, _, hcell, hsz⟩
  · simp [Value.cells] at hcs
    obtain ⟨rfl, rfl, rfl⟩ := hcs
    exact ⟨none, 0, 0, [], rfl, ⟨by omega, fun k hk => by omega⟩, Strs.nil _ _⟩
  · simp [Value.cells] at hcs
    obtain ⟨rfl, rfl, rfl⟩ := hcs
    unfold maxLen at hm hsz
    have hz' : n ≤ ss.length := by simp at hz; omega
    have hnth : ∀ k, k < n → nthS ((ss.take n).map (·.data.toList)) k = (ss.getD k ByteArray.empty).data.toList := fun k hk => by
      rw [nthS_eq (by simp; omega)]
      simp [List.getD, show k < ss.length by omega]
    refine ⟨_, n, c, (ss.take n).map (·.data.toList), rfl, ⟨by omega, fun k hk => ?_⟩, ⟨by simp; omega, fun k hk => ?_⟩⟩
    · rw [hnth k hk, Array.length_toList]
      have := hsz (ss.getD k ByteArray.empty) (by simp [List.getD, show k < ss.length by omega])
      exact this
    · obtain ⟨b, o, spot⟩ := a
      have h0 := hcell 0 (by omega)
      have hs : spot = none := by simpa [Addr.add] using World.cell?_spot h0
      subst hs
      refine ⟨b, o, rfl, ?_⟩
      have h1 := hcell k (by omega)
      rw [Addr.add_lit] at h1
      rw [h1, hnth k hk, mk_eta]
theorem openByte {base : Nat} (hv : Value.okWide Tryd.prog W .any base 5 v) (h : DataW.Trod enc Tryd.prog W 0 (fun _ => true) true 5 v d p) :
    ∃ z : Int, v = .int .u8 z ∧ 0 ≤ z ∧ z ≤ 255 := by
  obtain ⟨n, rfl, rfl, rfl, wn⟩ := open_int Tryd.underlying5 hv h
  refine ⟨n, rfl, ?_⟩
  simp only [Lit.wf, Bool.and_eq_true, decide_eq_true_eq] at wn
  have e1 : IntKind.u8.min = 0 := rfl
  have e2 : IntKind.u8.max = 255 := rfl
  rw [e1, e2] at wn
  exact wn
end

end Go.Proofs.YteamihmolpaoeaaDoor
