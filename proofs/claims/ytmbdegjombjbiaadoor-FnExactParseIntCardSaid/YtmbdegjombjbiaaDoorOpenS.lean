/- The arguments of a law, opened: texts, slices of texts, bytes. Conditions: none. -/
import Derived.Test.YtmbdegjombjbiaaDoorOpen
import Derived.Test.YtmbdegjombjbiaaDoorStr
import Derived.ChangeMaps5
namespace Go.Proofs.YtmbdegjombjbiaaDoor
open Go.ChangeShapes Go.WideShapes Go.ChangeAt Go.RowKit Go.Deep
open Go.ChangeMaps (open_string shut_string)
set_option linter.unusedVariables false
set_option linter.unusedSimpArgs false
set_option maxRecDepth 100000

section
variable {H : Type} {enc : TypeId × Value → H} {W : World} {v : Value} {d : DataW H} {p : List MemPlace}
theorem openString {base : Nat} (hv : Value.okWide Tryd.prog W .any base 9 v) (h : DataW.Trod enc Tryd.prog W 0 (fun _ => true) true 9 v d p) :
    ∃ l : List UInt8, v = .string ⟨l.toArray⟩ ∧ l.length ≤ 9223372036854775807 := by
  obtain ⟨s, rfl, rfl, rfl, hs⟩ := open_string Tryd.underlying9 hv h
  refine ⟨s.data.toList, by rw [mk_eta], ?_⟩
  unfold maxLen at hs
  have : s.data.toList.length = s.size := Array.length_toList
  omega
theorem openByte {base : Nat} (hv : Value.okWide Tryd.prog W .any base 5 v) (h : DataW.Trod enc Tryd.prog W 0 (fun _ => true) true 5 v d p) :
    ∃ z : Int, v = .int .u8 z ∧ 0 ≤ z ∧ z ≤ 255 := by
  obtain ⟨n, rfl, rfl, rfl, wn⟩ := open_int Tryd.underlying5 hv h
  refine ⟨n, rfl, ?_⟩
  simp only [Lit.wf, Bool.and_eq_true, decide_eq_true_eq] at wn
  have e1 : IntKind.u8.min = 0 := rfl
  have e2 : IntKind.u8.max = 255 := rfl
  rw [e1, e2] at wn
  exact wn
end

end Go.Proofs.YtmbdegjombjbiaaDoor
