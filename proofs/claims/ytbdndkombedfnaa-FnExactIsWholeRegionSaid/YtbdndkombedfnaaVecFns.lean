/- Contracts of the program's and the reference's AddVectors, ScaleVector, DotOf. Conditions: sizes. -/
import Derived.Test.YtbdndkombedfnaaVecOps
namespace Go.Proofs.Ytbdndkombedfnaa
open Go.RowKit
set_option linter.unusedVariables false
set_option linter.unusedSimpArgs false
set_option maxRecDepth 100000

/-- A function that hands back a new list and whether there is one. -/
def NewIB (w : World) (r : List Int × Bool) (e : Ending) (w' : World) : Prop :=
  ∃ p n c, e = .returned (.tuple #[.slice p n c, .bool r.2]) ∧ Own w' w.heap.size w'.heap.size p n c r.1 ∧ Below w.heap.size w w'

def vecIf (xs : List Int) : List Int × Bool := if isVec xs = true then (xs, true) else ([], false)
theorem vecIf_yes {xs : List Int} (h : isVec xs = true) : vecIf xs = (xs, true) := by simp [vecIf, h]
theorem vecIf_no {xs : List Int} (h : isVec xs = false) : vecIf xs = ([], false) := by simp [vecIf, h]

def addV (xs ys : List Int) : List Int × Bool := if isVec xs = true ∧ isVec ys = true ∧ xs.length = ys.length then vecIf (addW xs ys) else ([], false)

theorem NewIB.none_ {w : World} : NewIB w ([], false) (.returned (.tuple #[.slice none 0 0, .bool false])) w := ⟨_, _, _, rfl, Own.nil _ _ _, Below.refl _ _⟩

end Go.Proofs.Ytbdndkombedfnaa
