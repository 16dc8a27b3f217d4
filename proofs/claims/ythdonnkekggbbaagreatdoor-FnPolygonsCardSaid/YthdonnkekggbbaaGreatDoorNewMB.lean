/- What a call gives: rows of its own and a yes or no. Conditions: none. -/
import Derived.Test.YthdonnkekggbbaaGreatDoorJnTexts
namespace Go.Proofs.YthdonnkekggbbaaGreatDoor
open Go.RowKit
set_option linter.unusedVariables false
set_option linter.unusedSimpArgs false
set_option maxRecDepth 100000

/-- What a call gives: rows of its own and a yes or no. -/
def NewMB (w : World) (r : List (List Int) × Bool) (e : Ending) (w' : World) : Prop :=
  ∃ p n c, e = .returned (.tuple #[.slice p n c, .bool r.2]) ∧ OwnM w' w.heap.size w'.heap.size p n c r.1 ∧ Below w.heap.size w w'
theorem NewMB.none_ {w w1 : World} (hb : Below w.heap.size w w1) : NewMB w ([], false) (.returned (.tuple #[.slice none 0 0, .bool false])) w1 := ⟨_, _, _, rfl, OwnM.nil _ _ _, hb⟩
theorem NewMB.empty {w w1 : World} (hb : Below w.heap.size w w1) : NewMB w ([], false) (.returned (.tuple #[.slice (some ⟨w1.heap.size, 0, none⟩) 0 0, .bool false])) (w1.alloc (.cells #[] 29)) :=
  ⟨_, _, _, rfl, ⟨_, (Own2.empty w1).up.widen hb.size (Nat.le_refl _)⟩, hb.alloc hb.size _⟩


end Go.Proofs.YthdonnkekggbbaaGreatDoor
