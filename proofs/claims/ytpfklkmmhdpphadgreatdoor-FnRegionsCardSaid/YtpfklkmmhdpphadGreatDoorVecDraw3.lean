/- The reference's draws of vectors: what a great law reads. Conditions: sizes. -/
import Derived.Test.YtpfklkmmhdpphadGreatDoorVecDraw2
import Derived.Test.YtpfklkmmhdpphadGreatDoorTexts
namespace Go.Proofs.YtpfklkmmhdpphadGreatDoor
open Go.RowKit
set_option linter.unusedVariables false
set_option linter.unusedSimpArgs false
set_option maxRecDepth 100000

/-- A row that reads as five numbers at most. -/
def ReadRow (w : World) (e : Ending) (w' : World) : Prop := ∃ q m d ys, e = .returned (.slice q m d) ∧ Ints w' q m ys ∧ m ≤ 5 ∧ Below w.heap.size w w'
def ReadTwo (w : World) (e : Ending) (w' : World) : Prop := ∃ q m d ys q' m' d' ys', e = .returned (.tuple #[.slice q m d, .slice q' m' d']) ∧ Ints w' q m ys ∧ m ≤ 5 ∧ Ints w' q' m' ys' ∧ m' ≤ 5 ∧ Below w.heap.size w w'

def scaleL : List Int := [0, 1, -1, 2, 3, 200, -1000, 1001]
theorem Own.setBelow2 {w : World} {lo hi : Nat} {p : Option Addr} {n c k b : Nat} {xs : List Int} (h : Own w lo hi p n c xs) (hb : hi ≤ b) (u : Value) : Own (w.setCell ⟨b, k, none⟩ u) lo hi p n c xs :=
  h.within (lo' := b) (hi' := b + 1) ((Within.refl b (b + 1) w).setCell (p := ⟨b, k, none⟩) (Nat.le_refl _) (Nat.lt_succ_self _) u) (.inl hb)

end Go.Proofs.YtpfklkmmhdpphadGreatDoor
