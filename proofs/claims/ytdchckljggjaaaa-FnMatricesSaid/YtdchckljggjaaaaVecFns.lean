/- Contracts of the program's and the reference's AddVectors, ScaleVector, DotOf. Conditions: sizes. -/
import Derived.Test.YtdchckljggjaaaaVecOps
namespace Go.Proofs.Ytdchckljggjaaaa
open Go.RowKit
set_option linter.unusedVariables false
set_option linter.unusedSimpArgs false
set_option maxRecDepth 100000

/-- A function that hands back a new list and whether there is one. -/
def NewIB (w : World) (r : List Int × Bool) (e : Ending) (w' : World) : Prop :=
  ∃ p n c, e = .returned (.tuple #[.slice p n c, .bool r.2]) ∧ Own w' w.heap.size w'.heap.size p n c r.1 ∧ Below w.heap.size w w'

theorem vectorOf_yes (p : Option Addr) (n c : Nat) (xs : List Int) (w : World) (hm : n ≤ 9223372036854775807) (hx : Ints w p n xs) (hv : isVec xs = true) :
    Calls Try.prog 99 #[.slice p n c] w fun e w' => e = .returned (.tuple #[.slice p n c, .bool true]) ∧ w = w' := by
  go_enter Try.func99, Try.ntmps99
  go_wp2_with (go_at_call 84; (with_reducible refine (implIsVector_any _ _ _ _ _ hx hm).mono ?_); rintro e w' ⟨rfl, rfl⟩)
  go_ret2
  exact ⟨rfl, rfl⟩
theorem vectorOf_no (p : Option Addr) (n c : Nat) (xs : List Int) (w : World) (hm : n ≤ 9223372036854775807) (hx : Ints w p n xs) (hv : isVec xs = false) :
    Calls Try.prog 99 #[.slice p n c] w fun e w' => e = .returned (.tuple #[.slice none 0 0, .bool false]) ∧ w = w' := by
  go_enter Try.func99, Try.ntmps99
  go_wp2_with (go_at_call 84; (with_reducible refine (implIsVector_any _ _ _ _ _ hx hm).mono ?_); rintro e w' ⟨rfl, rfl⟩)
  go_ret2
  exact ⟨rfl, rfl⟩

def vecIf (xs : List Int) : List Int × Bool := if isVec xs = true then (xs, true) else ([], false)
theorem vecIf_yes {xs : List Int} (h : isVec xs = true) : vecIf xs = (xs, true) := by simp [vecIf, h]
theorem vecIf_no {xs : List Int} (h : isVec xs = false) : vecIf xs = ([], false) := by simp [vecIf, h]

theorem vectorOf_any (lo : Nat) (p : Option Addr) (n c : Nat) (xs : List Int) (w : World) (hm : n ≤ 9223372036854775807) (hx : Own w lo w.heap.size p n c xs) :
    Calls Try.prog 99 #[.slice p n c] w fun e w' => (∃ p n c, e = .returned (.tuple #[.slice p n c, .bool (vecIf xs).2]) ∧ Own w lo w.heap.size p n c (vecIf xs).1) ∧ w = w' := by
  cases hv : isVec xs
  · rw [vecIf_no hv]
    exact (vectorOf_no p n c xs w hm hx.ints hv).mono fun e w' h => ⟨⟨_, _, _, h.1, Own.nil _ _ _⟩, h.2⟩
  · rw [vecIf_yes hv]
    exact (vectorOf_yes p n c xs w hm hx.ints hv).mono fun e w' h => ⟨⟨_, _, _, h.1, hx⟩, h.2⟩

def addV (xs ys : List Int) : List Int × Bool := if isVec xs = true ∧ isVec ys = true ∧ xs.length = ys.length then vecIf (addW xs ys) else ([], false)

theorem NewIB.none_ {w : World} : NewIB w ([], false) (.returned (.tuple #[.slice none 0 0, .bool false])) w := ⟨_, _, _, rfl, Own.nil _ _ _, Below.refl _ _⟩

end Go.Proofs.Ytdchckljggjaaaa
