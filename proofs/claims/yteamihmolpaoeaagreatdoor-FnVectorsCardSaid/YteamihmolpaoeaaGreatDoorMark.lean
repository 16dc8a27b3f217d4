/- Contracts of the laws' helpers on lists of numbers: are two the same, marking, are the marks held. Conditions: lengths fit an int. -/
import Derived.Test.YteamihmolpaoeaaGreatDoorVec
namespace Go.Proofs.YteamihmolpaoeaaGreatDoor
open Go.RowKit
set_option linter.unusedVariables false
set_option linter.unusedSimpArgs false
set_option maxRecDepth 100000

/-- Two lists of numbers are the same. -/
def beqL (xs ys : List Int) : Bool := decide (xs = ys)
theorem beqL_self (xs : List Int) : beqL xs xs = true := by simp [beqL]
theorem nth_ext {xs ys : List Int} (h : xs.length = ys.length) (hk : ∀ k, k < xs.length → nth xs k = nth ys k) : xs = ys :=
  List.ext_getElem h fun i h1 h2 => by have := hk i h1; rwa [nth_eq h1, nth_eq h2] at this

/-- What marking leaves: the row holds the numbers from k on; no block outside lo .. hi - 1 has turned. -/
def Marked (w : World) (lo hi : Nat) (p : Option Addr) (n c : Nat) (k : Int) (e : Ending) (w' : World) : Prop :=
  e = .returned (.int .i64 (k + n)) ∧ Own w' lo hi p n c (upFrom k n) ∧ Within lo hi w w'

theorem Within.refl (lo hi : Nat) (w : World) : Within lo hi w w := ⟨rfl, rfl, rfl, Nat.le_refl _, fun _ _ _ => rfl⟩
theorem Within.setCell {lo hi : Nat} {a w : World} (h : Within lo hi a w) {p : Addr} (h1 : lo ≤ p.block) (h2 : p.block < hi) (u : Value) : Within lo hi a (w.setCell p u) :=
  ⟨h.os, h.tape, h.output, by have := h.size; simpa [World.setCell] using this, fun k hk hd => by
    rw [Below.heap_setCell _ _ _ _ (by omega)]; exact h.block k hk hd⟩
theorem Within.drewN {lo hi : Nat} {a w : World} (h : Within lo hi a w) (z : Nat) : Within lo hi a (w.drewN z) := ⟨h.os, h.tape, h.output, h.size, h.block⟩
theorem Own.drewN {w : World} {lo hi : Nat} {p : Option Addr} {n c : Nat} {xs : List Int} (h : Own w lo hi p n c xs) (z : Nat) : Own (w.drewN z) lo hi p n c xs := ⟨h.row, h.top⟩

theorem drew2 (w : World) (a b : Nat) : ∃ z, (w.drewN a).drewN b = w.drewN z := ⟨_, World.drewN_drewN _ _ _⟩
theorem drew3 (w : World) (a b c : Nat) : ∃ z, ((w.drewN a).drewN b).drewN c = w.drewN z := ⟨_, by rw [World.drewN_drewN, World.drewN_drewN]⟩
theorem Below.step {w w1 w2 : World} (h : Below w.heap.size w w1) (k : Below w1.heap.size w1 w2) : Below w.heap.size w w2 := h.trans (k.mono h.size)
theorem Below.drawn {w w1 : World} (h : Below w.heap.size w w1) (z : Nat) : Below w.heap.size w (w1.drewN z) := ⟨h.os, h.tape, h.output, h.size, h.block⟩

end Go.Proofs.YteamihmolpaoeaaGreatDoor
