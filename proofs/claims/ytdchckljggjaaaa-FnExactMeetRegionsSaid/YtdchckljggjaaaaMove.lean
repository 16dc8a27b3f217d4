/- Contract of impl.MoveRegion. Conditions: sizes. -/
import Derived.Test.YtdchckljggjaaaaCopy2
namespace Go.Proofs.Ytdchckljggjaaaa
open Go.RowKit
set_option linter.unusedVariables false
set_option linter.unusedSimpArgs false
set_option maxRecDepth 100000

/-- The halves, each bound moved. -/
def moveW (hs : List Pr) (xs : List Int) : List Pr := hs.map fun h => (h.1, wrap64 (h.2 + dotW h.1 xs))
theorem moveW_length (hs : List Pr) (xs : List Int) : (moveW hs xs).length = hs.length := by simp [moveW]
theorem moveW_at {hs : List Pr} {xs : List Int} {k : Nat} (h : k < hs.length) : prAt (moveW hs xs) k = (nrm hs k, wrap64 (bnd hs k + dotW (nrm hs k) xs)) := by
  rw [prAt_eq (by rw [moveW_length]; exact h)]; simp [moveW, nrm, bnd, prAt_eq h]
def moveV (z : Int) (hs : List Pr) (xs : List Int) : (Int × List Pr) × Bool := if isReg z hs = true ∧ isVec xs = true ∧ (xs.length : Int) = z then regIf z (moveW hs xs) else ((0, []), false)

/-- A struct that the call keeps, and its result's, both new. -/
theorem boxes2 (w : World) (z : Int) (p : Option Addr) (n c : Nat) :
    Box2 ((w.alloc (.cells #[.int .i64 z, .slice p n c] 28)).alloc (.cells #[.int .i64 0, .slice none 0 0] 28)) w.heap.size (.int .i64 z) (.slice p n c) 28 ∧
    Box2 ((w.alloc (.cells #[.int .i64 z, .slice p n c] 28)).alloc (.cells #[.int .i64 0, .slice none 0 0] 28)) (w.heap.size + 1) (.int .i64 0) (.slice none 0 0) 28 ∧
    w.heap.size + 2 ≤ ((w.alloc (.cells #[.int .i64 z, .slice p n c] 28)).alloc (.cells #[.int .i64 0, .slice none 0 0] 28)).heap.size := by
  refine ⟨(Box2.new w _ _ _).alloc _, ?_, by simp⟩
  have h := Box2.new (w.alloc (.cells #[.int .i64 z, .slice p n c] 28)) (.int .i64 0) (.slice none 0 0) 28
  rwa [World.size_alloc] at h

theorem back2 {w w1 : World} (hb : Below w.heap.size w w1) (k : Nat) (u v : Value) : Below w.heap.size w ((w1.setCell ⟨w.heap.size + k, 0, none⟩ u).setCell ⟨w.heap.size + k, 1, none⟩ v) :=
  (hb.setCell (p := ⟨_, _, none⟩) (by dsimp only; omega) _).setCell (p := ⟨_, _, none⟩) (by dsimp only; omega) _

theorem OwnP.drewN {E : TypeId} {w : World} {lo hi : Nat} {p : Option Addr} {n c : Nat} {rows : List Row} {hs : List Pr} (h : OwnP E w lo hi p n c rows hs) (z : Nat) : OwnP E (w.drewN z) lo hi p n c rows hs :=
  h.below (Below.drawn (Below.refl _ _) z)

end Go.Proofs.Ytdchckljggjaaaa
