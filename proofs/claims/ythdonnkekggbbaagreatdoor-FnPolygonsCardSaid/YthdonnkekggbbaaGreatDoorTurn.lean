/- Contracts of l3Turn and l3Times. Conditions: sizes. -/
import Derived.Test.YthdonnkekggbbaaGreatDoorApply
namespace Go.Proofs.YthdonnkekggbbaaGreatDoor
open Go.RowKit
set_option linter.unusedVariables false
set_option linter.unusedSimpArgs false
set_option maxRecDepth 100000

/-- Column j of a matrix. -/
def colL (xss : List (List Int)) (j : Nat) : List Int := xss.map fun r => nth r j
def turnL (xss : List (List Int)) : List (List Int) := (List.range xss.length).map (colL xss)
theorem colL_length (xss : List (List Int)) (j : Nat) : (colL xss j).length = xss.length := by simp [colL]
theorem turnL_length (xss : List (List Int)) : (turnL xss).length = xss.length := by simp [turnL]
theorem colL_nth {xss : List (List Int)} {j k : Nat} (h : k < xss.length) : nth (colL xss j) k = nth (nthR xss k) j := by
  rw [nth_eq (by rw [colL_length]; exact h), nthR_eq h]; simp [colL]
theorem turnL_nth {xss : List (List Int)} {k : Nat} (h : k < xss.length) : nthR (turnL xss) k = colL xss k := by
  rw [nthR_eq (by rw [turnL_length]; exact h)]; simp [turnL]
theorem colL_take {xss : List (List Int)} {j k : Nat} (h : k < xss.length) : (colL xss j).take (k + 1) = (colL xss j).take k ++ [nth (nthR xss k) j] := by
  rw [take_nth (by rw [colL_length]; exact h), colL_nth h]
theorem turnL_take {xss : List (List Int)} {k : Nat} (h : k < xss.length) : (turnL xss).take (k + 1) = (turnL xss).take k ++ [colL xss k] := by
  rw [take_nthR (by rw [turnL_length]; exact h), turnL_nth h]

/-- The product of two matrices. -/
def timesW (xss yss : List (List Int)) : List (List Int) := xss.map (applyW (turnL yss))
theorem timesW_length (xss yss : List (List Int)) : (timesW xss yss).length = xss.length := by simp [timesW]
theorem timesW_take {xss yss : List (List Int)} {k : Nat} (h : k < xss.length) : (timesW xss yss).take (k + 1) = (timesW xss yss).take k ++ [applyW (turnL yss) (nthR xss k)] := by
  rw [take_nthR (by rw [timesW_length]; exact h)]
  congr 2
  rw [nthR_eq (by rw [timesW_length]; exact h), nthR_eq h]; simp [timesW]

/-- A row that lies outside an interval of blocks. -/
def Off (lo hi : Nat) (p : Option Addr) : Prop := ∀ g, blk p = some g → g < lo ∨ hi ≤ g
theorem Off.grow {W W' : World} {lo hi : Nat} {p p' : Option Addr} (h : Off lo hi p) (hg : Grow W W' p p') (hh : hi ≤ W.heap.size) : Off lo hi p' := fun g e => by
  rcases hg.at_ with h1 | h1
  · exact h g (by rw [← h1, e])
  · rw [h1] at e; injection e with e; omega
theorem OwnM.off {W W' : World} {lo hi : Nat} {p p' q : Option Addr} {n c : Nat} {xss : List (List Int)} (h : OwnM W lo hi q n c xss) (ho : Off lo hi p) (hg : Grow W W' p p') : OwnM W' lo hi q n c xss := by
  cases p with
  | none => exact h.within (lo' := 0) (hi' := 0) ⟨hg.by_.os, hg.by_.tape, hg.by_.output, hg.by_.size, fun k hk _ => hg.by_.block k hk (by simp [blk])⟩ (.inr (Nat.zero_le _))
  | some a =>
    have h1 := ho a.block rfl
    exact h.within (lo' := a.block) (hi' := a.block + 1) ⟨hg.by_.os, hg.by_.tape, hg.by_.output, hg.by_.size, fun k hk hd => hg.by_.block k hk (by
      simp only [blk, Option.map_some, ne_eq, Option.some.injEq]; omega)⟩ (by omega)

theorem turnL_row {xss : List (List Int)} {k : Nat} (h : k < (turnL xss).length) : (nthR (turnL xss) k).length = xss.length := by
  rw [turnL_length] at h
  rw [turnL_nth h, colL_length]

end Go.Proofs.YthdonnkekggbbaaGreatDoor
