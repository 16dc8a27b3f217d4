/- What the laws' walks share: how long results are, frames over marks. Conditions: none. -/
import Derived.Test.YtdchckljggjaaaaVecFns3
namespace Go.Proofs.Ytdchckljggjaaaa
open Go.RowKit
set_option linter.unusedVariables false
set_option linter.unusedSimpArgs false
set_option maxRecDepth 100000

theorem Own.rd {w : World} {lo hi : Nat} {p : Option Addr} {n c : Nat} {xs : List Int} (h : Own w lo hi p n c xs) : Ints w p n xs := h.ints

theorem Below.mark {w w1 w2 : World} {lo hi : Nat} (h : Below w.heap.size w w1) (k : Within lo hi w1 w2) (hl : w.heap.size ≤ lo) : Below w.heap.size w w2 :=
  h.trans (k.below hl h.size)

theorem box1c (w : World) (v0 v1 : Value) (T : TypeId) : (w.alloc (.cells #[v0, v1] T)).cell? ⟨w.heap.size, 0, none⟩ = some v0 ∧ (w.alloc (.cells #[v0, v1] T)).cell? ⟨w.heap.size, 1, none⟩ = some v1 := by
  refine ⟨?_, ?_⟩ <;> simp [go_sem]
theorem Within.cells {lo hi : Nat} {w w1 : World} (hw : Within lo hi w w1) {a : Addr} {v : Value} (h : w.cell? a = some v) (ha : a.block < lo) : w1.cell? a = some v :=
  (World.cell?_of_block (hw.block a.block (World.block_lt_of_cell? w a h) (.inl ha))).trans h

theorem drewBelow (w : World) : Below w.heap.size w w.drew := (Below.refl _ _).drew
theorem eqIntS_self (p q : Option Addr) (n c m d : Nat) (xs : List Int) (w : World) (hx : Ints w p n xs) (hy : Ints w q m xs) (hn : n ≤ 9223372036854775807) (hm : m ≤ 9223372036854775807) :
    Calls Try.prog 132 #[.slice p n c, .slice q m d] w (Ret (.bool true) w) := by
  have h := ret_of_drew (eqIntS_any p q n c m d xs xs w hx hy hn hm)
  rw [beqL_self] at h
  exact h

theorem vecIf_len (xs : List Int) : (vecIf xs).1.length ≤ 3 := by
  unfold vecIf
  split
  · rename_i h; exact (isVec_len h).2
  · simp
theorem addV_len (xs ys : List Int) : (addV xs ys).1.length ≤ 3 := by
  unfold addV
  split
  · exact vecIf_len _
  · simp
theorem scaleV_len (xs : List Int) (u : Int) : (scaleV xs u).1.length ≤ 3 := by
  unfold scaleV
  split
  · exact vecIf_len _
  · simp

end Go.Proofs.Ytdchckljggjaaaa
