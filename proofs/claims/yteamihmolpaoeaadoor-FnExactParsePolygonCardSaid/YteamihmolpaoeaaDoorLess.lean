/- Rows beside written blocks; differences of two lists; copies of points. Conditions: sizes. -/
import Derived.Test.YteamihmolpaoeaaDoorMark2
import Derived.Test.YteamihmolpaoeaaDoorWrap
import Derived.Test.YteamihmolpaoeaaDoorOps2
namespace Go.Proofs.YteamihmolpaoeaaDoor
open Go.RowKit
set_option linter.unusedVariables false
set_option linter.unusedSimpArgs false
set_option maxRecDepth 100000

theorem Within.cells0 {lo hi : Nat} {w w1 : World} (hw : Within lo hi w w1) {a : Addr} {v : Value} (h : w.cell? a = some v) (ha : a.block < lo ∨ hi ≤ a.block) : w1.cell? a = some v :=
  (World.cell?_of_block (hw.block a.block (World.block_lt_of_cell? w a h) ha)).trans h

/-- A slice that lies outside an interval of blocks. -/
def Out (lo hi : Nat) (q : Option Addr) : Prop := ∀ a, q = some a → a.block < lo ∨ hi ≤ a.block
theorem Ints.within {w w' : World} {lo hi : Nat} {q : Option Addr} {n : Nat} {ys : List Int} (h : Ints w q n ys) (hw : Within lo hi w w') (ho : Out lo hi q) : Ints w' q n ys :=
  ⟨h.len, fun k hk => by
    obtain ⟨b, o, hp, hc⟩ := h.cell k hk
    have := ho _ hp
    exact ⟨b, o, hp, hw.cells0 hc this⟩⟩

/-- The differences of two lists of numbers. -/
def lessW (xs ys : List Int) : List Int := (List.range xs.length).map fun j => wrap64 (nth xs j - nth ys j)
theorem lessW_length (xs ys : List Int) : (lessW xs ys).length = xs.length := by simp [lessW]
theorem lessW_nth {xs ys : List Int} {j : Nat} (h : j < xs.length) : nth (lessW xs ys) j = wrap64 (nth xs j - nth ys j) := by
  rw [nth_eq (by rw [lessW_length]; exact h)]; simp [lessW]
theorem l2Less_any (p q : Option Addr) (n c d : Nat) (xs ys : List Int) (w : World) (hn : n ≤ 17592186040000) (hx : Ints w p n xs) (hy : Ints w q n ys) :
    Calls Tryd.prog 93 #[.slice p n c, .slice q n d] w (NewInts w n (lessW xs ys)) := by
  have hl := Lib.hid hx.len
  have hl3 := Lib.hid (lessW_length xs ys)
  go_enter Tryd.func93, Tryd.ntmps93
  go_wp2
  go_loopw [5, 6] (fun v i wr => ∃ (k : Nat) (p' : Option Addr) (c' : Nat), k ≤ n ∧ i = .int .i64 k ∧ v = .slice p' k c' ∧ Own wr w.heap.size wr.heap.size p' k c' ((lessW xs ys).take k) ∧ Below w.heap.size w wr) (fun _ i _ => n - (intOf i).toNat)
  case atStart => exact ⟨0, _, _, Nat.zero_le _, rfl, rfl, (Own.empty w).up, (Below.refl _ _).alloc (Nat.le_refl _) _⟩
  case round =>
    obtain ⟨k, p', c', hk, rfl, rfl, hown, hb⟩ := hrel
    by_cases hlt : k < n
    · obtain ⟨b, o, rfl, hc⟩ := (hx.below hb).cell k hlt
      obtain ⟨b2, o2, rfl, hc2⟩ := (hy.below hb).cell k hlt
      go_wp2
      go_region_law (refine step_append_int rfl (.tmp 14) (.tmp 24) rfl _ w.heap.size _ _ _ _ _ rfl (hown.alloc _).drew wr.heap.size _ rfl (cellNewD _ _ _) (by omega) (sizeNewD hb _) ?_; intro p2 c2 w2 hown2 hg2)
      all_goals
        have hb2 := hg2.belowO ((hown.alloc _).drew) (sizeNewD hb _)
        go_wp2
        go_roundw
        case rel =>
          refine ⟨k + 1, _, _, by omega, by go_num, rfl, ?_, Below.newD hb _ hb2⟩
          rw [take_nth (by have := hl.out; have := hl3.out; omega), lessW_nth (by rw [hl.out]; exact hlt), ← wrapEq]
          exact hown2
        case measure => simp [intOf]; omega
    · go_wp2
      go_ret
      obtain rfl : k = n := by omega
      refine ⟨_, _, rfl, ?_, hb⟩
      rw [List.take_of_length_le (by have := hl.out; have := hl3.out; omega)] at hown
      exact hown

end Go.Proofs.YteamihmolpaoeaaDoor
