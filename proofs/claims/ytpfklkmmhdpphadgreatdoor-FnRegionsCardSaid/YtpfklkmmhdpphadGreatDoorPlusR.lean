/- The great laws' own sum of lists. Conditions: sizes. -/
import Derived.Test.YtpfklkmmhdpphadGreatDoorJnBase
namespace Go.Proofs.YtpfklkmmhdpphadGreatDoor
open Go.RowKit
set_option linter.unusedVariables false
set_option linter.unusedSimpArgs false
set_option maxRecDepth 100000

theorem lawPlus_any (p q : Option Addr) (n c d : Nat) (xs ys : List Int) (w : World) (hn : n ≤ 17592186040000) (hx : Ints w p n xs) (hy : Ints w q n ys) :
    Calls Tryz.prog 27 #[.slice p n c, .slice q n d] w (NewInts w n (addW xs ys)) := by
  have hl := Lib.hid hx.len
  have hl2 := Lib.hid hy.len
  have hl3 := Lib.hid (addW_length (hx.len.trans hy.len.symm))
  go_enter Tryz.func27, Tryz.ntmps27
  go_wp2
  go_loopw [5, 6] (fun v i wr => ∃ (k : Nat) (p' : Option Addr) (c' : Nat), k ≤ n ∧ i = .int .i64 k ∧ v = .slice p' k c' ∧ Own wr w.heap.size wr.heap.size p' k c' ((addW xs ys).take k) ∧ Below w.heap.size w wr) (fun _ i _ => n - (intOf i).toNat)
  case atStart => exact ⟨0, _, _, Nat.zero_le _, rfl, rfl, (Own.empty w).up, (Below.refl _ _).alloc (Nat.le_refl _) _⟩
  case round =>
    obtain ⟨k, p', c', hk, rfl, rfl, hown, hb⟩ := hrel
    by_cases hlt : k < n
    · obtain ⟨b, o, rfl, hc⟩ := (hx.below hb).cell k hlt
      obtain ⟨b2, o2, rfl, hc2⟩ := (hy.below hb).cell k hlt
      go_wp2
      go_region_law (refine step_append_int rfl (.tmp 20) (.tmp 30) rfl _ w.heap.size _ _ _ _ _ rfl (hown.alloc _).drew wr.heap.size _ rfl (cellNewD _ _ _) (by omega) (sizeNewD hb _) ?_; intro p2 c2 w2 hown2 hg2)
      all_goals
        have hb2 := hg2.belowO ((hown.alloc _).drew) (sizeNewD hb _)
        go_wp2
        go_roundw
        case rel =>
          refine ⟨k + 1, _, _, by omega, by go_num, rfl, ?_, Below.newD hb _ hb2⟩
          rw [take_nth (by have := hl.out; have := hl3.out; omega), addW_nth (by rw [hl.out, hl2.out]) (by rw [hl.out]; exact hlt), ← wrapEq]
          exact hown2
        case measure => simp [intOf]; omega
    · go_wp2
      go_ret
      obtain rfl : k = n := by omega
      refine ⟨_, _, rfl, ?_, hb⟩
      rw [List.take_of_length_le (by have := hl.out; have := hl3.out; omega)] at hown
      exact hown

theorem addW_self : ∀ xs : List Int, addW xs xs = xs.map fun x => wrap64 (x + x)
  | [] => rfl
  | x :: xs => by rw [addW, addW_self xs]; rfl

end Go.Proofs.YtpfklkmmhdpphadGreatDoor
