/- Rows beside written blocks; differences of two lists; copies of points. Conditions: sizes. -/
import Derived.Test.YtdchckljggjaaaaMark2
import Derived.Test.YtdchckljggjaaaaWrap
import Derived.Test.YtdchckljggjaaaaOps2
namespace Go.Proofs.Ytdchckljggjaaaa
open Go.RowKit
set_option linter.unusedVariables false
set_option linter.unusedSimpArgs false
set_option maxRecDepth 100000

theorem Within.cells0 {lo hi : Nat} {w w1 : World} (hw : Within lo hi w w1) {a : Addr} {v : Value} (h : w.cell? a = some v) (ha : a.block < lo ∨ hi ≤ a.block) : w1.cell? a = some v :=
  (World.cell?_of_block (hw.block a.block (World.block_lt_of_cell? w a h) ha)).trans h

/-- A slice that lies outside an interval of blocks. -/
def Out (lo hi : Nat) (q : Option Addr) : Prop := ∀ a, q = some a → a.block < lo ∨ hi ≤ a.block
theorem Ints.within {w w' : World} {lo hi : Nat} {q : Option Addr} {n : Nat} {ys : List Int} (h : Ints w q n ys) (hw : Within lo hi w w') (ho : Out lo hi q) : Ints w' q n ys :=
  ⟨h.len, fun k hk => by
    obtain ⟨b, o, hp, hc⟩ := h.cell k hk
    have := ho _ hp
    exact ⟨b, o, hp, hw.cells0 hc this⟩⟩

/-- The differences of two lists of numbers. -/
def lessW (xs ys : List Int) : List Int := (List.range xs.length).map fun j => wrap64 (nth xs j - nth ys j)
theorem lessW_length (xs ys : List Int) : (lessW xs ys).length = xs.length := by simp [lessW]
theorem lessW_nth {xs ys : List Int} {j : Nat} (h : j < xs.length) : nth (lessW xs ys) j = wrap64 (nth xs j - nth ys j) := by
  rw [nth_eq (by rw [lessW_length]; exact h)]; simp [lessW]
theorem l2Less_any (p q : Option Addr) (n c d : Nat) (xs ys : List Int) (w : World) (hn : n ≤ 17592186040000) (hx : Ints w p n xs) (hy : Ints w q n ys) :
    Calls Try.prog 128 #[.slice p n c, .slice q n d] w (NewInts w n (lessW xs ys)) := by
  have hl := Lib.hid hx.len
  have hl3 := Lib.hid (lessW_length xs ys)
  go_enter Try.func128, Try.ntmps128
  go_wp2
  go_loopw [5, 6] (fun v i wr => ∃ (k : Nat) (p' : Option Addr) (c' : Nat), k ≤ n ∧ i = .int .i64 k ∧ v = .slice p' k c' ∧ Own wr w.heap.size wr.heap.size p' k c' ((lessW xs ys).take k) ∧ Below w.heap.size w wr) (fun _ i _ => n - (intOf i).toNat)
  case atStart => exact ⟨0, _, _, Nat.zero_le _, rfl, rfl, (Own.empty w).up, (Below.refl _ _).alloc (Nat.le_refl _) _⟩
  case round =>
    obtain ⟨k, p', c', hk, rfl, rfl, hown, hb⟩ := hrel
    by_cases hlt : k < n
    · obtain ⟨b, o, rfl, hc⟩ := (hx.below hb).cell k hlt
      obtain ⟨b2, o2, rfl, hc2⟩ := (hy.below hb).cell k hlt
      go_wp2
      go_region_law (refine step_append_int rfl (.tmp 14) (.tmp 24) rfl _ w.heap.size _ _ _ _ _ rfl (hown.alloc _).drew wr.heap.size _ rfl (cellNewD _ _ _) (by omega) (sizeNewD hb _) ?_; intro p2 c2 w2 hown2 hg2)
      all_goals
        have hb2 := hg2.belowO ((hown.alloc _).drew) (sizeNewD hb _)
        go_wp2
        go_roundw
        case rel =>
          refine ⟨k + 1, _, _, by omega, by go_num, rfl, ?_, Below.newD hb _ hb2⟩
          rw [take_nth (by have := hl.out; have := hl3.out; omega), lessW_nth (by rw [hl.out]; exact hlt), ← wrapEq]
          exact hown2
        case measure => simp [intOf]; omega
    · go_wp2
      go_ret
      obtain rfl : k = n := by omega
      refine ⟨_, _, rfl, ?_, hb⟩
      rw [List.take_of_length_le (by have := hl.out; have := hl3.out; omega)] at hown
      exact hown

theorem copyPoints_any (p : Option Addr) (n c : Nat) (xss : List (List Int)) (w : World) (hn : n ≤ 1048576) (hx : Intss w p n xss) (hm : ∀ k, k < n → (nthR xss k).length ≤ 1048576) :
    Calls Try.prog 125 #[.slice p n c] w (NewM w n xss) := by
  have hl := Lib.hid hx.len
  have Hm := Lib.hid hm
  clear hm
  go_enter Try.func125, Try.ntmps125
  go_wp2
  go_loopw [3, 8] (fun a i wr => ∃ (k : Nat) (p' : Option Addr) (c' : Nat) (rows : List Row), k ≤ n ∧ i = .int .i64 k ∧ a = .slice p' k c' ∧ Own2 wr w.heap.size wr.heap.size p' k c' rows (xss.take k) ∧ Below w.heap.size w wr) (fun _ i _ => n - (intOf i).toNat)
  case atStart => exact ⟨0, _, _, _, Nat.zero_le _, rfl, rfl, Own2.nil _ _ _, Below.refl _ _⟩
  case round =>
    obtain ⟨k, p', c', rows, hk, rfl, rfl, hown, hb⟩ := hrel
    by_cases hlt : k < n
    · obtain ⟨b, o, q1, m1, d1, rfl, hc, hm1, hi⟩ := (hx.below hb).cell k hlt
      have hm2 : m1 ≤ 1048576 := by rw [← hi.len]; exact Hm.out k hlt
      go_wp2_with fail
      refine (copyInts_any _ _ _ _ _ (by omega) hi).mono ?_
      rintro e w2 ⟨q2, d2, rfl, ho2, hb2⟩
      have hown2 := hown.below hb2
      have hbw2 := Below.step hb hb2
      go_wp2_with (at_builtin; refine append_row rfl _ _ rfl _ w.heap.size _ _ _ _ _ rfl (hown2.outer.alloc _) _ _ _ _ rfl (cellNew _ _ _) (by omega) (sizeNew hbw2 _) ?_; intro p3 c3 w3 ho3 hg3)
      have hb3 : Below w.heap.size w w3 := (hbw2.alloc hbw2.size _).trans (hg3.below (sizeNew hbw2 _) (fun a ha => (hown2.outer.lt a ha).1))
      have h3 := hown2.app ho2 hb.size (boxed _ _) ho3 hg3
      go_roundw
      case rel =>
        rw [← take_nthR (by rw [hl.out]; exact hlt)] at h3
        exact ⟨k + 1, _, _, _, by omega, by go_num, rfl, h3, hb3⟩
      case measure => simp [intOf]; omega
    · go_wp2
      go_ret
      obtain rfl : k = n := by omega
      rw [List.take_of_length_le (by rw [hl.out]; exact Nat.le_refl _)] at hown
      exact ⟨_, _, rfl, ⟨_, hown⟩, hb⟩

end Go.Proofs.Ytdchckljggjaaaa
