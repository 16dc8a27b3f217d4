/- Contracts of the functions that make vectors: copies, sums, multiples. Conditions: sizes. -/
import Derived.Test.YtdchckljggjaaaaOps
import Derived.Test.YtdchckljggjaaaaMark
import Derived.Deep.RegionLaw
import Derived.BigRegion
namespace Go.Proofs.Ytdchckljggjaaaa
open Go.RowKit
set_option linter.unusedVariables false
set_option linter.unusedSimpArgs false
set_option maxRecDepth 100000

theorem copyInts_any (q : Option Addr) (m d : Nat) (ys : List Int) (w : World) (hm : m ≤ 17592186040000) (hy : Ints w q m ys) :
    Calls Try.prog 78 #[.slice q m d] w (NewInts w m ys) := by
  go_enter Try.func78, Try.ntmps78
  go_wp2_with (at_builtin; refine append_ints rfl _ _ rfl _ w.heap.size _ _ _ _ _ rfl (Own.nil _ _ 0) _ _ _ _ rfl hy (by omega) (Nat.le_refl _) ?_; intro p' c' w2 hown2 hg2)
  go_ret
  simp only [List.nil_append, Nat.zero_add] at hown2
  exact ⟨_, _, by simp, hown2, hg2.below (Nat.le_refl _) (fun a ha => by cases ha)⟩

/-- The sums of two lists of numbers, number by number, each as an int holds it. -/
def addW : List Int → List Int → List Int
  | x :: xs, y :: ys => wrap64 (x + y) :: addW xs ys
  | _, _ => []
theorem addW_length {xs ys : List Int} (h : xs.length = ys.length) : (addW xs ys).length = xs.length := by
  induction xs generalizing ys with
  | nil => rfl
  | cons x xs ih =>
    cases ys with
    | nil => simp at h
    | cons y ys => simp [addW, ih (by simpa using h)]
theorem addW_nth {xs ys : List Int} (h : xs.length = ys.length) {k : Nat} (hk : k < xs.length) : nth (addW xs ys) k = wrap64 (nth xs k + nth ys k) := by
  induction xs generalizing ys k with
  | nil => simp at hk
  | cons x xs ih =>
    cases ys with
    | nil => simp at h
    | cons y ys =>
      cases k with
      | zero => rfl
      | succ k => exact ih (by simpa using h) (by simpa using hk)

theorem wrapEq (x : Int) : IntKind.i64.wrap x = wrap64 x := by rw [IntKind.wrap_i64]; unfold wrap64; rfl

theorem l2Add_any (p q : Option Addr) (n c d : Nat) (xs ys : List Int) (w : World) (hn : n ≤ 17592186040000) (hx : Ints w p n xs) (hy : Ints w q n ys) :
    Calls Try.prog 122 #[.slice p n c, .slice q n d] w (NewInts w n (addW xs ys)) := by
  have hl := Lib.hid hx.len
  have hl2 := Lib.hid hy.len
  have hl3 := Lib.hid (addW_length (hx.len.trans hy.len.symm))
  go_enter Try.func122, Try.ntmps122
  go_wp2
  go_loopw [5, 6] (fun v i wr => ∃ (k : Nat) (p' : Option Addr) (c' : Nat), k ≤ n ∧ i = .int .i64 k ∧ v = .slice p' k c' ∧ Own wr w.heap.size wr.heap.size p' k c' ((addW xs ys).take k) ∧ Below w.heap.size w wr) (fun _ i _ => n - (intOf i).toNat)
  case atStart => exact ⟨0, _, _, Nat.zero_le _, rfl, rfl, (Own.empty w).up, (Below.refl _ _).alloc (Nat.le_refl _) _⟩
  case round =>
    obtain ⟨k, p', c', hk, rfl, rfl, hown, hb⟩ := hrel
    by_cases hlt : k < n
    · obtain ⟨b, o, rfl, hc⟩ := (hx.below hb).cell k hlt
      obtain ⟨b2, o2, rfl, hc2⟩ := (hy.below hb).cell k hlt
      go_wp2
      go_region_law (refine step_append_int rfl (.tmp 14) (.tmp 24) rfl _ w.heap.size _ _ _ _ _ rfl (hown.alloc _).drew wr.heap.size _ rfl (cellNewD _ _ _) (by omega) (sizeNewD hb _) ?_; intro p2 c2 w2 hown2 hg2)
      all_goals
        have hb2 := hg2.belowO ((hown.alloc _).drew) (sizeNewD hb _)
        go_wp2
        go_roundw
        case rel =>
          refine ⟨k + 1, _, _, by omega, by go_num, rfl, ?_, Below.newD hb _ hb2⟩
          rw [take_nth (by have := hl.out; have := hl3.out; omega), addW_nth (by rw [hl.out, hl2.out]) (by rw [hl.out]; exact hlt), ← wrapEq]
          exact hown2
        case measure => simp [intOf]; omega
    · go_wp2
      go_ret
      obtain rfl : k = n := by omega
      refine ⟨_, _, rfl, ?_, hb⟩
      rw [List.take_of_length_le (by have := hl.out; have := hl3.out; omega)] at hown
      exact hown

/-- The numbers times a number, each as an int holds it. -/
def scaleW (xs : List Int) (q : Int) : List Int := xs.map fun x => wrap64 (x * q)
theorem scaleW_length (xs : List Int) (q : Int) : (scaleW xs q).length = xs.length := by simp [scaleW]
theorem scaleW_nth {xs : List Int} {q : Int} {k : Nat} (h : k < xs.length) : nth (scaleW xs q) k = wrap64 (nth xs k * q) := by
  rw [nth_eq h, nth_eq (by rw [scaleW_length]; exact h)]; simp [scaleW]

theorem l2Scale_any (p : Option Addr) (n c : Nat) (xs : List Int) (u : Int) (w : World) (hn : n ≤ 17592186040000) (hx : Ints w p n xs) :
    Calls Try.prog 123 #[.slice p n c, .int .i64 u] w (NewInts w n (scaleW xs u)) := by
  have hl := Lib.hid hx.len
  have hl3 := Lib.hid (scaleW_length xs u)
  go_enter Try.func123, Try.ntmps123
  go_wp2
  go_loopw [5, 6] (fun v i wr => ∃ (k : Nat) (p' : Option Addr) (c' : Nat), k ≤ n ∧ i = .int .i64 k ∧ v = .slice p' k c' ∧ Own wr w.heap.size wr.heap.size p' k c' ((scaleW xs u).take k) ∧ Below w.heap.size w wr) (fun _ i _ => n - (intOf i).toNat)
  case atStart => exact ⟨0, _, _, Nat.zero_le _, rfl, rfl, (Own.empty w).up, (Below.refl _ _).alloc (Nat.le_refl _) _⟩
  case round =>
    obtain ⟨k, p', c', hk, rfl, rfl, hown, hb⟩ := hrel
    by_cases hlt : k < n
    · obtain ⟨b, o, rfl, hc⟩ := (hx.below hb).cell k hlt
      go_wp2_with (at_builtin; refine append_int rfl _ _ rfl _ w.heap.size _ _ _ _ _ rfl (hown.alloc _) wr.heap.size _ rfl (cellNew _ _ _) (by omega) (sizeNew hb _) ?_; intro p2 c2 w2 hown2 hg2)
      have hb2 := hg2.belowO (hown.alloc _) (sizeNew hb _)
      go_roundw
      case rel =>
        refine ⟨k + 1, _, _, by omega, by go_num, rfl, ?_, Below.new hb _ hb2⟩
        rw [take_nth (by have := hl.out; have := hl3.out; omega), scaleW_nth (by rw [hl.out]; exact hlt)]
        exact hown2
      case measure => simp [intOf]; omega
    · go_wp2
      go_ret
      obtain rfl : k = n := by omega
      refine ⟨_, _, rfl, ?_, hb⟩
      rw [List.take_of_length_le (by have := hl.out; have := hl3.out; omega)] at hown
      exact hown

/-- The sum of the first k products. -/
def dotTo (xs ys : List Int) : Nat → Int
  | 0 => 0
  | k + 1 => wrap64 (dotTo xs ys k + wrap64 (nth xs k * nth ys k))
def dotW (xs ys : List Int) : Int := dotTo xs ys xs.length

theorem dot_any (p q : Option Addr) (n c d : Nat) (xs ys : List Int) (w : World) (hn : n ≤ 9223372036854775807) (hx : Ints w p n xs) (hy : Ints w q n ys) :
    Calls Try.prog 85 #[.slice p n c, .slice q n d] w fun e w' => e = .returned (.int .i64 (dotW xs ys)) ∧ ∃ z, w' = w.drewN z := by
  have hl := Lib.hid hx.len
  go_enter Try.func85, Try.ntmps85
  go_wp2
  go_loopw [5, 9] (fun a i wr => ∃ k : Nat, k ≤ n ∧ i = .int .i64 k ∧ a = .int .i64 (dotTo xs ys k) ∧ ∃ z, wr = w.drewN z) (fun _ i _ => n - (intOf i).toNat)
  case atStart => exact ⟨0, Nat.zero_le _, rfl, rfl, 0, rfl⟩
  case round =>
    obtain ⟨k, hk, rfl, rfl, z, rfl⟩ := hrel
    by_cases hlt : k < n
    · obtain ⟨b, o, rfl, hc⟩ := hx.cell k hlt
      obtain ⟨b2, o2, rfl, hc2⟩ := hy.cell k hlt
      go_wp2
      go_quiet (fail)
      go_wp2
      go_roundw
      case rel => exact ⟨k + 1, by omega, by go_num, rfl, _, rfl⟩
      case measure => simp [intOf]; omega
    · go_wp2
      go_ret
      obtain rfl : k = n := by omega
      exact ⟨ret_int (by rw [dotW, hl.out]), _, rfl⟩

theorem l2Dot_any (p q : Option Addr) (n c d : Nat) (xs ys : List Int) (w : World) (hn : n ≤ 9223372036854775807) (hx : Ints w p n xs) (hy : Ints w q n ys) :
    Calls Try.prog 117 #[.slice p n c, .slice q n d] w fun e w' => e = .returned (.int .i64 (dotW xs ys)) ∧ ∃ z, w' = w.drewN z := by
  have hl := Lib.hid hx.len
  go_enter Try.func117, Try.ntmps117
  go_wp2
  go_loopw [5, 6] (fun a i wr => ∃ k : Nat, k ≤ n ∧ i = .int .i64 k ∧ a = .int .i64 (dotTo xs ys k) ∧ ∃ z, wr = w.drewN z) (fun _ i _ => n - (intOf i).toNat)
  case atStart => exact ⟨0, Nat.zero_le _, rfl, rfl, 0, rfl⟩
  case round =>
    obtain ⟨k, hk, rfl, rfl, z, rfl⟩ := hrel
    by_cases hlt : k < n
    · obtain ⟨b, o, rfl, hc⟩ := hx.cell k hlt
      obtain ⟨b2, o2, rfl, hc2⟩ := hy.cell k hlt
      go_wp2
      go_quiet (fail)
      go_wp2
      go_roundw
      case rel => exact ⟨k + 1, by omega, by go_num, rfl, _, rfl⟩
      case measure => simp [intOf]; omega
    · go_wp2
      go_ret
      obtain rfl : k = n := by omega
      exact ⟨ret_int (by rw [dotW, hl.out]), _, rfl⟩

end Go.Proofs.Ytdchckljggjaaaa
