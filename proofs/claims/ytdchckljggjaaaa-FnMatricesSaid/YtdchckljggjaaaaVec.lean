/- Contracts of the functions on single numbers and on lists of numbers that only read. Conditions: lengths fit an int. -/
import Derived.Test.YtdchckljggjaaaaRows
import Derived.Test.YtdchckljggjaaaaBase
namespace Go.Proofs.Ytdchckljggjaaaa
open Go.RowKit
set_option linter.unusedVariables false
set_option linter.unusedSimpArgs false
set_option maxRecDepth 100000

/-- low <= n <= high -/
def inR (n lo hi : Int) : Bool := decide (lo ≤ n) && decide (n ≤ hi)
def allR (xs : List Int) (lo hi : Int) : Bool := xs.all fun x => inR x lo hi
def isVec (xs : List Int) : Bool := inR xs.length 1 3 && allR xs (-1000) 1000

theorem inR_true {n lo hi : Int} (h : inR n lo hi = true) : lo ≤ n ∧ n ≤ hi := by simpa [inR] using h
theorem inR_false {n lo hi : Int} (h : inR n lo hi = false) : n < lo ∨ hi < n := by
  simp only [inR, Bool.and_eq_false_iff, decide_eq_false_iff_not] at h
  omega

theorem allR_step {xs : List Int} {k : Nat} {lo hi : Int} (h : k < xs.length) (ha : allR (xs.take k) lo hi = true) (hn : inR (nth xs k) lo hi = true) :
    allR (xs.take (k + 1)) lo hi = true := by
  rw [take_nth h]; simp_all [allR]
theorem allR_stop {xs : List Int} {k : Nat} {lo hi : Int} (h : k < xs.length) (hn : inR (nth xs k) lo hi = false) : allR xs lo hi = false := by
  rw [nth_eq h] at hn
  simp only [allR, List.all_eq_false]
  exact ⟨xs[k], List.getElem_mem h, by simp [hn]⟩

theorem within_any (n lo hi : Int) (w : World) :
    Calls Try.prog 77 #[.int .i64 n, .int .i64 lo, .int .i64 hi] w fun e w' => e = .returned (.bool (inR n lo hi)) ∧ w = w' := by
  by_cases h1 : lo ≤ n <;> by_cases h2 : n ≤ hi <;>
  · go_enter Try.func77, Try.ntmps77
    go_wp2
    go_ret
    exact ⟨by simp [inR, h1, h2], rfl⟩

theorem l1In_any (n lo hi : Int) (w : World) :
    Calls Try.prog 80 #[.int .i64 n, .int .i64 lo, .int .i64 hi] w fun e w' => e = .returned (.bool (inR n lo hi)) ∧ w = w' := by
  by_cases h1 : lo ≤ n <;> by_cases h2 : n ≤ hi <;>
  · go_enter Try.func80, Try.ntmps80
    go_wp2
    go_ret
    exact ⟨by simp [inR, h1, h2], rfl⟩

theorem allWithin_any (p : Option Addr) (n c : Nat) (xs : List Int) (lo hi : Int) (w : World) (hx : Ints w p n xs) (hm : n ≤ 9223372036854775807) :
    Calls Try.prog 105 #[.slice p n c, .int .i64 lo, .int .i64 hi] w fun e w' => e = .returned (.bool (allR xs lo hi)) ∧ w = w' := by
  have hl := Lib.hid hx.len
  go_enter Try.func105, Try.ntmps105
  go_wp2
  go_loop [11] (fun i => ∃ k : Nat, k ≤ n ∧ i = .int .i64 k ∧ Hid (allR (xs.take k) lo hi = true)) (fun i => n - (intOf i).toNat)
  case atStart => exact ⟨0, Nat.zero_le _, rfl, rfl⟩
  case round =>
    obtain ⟨k, hk, rfl, hall⟩ := hrel
    by_cases hlt : k < n
    · obtain ⟨b, o, rfl, hc⟩ := hx.cell k hlt
      have hl' : k < xs.length := by rw [hl.out]; exact hlt
      cases hr : inR (nth xs k) lo hi
      · go_wp2_with (go_at_call 77; (with_reducible refine (within_any _ _ _ _).mono ?_); rintro e w' ⟨rfl, rfl⟩)
        go_ret
        exact ⟨ret_bool (allR_stop hl' hr).symm, rfl⟩
      · go_wp2_with (go_at_call 77; (with_reducible refine (within_any _ _ _ _).mono ?_); rintro e w' ⟨rfl, rfl⟩)
        go_round
        case rel => exact ⟨k + 1, by omega, by go_num, allR_step hl' hall.out hr⟩
        case measure => simp [intOf]; omega
    · go_wp2
      go_ret
      have hkn : k = xs.length := by have := hl.out; omega
      exact ⟨ret_bool (by have := hall.out; rw [hkn, List.take_length] at this; exact this.symm), rfl⟩


theorem l2Small_any (p : Option Addr) (n c : Nat) (xs : List Int) (size : Int) (w : World) (hx : Ints w p n xs) (hm : n ≤ 9223372036854775807) (h0 : 0 ≤ size) (h1 : size ≤ 10000000) :
    Calls Try.prog 106 #[.slice p n c, .int .i64 size] w fun e w' => e = .returned (.bool (allR xs (-size) size)) ∧ w = w' := by
  have hl := Lib.hid hx.len
  go_enter Try.func106, Try.ntmps106
  go_wp2
  go_loop [5] (fun i => ∃ k : Nat, k ≤ n ∧ i = .int .i64 k ∧ Hid (allR (xs.take k) (-size) size = true)) (fun i => n - (intOf i).toNat)
  case atStart => exact ⟨0, Nat.zero_le _, rfl, rfl⟩
  case round =>
    obtain ⟨k, hk, rfl, hall⟩ := hrel
    by_cases hlt : k < n
    · obtain ⟨b, o, rfl, hc⟩ := hx.cell k hlt
      have hl' : k < xs.length := by rw [hl.out]; exact hlt
      cases hr : inR (nth xs k) (-size) size
      · go_wp2_with (go_at_call 80; (with_reducible refine (l1In_any _ _ _ _).mono ?_); rintro e w' ⟨rfl, rfl⟩)
        go_ret
        exact ⟨ret_bool (allR_stop hl' hr).symm, rfl⟩
      · go_wp2_with (go_at_call 80; (with_reducible refine (l1In_any _ _ _ _).mono ?_); rintro e w' ⟨rfl, rfl⟩)
        go_round
        case rel => exact ⟨k + 1, by omega, by go_num, allR_step hl' hall.out hr⟩
        case measure => simp [intOf]; omega
    · go_wp2
      go_ret
      have hkn : k = xs.length := by have := hl.out; omega
      exact ⟨ret_bool (by have := hall.out; rw [hkn, List.take_length] at this; exact this.symm), rfl⟩

theorem implIsVector_any (p : Option Addr) (n c : Nat) (xs : List Int) (w : World) (hx : Ints w p n xs) (hm : n ≤ 9223372036854775807) :
    Calls Try.prog 84 #[.slice p n c] w fun e w' => e = .returned (.bool (isVec xs)) ∧ w = w' := by
  cases h : inR (n : Int) 1 3
  all_goals
    go_enter Try.func84, Try.ntmps84
    go_wp2_with (first | (go_at_call 77; (with_reducible refine (within_any _ _ _ _).mono ?_); rintro e w' ⟨rfl, rfl⟩) | (go_at_call 105; (with_reducible refine (allWithin_any _ _ _ _ _ _ _ hx hm).mono ?_); rintro e w' ⟨rfl, rfl⟩))
    go_ret
    exact ⟨ret_bool (by simp [isVec, hx.len, h]), rfl⟩

theorem specIsVector_any (p : Option Addr) (n c : Nat) (xs : List Int) (w : World) (hx : Ints w p n xs) (hm : n ≤ 9223372036854775807) :
    Calls Try.prog 100 #[.slice p n c] w fun e w' => e = .returned (.bool (isVec xs)) ∧ w = w' := by
  cases h : inR (n : Int) 1 3
  all_goals
    go_enter Try.func100, Try.ntmps100
    go_wp2_with (first | (go_at_call 80; (with_reducible refine (l1In_any _ _ _ _).mono ?_); rintro e w' ⟨rfl, rfl⟩) | (go_at_call 106; (with_reducible refine (l2Small_any _ _ _ _ _ _ hx hm (by decide) (by decide)).mono ?_); rintro e w' ⟨rfl, rfl⟩))
    go_ret
    exact ⟨ret_bool (by simp [isVec, hx.len, h]), rfl⟩

/-- What has been made new: a row that holds xs. -/
def NewInts (w : World) (n : Nat) (xs : List Int) (e : Ending) (w' : World) : Prop :=
  ∃ p c, e = .returned (.slice p n c) ∧ Own w' w.heap.size w'.heap.size p n c xs ∧ Below w.heap.size w w'

theorem Try.infoInt : (Try.prog.info? 3).map (fun i => (i.zero, i.size, i.bytes)) = some (some (.int .i64 0), 1, 8) := by kernel_rfl

theorem made_zeros (n : Nat) : (madeCells (Value.int .i64 0).cells (n * 1)).toList = (List.replicate n (0 : Int)).map (Value.int .i64) := by
  rw [show (Value.int .i64 0).cells = #[Value.int .i64 0] from rfl, toList_madeCells_one, Nat.mul_one, List.map_replicate]

theorem toIntS_any (p : Option Addr) (n c : Nat) (xs : List Int) (w : World) (hx : Ints w p n xs) (hm : n ≤ 35184372088832) :
    Calls Try.prog 131 #[.slice p n c] w (NewInts w n xs) := by
  obtain ⟨i0, hi, hz0, hz1, hz2⟩ := info_parts Try.infoInt
  have hl := Lib.hid hx.len
  have hby : i0.bytes * n ≤ 281474976710656 := by rw [hz2]; omega
  have hml : n ≤ maxLen := by unfold maxLen; omega
  go_enter Try.func131, Try.ntmps131
  go_wp2_with (at_make; refine wpList_make_full _ rfl _ _ 40 rfl w.heap.size 3 i0 (.int .i64 0) 1 Try.underlying40 hi hz0 hz1 .i64 .i64 _ _ n rfl rfl rfl rfl hby hml (Nat.le_refl _) ?_; intro w1 hown hgrow)
  have hown0 : Own w1 w.heap.size (w.heap.size + 1) (some ⟨w.heap.size, 0, none⟩) n n (mix xs (List.replicate n 0) 0) := by
    refine ⟨?_, fun a ha => by injection ha with ha; subst ha; exact Nat.lt_succ_self _⟩
    rw [made_zeros] at hown
    rw [mix_zero]
    exact hown
  have hb0 : Below w.heap.size w w1 := (Below.refl _ _).grown hgrow (Nat.le_refl _) (fun k hk => by cases hk)
  clear hown hgrow
  go_loopw [4] (fun i wr => ∃ k : Nat, k ≤ n ∧ i = .int .i64 k ∧ Own wr w.heap.size (w.heap.size + 1) (some ⟨w.heap.size, 0, none⟩) n n (mix xs (List.replicate n 0) k) ∧ Below w.heap.size w wr) (fun i _ => n - (intOf i).toNat)
  case atStart => exact ⟨0, Nat.zero_le _, rfl, hown0, hb0⟩
  case round =>
    obtain ⟨k, hk, rfl, hown, hb⟩ := hrel
    by_cases hlt : k < n
    · obtain ⟨b, o, rfl, hc⟩ := (hx.below hb).cell k hlt
      have hl' : k < xs.length := by rw [hl.out]; exact hlt
      have hc2 := hown.cell hlt
      have hf2 := hown.frozen k
      go_wp2
      go_roundw
      case rel =>
        refine ⟨k + 1, by omega, by go_num, ?_, hb.setCell (Nat.le_refl _) _⟩
        have h2 := hown.set k (nth xs k)
        rw [mix_set hl' (by simpa using hlt)] at h2
        exact h2
      case measure => simp [intOf]; omega
    · go_wp2
      go_ret
      have hkn : k = xs.length := by have := hl.out; omega
      refine ⟨_, _, rfl, ?_, hb⟩
      rw [mix_all (by omega) (by simp; omega)] at hown
      have hs := (hown.lt _ rfl).2.2
      exact hown.widen (Nat.le_refl _) (by exact hs)

end Go.Proofs.Ytdchckljggjaaaa
