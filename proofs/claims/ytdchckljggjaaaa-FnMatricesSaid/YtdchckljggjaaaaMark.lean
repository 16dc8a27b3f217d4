/- Contracts of the laws' helpers on lists of numbers: are two the same, marking, are the marks held. Conditions: lengths fit an int. -/
import Derived.Test.YtdchckljggjaaaaVec
namespace Go.Proofs.Ytdchckljggjaaaa
open Go.RowKit
set_option linter.unusedVariables false
set_option linter.unusedSimpArgs false
set_option maxRecDepth 100000

/-- Two lists of numbers are the same. -/
def beqL (xs ys : List Int) : Bool := decide (xs = ys)
theorem beqL_self (xs : List Int) : beqL xs xs = true := by simp [beqL]
theorem nth_ext {xs ys : List Int} (h : xs.length = ys.length) (hk : ∀ k, k < xs.length → nth xs k = nth ys k) : xs = ys :=
  List.ext_getElem h fun i h1 h2 => by have := hk i h1; rwa [nth_eq h1, nth_eq h2] at this

theorem eqIntS_any (p q : Option Addr) (n c m d : Nat) (xs ys : List Int) (w : World) (hx : Ints w p n xs) (hy : Ints w q m ys) (hn : n ≤ 9223372036854775807) (hm : m ≤ 9223372036854775807) :
    Calls Try.prog 132 #[.slice p n c, .slice q m d] w fun e w' => e = .returned (.bool (beqL xs ys)) ∧ ∃ z, w' = w.drewN z := by
  have hl := Lib.hid hx.len
  have hl2 := Lib.hid hy.len
  by_cases hnm : n = m
  · subst hnm
    go_enter Try.func132, Try.ntmps132
    go_wp2
    go_loopw [5] (fun i wr => ∃ k : Nat, k ≤ n ∧ i = .int .i64 k ∧ Hid (∀ j, j < k → nth xs j = nth ys j) ∧ ∃ z, wr = w.drewN z) (fun i _ => n - (intOf i).toNat)
    case atStart => exact ⟨0, Nat.zero_le _, rfl, fun j h => absurd h (by omega), 0, rfl⟩
    case round =>
      obtain ⟨k, hk, rfl, hall, z, rfl⟩ := hrel
      by_cases hlt : k < n
      · obtain ⟨b, o, rfl, hc⟩ := hx.cell k hlt
        obtain ⟨b2, o2, rfl, hc2⟩ := hy.cell k hlt
        by_cases he : nth xs k = nth ys k
        · have he' : (nth xs k != nth ys k) = false := by simp [he]
          have He := Lib.hid he
          clear he
          go_wp2
          go_quiet (fail)
          go_wp2
          go_roundw
          case rel =>
            refine ⟨k + 1, by omega, by go_num, fun j hj => ?_, _, rfl⟩
            by_cases hjk : j < k
            · exact hall.out j hjk
            · obtain rfl : j = k := by omega
              exact He.out
          case measure => simp [intOf]; omega
        · have he' : (nth xs k != nth ys k) = true := by simp [he]
          have He := Lib.hid he
          clear he
          go_wp2
          go_quiet (fail)
          go_wp2
          go_ret
          refine ⟨ret_bool ?_, _, World.drewN_drewN _ _ _⟩
          simp only [beqL]
          rw [eq_comm, decide_eq_false_iff_not]
          intro h
          exact He.out (by rw [h])
      · go_wp2
        go_ret
        refine ⟨ret_bool ?_, _, rfl⟩
        obtain rfl : k = n := by omega
        rw [nth_ext (hl.out.trans hl2.out.symm) (fun j hj => hall.out j (by rw [hl.out] at hj; exact hj)), beqL_self]
  · go_enter Try.func132, Try.ntmps132
    go_wp2
    go_ret
    refine ⟨ret_bool ?_, 0, rfl⟩
    simp only [beqL]
    rw [eq_comm, decide_eq_false_iff_not]
    intro h
    exact hnm (by rw [← hl.out, ← hl2.out, h])

/-- What marking leaves: the row holds the numbers from k on; no block outside lo .. hi - 1 has turned. -/
def Marked (w : World) (lo hi : Nat) (p : Option Addr) (n c : Nat) (k : Int) (e : Ending) (w' : World) : Prop :=
  e = .returned (.int .i64 (k + n)) ∧ Own w' lo hi p n c (upFrom k n) ∧ Within lo hi w w'

theorem Within.refl (lo hi : Nat) (w : World) : Within lo hi w w := ⟨rfl, rfl, rfl, Nat.le_refl _, fun _ _ _ => rfl⟩
theorem Within.setCell {lo hi : Nat} {a w : World} (h : Within lo hi a w) {p : Addr} (h1 : lo ≤ p.block) (h2 : p.block < hi) (u : Value) : Within lo hi a (w.setCell p u) :=
  ⟨h.os, h.tape, h.output, by have := h.size; simpa [World.setCell] using this, fun k hk hd => by
    rw [Below.heap_setCell _ _ _ _ (by omega)]; exact h.block k hk hd⟩
theorem Within.drewN {lo hi : Nat} {a w : World} (h : Within lo hi a w) (z : Nat) : Within lo hi a (w.drewN z) := ⟨h.os, h.tape, h.output, h.size, h.block⟩
theorem Own.drewN {w : World} {lo hi : Nat} {p : Option Addr} {n c : Nat} {xs : List Int} (h : Own w lo hi p n c xs) (z : Nat) : Own (w.drewN z) lo hi p n c xs := ⟨h.row, h.top⟩

theorem markIntS_any (lo hi : Nat) (p : Option Addr) (n c : Nat) (xs : List Int) (k0 : Int) (w : World) (hx : Own w lo hi p n c xs) (h0 : 0 ≤ k0) (h1 : k0 + n ≤ 9223372036854775807) :
    Calls Try.prog 114 #[.slice p n c, .int .i64 k0] w (Marked w lo hi p n c k0) := by
  have hl := Lib.hid hx.len
  go_enter Try.func114, Try.ntmps114
  go_wp2
  go_loopw [1, 5] (fun m i wr => ∃ k : Nat, k ≤ n ∧ i = .int .i64 k ∧ m = .int .i64 (k0 + k) ∧ Own wr lo hi p n c (mix (upFrom k0 n) xs k) ∧ Within lo hi w wr) (fun _ i _ => n - (intOf i).toNat)
  case atStart => exact ⟨0, Nat.zero_le _, rfl, by simp, by rw [mix_zero]; exact hx, Within.refl _ _ _⟩
  case round =>
    obtain ⟨k, hk, rfl, rfl, hown, hw⟩ := hrel
    by_cases hlt : k < n
    · rcases hown.form with ⟨_, rfl, _⟩ | ⟨g, rfl, hg1, hg2, hg3, _⟩
      · omega
      have hc2 := hown.cell hlt
      have hf2 := hown.frozen k
      go_wp2
      go_roundw
      case rel =>
        refine ⟨k + 1, by omega, by go_num, by go_num, ?_, hw.setCell hg1 hg2 _⟩
        have h2 := hown.set k (k0 + k)
        rw [← upFrom_nth k0 n k hlt, mix_set (by rw [upFrom_length]; exact hlt) (by rw [hl.out]; exact hlt)] at h2
        rw [← upFrom_nth k0 n k hlt]
        exact h2
      case measure => simp [intOf]; omega
    · go_wp2
      go_ret
      obtain rfl : k = n := by omega
      rw [mix_all (by rw [upFrom_length]; exact Nat.le_refl _) (by rw [hl.out]; exact Nat.le_refl _)] at hown
      exact ⟨rfl, hown, hw⟩

theorem heldIntS_any (p : Option Addr) (n c : Nat) (k0 : Int) (w : World) (hx : Ints w p n (upFrom k0 n)) (h0 : 0 ≤ k0) (h1 : k0 + n ≤ 9223372036854775807) :
    Calls Try.prog 115 #[.slice p n c, .int .i64 k0] w fun e w' => e = .returned (.int .i64 (k0 + n)) ∧ w = w' := by
  go_enter Try.func115, Try.ntmps115
  go_wp2
  go_loop [1, 5] (fun m i => ∃ k : Nat, k ≤ n ∧ i = .int .i64 k ∧ m = .int .i64 (k0 + k)) (fun _ i => n - (intOf i).toNat)
  case atStart => exact ⟨0, Nat.zero_le _, rfl, by simp⟩
  case round =>
    obtain ⟨k, hk, rfl, rfl⟩ := hrel
    by_cases hlt : k < n
    · obtain ⟨b, o, rfl, hc⟩ := hx.cell k hlt
      rw [upFrom_nth k0 n k hlt] at hc
      go_wp2
      go_round
      case rel => exact ⟨k + 1, by omega, by go_num, by go_num⟩
      case measure => simp [intOf]; omega
    · go_wp2
      go_ret
      obtain rfl : k = n := by omega
      exact ⟨rfl, rfl⟩

theorem drew2 (w : World) (a b : Nat) : ∃ z, (w.drewN a).drewN b = w.drewN z := ⟨_, World.drewN_drewN _ _ _⟩
theorem drew3 (w : World) (a b c : Nat) : ∃ z, ((w.drewN a).drewN b).drewN c = w.drewN z := ⟨_, by rw [World.drewN_drewN, World.drewN_drewN]⟩
theorem Below.step {w w1 w2 : World} (h : Below w.heap.size w w1) (k : Below w1.heap.size w1 w2) : Below w.heap.size w w2 := h.trans (k.mono h.size)
theorem Below.drawn {w w1 : World} (h : Below w.heap.size w w1) (z : Nat) : Below w.heap.size w (w1.drewN z) := ⟨h.os, h.tape, h.output, h.size, h.block⟩

end Go.Proofs.Ytdchckljggjaaaa
