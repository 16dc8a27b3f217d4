/- Contracts of the program's and the reference's AddVectors, ScaleVector, DotOf. Conditions: sizes. -/
import Derived.Test.YteamihmolpaoeaaGreatDoorVecOps
namespace Go.Proofs.YteamihmolpaoeaaGreatDoor
open Go.RowKit
set_option linter.unusedVariables false
set_option linter.unusedSimpArgs false
set_option maxRecDepth 100000

/-- A function that hands back a new list and whether there is one. -/
def NewIB (w : World) (r : List Int × Bool) (e : Ending) (w' : World) : Prop :=
  ∃ p n c, e = .returned (.tuple #[.slice p n c, .bool r.2]) ∧ Own w' w.heap.size w'.heap.size p n c r.1 ∧ Below w.heap.size w w'

theorem vectorOf_yes (p : Option Addr) (n c : Nat) (xs : List Int) (w : World) (hm : n ≤ 9223372036854775807) (hx : Ints w p n xs) (hv : isVec xs = true) :
    Calls Tryz.prog 39 #[.slice p n c] w fun e w' => e = .returned (.tuple #[.slice p n c, .bool true]) ∧ w = w' := by
  go_enter Tryz.func39, Tryz.ntmps39
  go_wp2_with (go_at_call 25; (with_reducible refine (implIsVector_any _ _ _ _ _ hx hm).mono ?_); rintro e w' ⟨rfl, rfl⟩)
  go_ret2
  exact ⟨rfl, rfl⟩
theorem vectorOf_no (p : Option Addr) (n c : Nat) (xs : List Int) (w : World) (hm : n ≤ 9223372036854775807) (hx : Ints w p n xs) (hv : isVec xs = false) :
    Calls Tryz.prog 39 #[.slice p n c] w fun e w' => e = .returned (.tuple #[.slice none 0 0, .bool false]) ∧ w = w' := by
  go_enter Tryz.func39, Tryz.ntmps39
  go_wp2_with (go_at_call 25; (with_reducible refine (implIsVector_any _ _ _ _ _ hx hm).mono ?_); rintro e w' ⟨rfl, rfl⟩)
  go_ret2
  exact ⟨rfl, rfl⟩

def vecIf (xs : List Int) : List Int × Bool := if isVec xs = true then (xs, true) else ([], false)
theorem vecIf_yes {xs : List Int} (h : isVec xs = true) : vecIf xs = (xs, true) := by simp [vecIf, h]
theorem vecIf_no {xs : List Int} (h : isVec xs = false) : vecIf xs = ([], false) := by simp [vecIf, h]

theorem vectorOf_any (lo : Nat) (p : Option Addr) (n c : Nat) (xs : List Int) (w : World) (hm : n ≤ 9223372036854775807) (hx : Own w lo w.heap.size p n c xs) :
    Calls Tryz.prog 39 #[.slice p n c] w fun e w' => (∃ p n c, e = .returned (.tuple #[.slice p n c, .bool (vecIf xs).2]) ∧ Own w lo w.heap.size p n c (vecIf xs).1) ∧ w = w' := by
  cases hv : isVec xs
  · rw [vecIf_no hv]
    exact (vectorOf_no p n c xs w hm hx.ints hv).mono fun e w' h => ⟨⟨_, _, _, h.1, Own.nil _ _ _⟩, h.2⟩
  · rw [vecIf_yes hv]
    exact (vectorOf_yes p n c xs w hm hx.ints hv).mono fun e w' h => ⟨⟨_, _, _, h.1, hx⟩, h.2⟩

def addV (xs ys : List Int) : List Int × Bool := if isVec xs = true ∧ isVec ys = true ∧ xs.length = ys.length then vecIf (addW xs ys) else ([], false)

theorem NewIB.none_ {w : World} : NewIB w ([], false) (.returned (.tuple #[.slice none 0 0, .bool false])) w := ⟨_, _, _, rfl, Own.nil _ _ _, Below.refl _ _⟩

theorem implAdd_any (p q : Option Addr) (n m c d : Nat) (xs ys : List Int) (w : World) (hn : n ≤ 17592186040000) (hm : m ≤ 17592186040000) (hx : Ints w p n xs) (hy : Ints w q m ys) :
    Calls Tryz.prog 10 #[.slice p n c, .slice q m d] w (NewIB w (addV xs ys)) := by
  have hl := Lib.hid hx.len
  have hl2 := Lib.hid hy.len
  cases h1 : isVec xs
  · go_enter Tryz.func10, Tryz.ntmps10
    go_wp2_with (go_at_call 25; (with_reducible refine (implIsVector_any _ _ _ _ _ hx (by omega)).mono ?_); rintro e w' ⟨rfl, rfl⟩)
    go_ret2
    rw [show addV xs ys = ([], false) by simp [addV, h1]]
    exact NewIB.none_
  cases h2 : isVec ys
  · go_enter Tryz.func10, Tryz.ntmps10
    go_wp2_with (first | (go_at_call 25; (with_reducible refine (implIsVector_any _ _ _ _ _ hx (by omega)).mono ?_); rintro e w' ⟨rfl, rfl⟩) | (go_at_call 25; (with_reducible refine (implIsVector_any _ _ _ _ _ hy (by omega)).mono ?_); rintro e w' ⟨rfl, rfl⟩))
    go_ret2
    rw [show addV xs ys = ([], false) by simp [addV, h2]]
    exact NewIB.none_
  by_cases h3 : n = m
  · subst h3
    have H : Hid (addV xs ys = vecIf (addW xs ys)) := by show _ = _; simp [addV, h1, h2, hl.out, hl2.out]
    have hl3 := Lib.hid (addW_length (hx.len.trans hy.len.symm))
    go_enter Tryz.func10, Tryz.ntmps10
    go_wp2_with (first | (go_at_call 25; (with_reducible refine (implIsVector_any _ _ _ _ _ hx (by omega)).mono ?_); rintro e w' ⟨rfl, rfl⟩) | (go_at_call 25; (with_reducible refine (implIsVector_any _ _ _ _ _ hy (by omega)).mono ?_); rintro e w' ⟨rfl, rfl⟩) | (go_at_call 36; (with_reducible refine (copyInts_any _ _ _ _ _ hn hx).mono ?_); rintro e w1 ⟨p1, c1, rfl, ho1, hb1⟩))
    go_loopw [27] (fun i wr => ∃ k : Nat, k ≤ n ∧ i = .int .i64 k ∧ Own wr w.heap.size wr.heap.size p1 n c1 (mix (addW xs ys) xs k) ∧ Below w.heap.size w wr) (fun i _ => n - (intOf i).toNat)
    case atStart => exact ⟨0, Nat.zero_le _, rfl, by rw [mix_zero]; exact ho1, hb1⟩
    case round =>
      obtain ⟨k, hk, rfl, hown, hb⟩ := hrel
      by_cases hlt : k < n
      · rcases hown.form with ⟨_, rfl, _⟩ | ⟨g, rfl, hg1, hg2, hg3, _⟩
        · omega
        have hc2 := hown.cell hlt
        rw [mix_nth (by have := hl.out; have := hl3.out; omega)] at hc2
        have hf2 := hown.frozen k
        obtain ⟨b, o, rfl, hc⟩ := (hy.below hb).cell k hlt
        go_wp2
        go_region
        all_goals
          go_wp2
          go_roundw
          case rel =>
            refine ⟨k + 1, by omega, by go_num, ?_, (hb.setCell hg1 _).drew⟩
            have h2 := hown.set k (nth (addW xs ys) k)
            rw [mix_set (by have := hl.out; have := hl3.out; omega) (by rw [hl.out]; exact hlt)] at h2
            rw [addW_nth (by rw [hl.out, hl2.out]) (by rw [hl.out]; exact hlt)] at h2
            exact (h2.up).drew
          case measure => simp [intOf]; omega
      · obtain rfl : k = n := by omega
        rw [mix_all (by have := hl.out; have := hl3.out; omega) (by rw [hl.out]; exact Nat.le_refl _)] at hown
        go_wp2_with (go_at_call 39; (with_reducible refine (vectorOf_any _ _ _ _ _ _ (by omega) hown).mono ?_); rintro e w' ⟨⟨p2, n2, c2, rfl, ho2⟩, rfl⟩)
        go_ret2
        rw [H.out]
        exact ⟨_, _, _, rfl, ho2, hb⟩
  · go_enter Tryz.func10, Tryz.ntmps10
    go_wp2_with (first | (go_at_call 25; (with_reducible refine (implIsVector_any _ _ _ _ _ hx (by omega)).mono ?_); rintro e w' ⟨rfl, rfl⟩) | (go_at_call 25; (with_reducible refine (implIsVector_any _ _ _ _ _ hy (by omega)).mono ?_); rintro e w' ⟨rfl, rfl⟩))
    go_ret2
    rw [show addV xs ys = ([], false) by simp [addV, hl.out, hl2.out, h3]]
    exact NewIB.none_

end Go.Proofs.YteamihmolpaoeaaGreatDoor
