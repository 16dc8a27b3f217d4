/- Contracts of both ApplyMatrix. Conditions: sizes. -/
import Derived.Test.YtdchckljggjaaaaDetOf
namespace Go.Proofs.Ytdchckljggjaaaa
open Go.RowKit
set_option linter.unusedVariables false
set_option linter.unusedSimpArgs false
set_option maxRecDepth 100000

/-- A matrix applied to a list. -/
def applyW (xss : List (List Int)) (v : List Int) : List Int := xss.map fun r => dotW r v
theorem applyW_length (xss : List (List Int)) (v : List Int) : (applyW xss v).length = xss.length := by simp [applyW]
theorem applyW_take {xss : List (List Int)} {v : List Int} {k : Nat} (h : k < xss.length) : (applyW xss v).take (k + 1) = (applyW xss v).take k ++ [dotW (nthR xss k) v] := by
  rw [take_nth (by rw [applyW_length]; exact h), nth_eq (by rw [applyW_length]; exact h), nthR_eq h]
  simp [applyW]

theorem l3Apply_any (p q : Option Addr) (n c m d : Nat) (xss : List (List Int)) (v : List Int) (w : World) (hn : n ≤ 1000000) (hm : m ≤ 1000000) (hx : Intss w p n xss) (hv : Ints w q m v) (hr : ∀ k, k < xss.length → (nthR xss k).length = m) :
    Calls Try.prog 101 #[.slice p n c, .slice q m d] w (NewInts w n (applyW xss v)) := by
  have hl := Lib.hid hx.len
  have hl3 := Lib.hid (applyW_length xss v)
  have Hr := Lib.hid hr
  clear hr
  go_enter Try.func101, Try.ntmps101
  go_wp2
  go_loopw [5, 6] (fun a i wr => ∃ (k : Nat) (p' : Option Addr) (c' : Nat), k ≤ n ∧ i = .int .i64 k ∧ a = .slice p' k c' ∧ Own wr w.heap.size wr.heap.size p' k c' ((applyW xss v).take k) ∧ Below w.heap.size w wr) (fun _ i _ => n - (intOf i).toNat)
  case atStart => exact ⟨0, _, _, Nat.zero_le _, rfl, rfl, (Own.empty w).up, (Below.refl _ _).alloc (Nat.le_refl _) _⟩
  case round =>
    obtain ⟨k, p', c', hk, rfl, rfl, hown, hb⟩ := hrel
    by_cases hlt : k < n
    · obtain ⟨b, o, q1, m1, d1, rfl, hc, hm1, hi⟩ := (hx.below hb).cell k hlt
      obtain rfl : m1 = m := by rw [← hi.len]; exact Hr.out k (by rw [hl.out]; exact hlt)
      go_wp2_with fail
      refine (ret_of_drew (l2Dot_any _ _ _ _ _ _ _ _ hm1 hi (hv.below hb))).mono ?_
      rintro e w1 ⟨rfl, hb1⟩
      have hown1 := hown.below hb1
      have hbw1 := hb.trans (hb1.mono hb.size)
      go_wp2_with (at_builtin; refine append_int rfl _ _ rfl _ w.heap.size _ _ _ _ _ rfl (hown1.alloc _) w1.heap.size _ rfl (cellNew _ _ _) (by omega) (sizeNew hbw1 _) ?_; intro p2 c2 w2 hown2 hg2)
      have hb2 := hg2.belowO (hown1.alloc _) (sizeNew hbw1 _)
      go_roundw
      case rel =>
        refine ⟨k + 1, _, _, by omega, by go_num, rfl, ?_, Below.new hbw1 _ hb2⟩
        rw [applyW_take (by rw [hl.out]; exact hlt)]
        exact hown2
      case measure => simp [intOf]; omega
    · go_wp2
      go_ret
      obtain rfl : k = n := by omega
      refine ⟨_, _, rfl, ?_, hb⟩
      rw [List.take_of_length_le (by have := hl.out; have := hl3.out; omega)] at hown
      exact hown

def applyV (xss : List (List Int)) (v : List Int) : List Int × Bool := if isMat xss = true ∧ isVec v = true ∧ v.length = xss.length then vecIf (applyW xss v) else ([], false)
theorem applyV_len (xss : List (List Int)) (v : List Int) : (applyV xss v).1.length ≤ 3 := by
  unfold applyV
  split
  · exact vecIf_len _
  · simp

theorem specApply_any (p q : Option Addr) (n c m d : Nat) (xss : List (List Int)) (v : List Int) (w : World) (hn : n ≤ 1048576) (hm : m ≤ 1048576) (hx : Intss w p n xss) (hv : Ints w q m v) :
    Calls Try.prog 45 #[.slice p n c, .slice q m d] w (NewIB w (applyV xss v)) := by
  have hl := Lib.hid hx.len
  have hl2 := Lib.hid hv.len
  cases h1 : isMat xss
  · go_enter Try.func45, Try.ntmps45
    go_wp2_with (go_at_call 52; (with_reducible refine (specIsMatrix_any _ _ _ _ _ (by omega) hx).mono ?_); rintro e w' ⟨rfl, rfl⟩)
    go_ret2
    rw [show applyV xss v = ([], false) by simp [applyV, h1]]
    exact NewIB.empty (Below.refl _ _)
  cases h2 : isVec v
  · go_enter Try.func45, Try.ntmps45
    go_wp2_with (first | (go_at_call 52; (with_reducible refine (specIsMatrix_any _ _ _ _ _ (by omega) hx).mono ?_); rintro e w' ⟨rfl, rfl⟩) | (go_at_call 100; (with_reducible refine (specIsVector_any _ _ _ _ _ hv (by omega)).mono ?_); rintro e w' ⟨rfl, rfl⟩))
    go_ret2
    rw [show applyV xss v = ([], false) by simp [applyV, h2]]
    exact NewIB.empty (Below.refl _ _)
  by_cases h3 : m = n
  · subst h3
    have H : Hid (applyV xss v = vecIf (applyW xss v)) := by show _ = _; simp [applyV, h1, h2, hl.out, hl2.out]
    obtain ⟨hs, hl1, hl3, _⟩ := isMat_facts h1
    rw [hl.out] at hs hl1 hl3
    have Hs := Lib.hid hs
    clear hs
    have Hr : Hid (∀ k, k < xss.length → (nthR xss k).length = m) := Lib.hid fun k hk => Hs.out.2 k (by rw [← hl.out]; exact hk)
    cases h4 : isVec (applyW xss v)
    all_goals
      go_enter Try.func45, Try.ntmps45
      go_wp2_with (first | (go_at_call 52; (with_reducible refine (specIsMatrix_any _ _ _ _ _ (by omega) hx).mono ?_); rintro e w' ⟨rfl, rfl⟩) | (go_at_call 100; (with_reducible refine (specIsVector_any _ _ _ _ _ hv (by omega)).mono ?_); rintro e w' ⟨rfl, rfl⟩) | (go_at_call 101; (with_reducible refine (l3Apply_any _ _ _ _ _ _ _ _ _ (by omega) (by omega) hx hv Hr.out).mono ?_); rintro e w1 ⟨p1, c1, rfl, ho1, hb1⟩) | (go_at_call 100; (with_reducible refine (specIsVector_any _ _ _ _ _ ho1.ints ho1.small).mono ?_); rintro e w' ⟨rfl, rfl⟩))
      go_ret2
      rw [H.out]
    · rw [vecIf_no h4]
      exact NewIB.empty hb1
    · rw [vecIf_yes h4]
      exact Own.into ho1 hb1
  · go_enter Try.func45, Try.ntmps45
    go_wp2_with (first | (go_at_call 52; (with_reducible refine (specIsMatrix_any _ _ _ _ _ (by omega) hx).mono ?_); rintro e w' ⟨rfl, rfl⟩) | (go_at_call 100; (with_reducible refine (specIsVector_any _ _ _ _ _ hv (by omega)).mono ?_); rintro e w' ⟨rfl, rfl⟩))
    go_ret2
    rw [show applyV xss v = ([], false) by simp [applyV, hl.out, hl2.out, h3]]
    exact NewIB.empty (Below.refl _ _)

theorem implApply_any (p q : Option Addr) (n c m d : Nat) (xss : List (List Int)) (v : List Int) (w : World) (hn : n ≤ 1048576) (hm : m ≤ 1048576) (hx : Intss w p n xss) (hv : Ints w q m v) :
    Calls Try.prog 44 #[.slice p n c, .slice q m d] w (NewIB w (applyV xss v)) := by
  have hl := Lib.hid hx.len
  have hl2 := Lib.hid hv.len
  cases h1 : isMat xss
  · go_enter Try.func44, Try.ntmps44
    go_wp2_with (go_at_call 51; (with_reducible refine (implIsMatrix_any _ _ _ _ _ (by omega) hx).mono ?_); rintro e w' ⟨rfl, rfl⟩)
    go_ret2
    rw [show applyV xss v = ([], false) by simp [applyV, h1]]
    exact NewIB.none_
  cases h2 : isVec v
  · go_enter Try.func44, Try.ntmps44
    go_wp2_with (first | (go_at_call 51; (with_reducible refine (implIsMatrix_any _ _ _ _ _ (by omega) hx).mono ?_); rintro e w' ⟨rfl, rfl⟩) | (go_at_call 84; (with_reducible refine (implIsVector_any _ _ _ _ _ hv (by omega)).mono ?_); rintro e w' ⟨rfl, rfl⟩))
    go_ret2
    rw [show applyV xss v = ([], false) by simp [applyV, h2]]
    exact NewIB.none_
  by_cases h3 : m = n
  · subst h3
    have H : Hid (applyV xss v = vecIf (applyW xss v)) := by show _ = _; simp [applyV, h1, h2, hl.out, hl2.out]
    obtain ⟨hs, hl1, hl3, _⟩ := isMat_facts h1
    rw [hl.out] at hs hl1 hl3
    have Hs := Lib.hid hs
    clear hs
    have hl3' := Lib.hid (applyW_length xss v)
    go_enter Try.func44, Try.ntmps44
    go_wp2_with (first | (go_at_call 51; (with_reducible refine (implIsMatrix_any _ _ _ _ _ (by omega) hx).mono ?_); rintro e w' ⟨rfl, rfl⟩) | (go_at_call 84; (with_reducible refine (implIsVector_any _ _ _ _ _ hv (by omega)).mono ?_); rintro e w' ⟨rfl, rfl⟩))
    go_loopw [6, 26] (fun a i wr => ∃ (k : Nat) (p' : Option Addr) (c' : Nat), k ≤ m ∧ i = .int .i64 k ∧ a = .slice p' k c' ∧ Own wr w.heap.size wr.heap.size p' k c' ((applyW xss v).take k) ∧ Below w.heap.size w wr) (fun _ i _ => m - (intOf i).toNat)
    case atStart => exact ⟨0, _, _, Nat.zero_le _, rfl, rfl, Own.nil _ _ _, Below.refl _ _⟩
    case round =>
      obtain ⟨k, p', c', hk, rfl, rfl, hown, hb⟩ := hrel
      by_cases hlt : k < m
      · obtain ⟨b, o, q1, m1, d1, rfl, hc, hm1, hi⟩ := (hx.below hb).cell k hlt
        obtain rfl : m1 = m := by rw [← hi.len]; exact Hs.out.2 k hlt
        go_wp2_with fail
        refine (ret_of_drew (dot_any _ _ _ _ _ _ _ _ hm1 hi (hv.below hb))).mono ?_
        rintro e w1 ⟨rfl, hb1⟩
        have hown1 := hown.below hb1
        have hbw1 := hb.trans (hb1.mono hb.size)
        go_wp2_with (at_builtin; refine append_int rfl _ _ rfl _ w.heap.size _ _ _ _ _ rfl (hown1.alloc _) w1.heap.size _ rfl (cellNew _ _ _) (by omega) (sizeNew hbw1 _) ?_; intro p2 c2 w2 hown2 hg2)
        have hb2 := hg2.belowO (hown1.alloc _) (sizeNew hbw1 _)
        go_roundw
        case rel =>
          refine ⟨k + 1, _, _, by omega, by go_num, rfl, ?_, Below.new hbw1 _ hb2⟩
          rw [applyW_take (by rw [hl.out]; exact hlt)]
          exact hown2
        case measure => simp [intOf]; omega
      · obtain rfl : k = m := by omega
        rw [List.take_of_length_le (by have := hl.out; have := hl3'.out; omega)] at hown
        go_wp2_with (go_at_call 99; (with_reducible refine (vectorOf_any _ _ _ _ _ _ (by omega) hown).mono ?_); rintro e w' ⟨⟨p2, n2, c2, rfl, ho2⟩, rfl⟩)
        go_ret2
        rw [H.out]
        exact ⟨_, _, _, rfl, ho2, hb⟩
  · go_enter Try.func44, Try.ntmps44
    go_wp2_with (first | (go_at_call 51; (with_reducible refine (implIsMatrix_any _ _ _ _ _ (by omega) hx).mono ?_); rintro e w' ⟨rfl, rfl⟩) | (go_at_call 84; (with_reducible refine (implIsVector_any _ _ _ _ _ hv (by omega)).mono ?_); rintro e w' ⟨rfl, rfl⟩))
    go_ret2
    rw [show applyV xss v = ([], false) by simp [applyV, hl.out, hl2.out, h3]]
    exact NewIB.none_

end Go.Proofs.Ytdchckljggjaaaa
