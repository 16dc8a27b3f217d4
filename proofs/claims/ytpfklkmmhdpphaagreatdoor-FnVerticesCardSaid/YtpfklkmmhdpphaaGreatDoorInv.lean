/- The inverse of a matrix: the canonical function and the contract of impl.adjugate. Conditions: sizes. -/
import Derived.Test.YtpfklkmmhdpphaaGreatDoorTimes2
namespace Go.Proofs.YtpfklkmmhdpphaaGreatDoor
open Go.RowKit
set_option linter.unusedVariables false
set_option linter.unusedSimpArgs false
set_option maxRecDepth 100000

/-- Entry (i, j) of the adjugate of a matrix of n rows. -/
def adjAt (xss : List (List Int)) (n i j : Nat) : Int := if (i + j) % 2 = 1 then wrap64 (-detF (n - 1) (minorL xss j i)) else detF (n - 1) (minorL xss j i)
def adjRow (xss : List (List Int)) (n i : Nat) : List Int := (List.range n).map (adjAt xss n i)
def adjW (xss : List (List Int)) (n : Nat) : List (List Int) := (List.range n).map (adjRow xss n)
theorem adjRow_length (xss : List (List Int)) (n i : Nat) : (adjRow xss n i).length = n := by simp [adjRow]
theorem adjW_length (xss : List (List Int)) (n : Nat) : (adjW xss n).length = n := by simp [adjW]
theorem adjRow_nth {xss : List (List Int)} {n i j : Nat} (h : j < n) : nth (adjRow xss n i) j = adjAt xss n i j := by
  rw [nth_eq (by rw [adjRow_length]; exact h)]; simp [adjRow]
theorem adjW_nth {xss : List (List Int)} {n i : Nat} (h : i < n) : nthR (adjW xss n) i = adjRow xss n i := by
  rw [nthR_eq (by rw [adjW_length]; exact h)]; simp [adjW]
theorem adjW_take {xss : List (List Int)} {n i : Nat} (h : i < n) : (adjW xss n).take (i + 1) = (adjW xss n).take i ++ [adjRow xss n i] := by
  rw [take_nthR (by rw [adjW_length]; exact h), adjW_nth h]

theorem adjugate_any (p : Option Addr) (N c : Nat) (xss : List (List Int)) (w : World) (hn : N ≤ 2) (hx : Intss w p (N + 1) xss) (hs : Sq (N + 1) xss) :
    Calls Tryz.prog 28 #[.slice p (N + 1) c] w (NewM w (N + 1) (adjW xss (N + 1))) := by
  have Hs := Lib.hid hs
  have Hr : Hid (∀ k, k < xss.length → (nthR xss k).length = N + 1) := Lib.hid fun k hk => hs.2 k (by rw [← hs.1]; exact hk)
  clear hs
  obtain ⟨i0, hi0, hz0, hz1, hz2⟩ := info_parts Tryz.infoInt
  have hby : i0.bytes * (N + 1) ≤ 281474976710656 := by rw [hz2]; omega
  have hml : N + 1 ≤ maxLen := by unfold maxLen; omega
  have hl4 := Lib.hid (adjW_length xss (N + 1))
  go_enter Tryz.func28, Tryz.ntmps28
  go_wp2
  go_loopw [3, 9] (fun a i wr => ∃ (k : Nat) (p' : Option Addr) (c' : Nat) (rows : List Row), k ≤ N + 1 ∧ i = .int .i64 k ∧ a = .slice p' k c' ∧ Own2 wr w.heap.size wr.heap.size p' k c' rows ((adjW xss (N + 1)).take k) ∧ Below w.heap.size w wr) (fun _ i _ => N + 1 - (intOf i).toNat)
  case atStart => exact ⟨0, _, _, _, Nat.zero_le _, rfl, rfl, Own2.nil _ _ _, Below.refl _ _⟩
  case round =>
    obtain ⟨k, p', c', rows, hk, rfl, rfl, hown, hb⟩ := hrel
    by_cases hlt : k < N + 1
    · generalize wr = W at *
      go_wp2_with (at_make; refine wpList_make_full _ rfl _ _ 30 rfl W.heap.size 3 i0 (.int .i64 0) 1 Tryz.underlying30 hi0 hz0 hz1 .i64 .i64 _ _ (N + 1) rfl rfl rfl rfl hby hml (Nat.le_refl _) ?_; intro w1 hmade hgrow)
      have ho0 : Own w1 W.heap.size (W.heap.size + 1) (some ⟨W.heap.size, 0, none⟩) (N + 1) (N + 1) (mix (adjRow xss (N + 1) k) (List.replicate (N + 1) 0) 0) := by
        refine ⟨?_, fun a ha => by injection ha with ha; subst ha; exact Nat.lt_succ_self _⟩
        rw [made_zeros] at hmade
        rw [mix_zero]
        exact hmade
      have hb0 : Below W.heap.size W w1 := (Below.refl _ _).grown hgrow (Nat.le_refl _) (fun k hk => by cases hk)
      clear hmade hgrow
      go_loopw [17] (fun i wr => ∃ t : Nat, t ≤ N + 1 ∧ i = .int .i64 t ∧ Own wr W.heap.size (W.heap.size + 1) (some ⟨W.heap.size, 0, none⟩) (N + 1) (N + 1) (mix (adjRow xss (N + 1) k) (List.replicate (N + 1) 0) t) ∧ Below W.heap.size W wr) (fun i _ => N + 1 - (intOf i).toNat)
      case atStart => exact ⟨0, Nat.zero_le _, rfl, ho0, hb0⟩
      case round =>
        obtain ⟨t, ht, rfl, ho, hb1⟩ := hrel
        have hb2 := Below.step hb hb1
        by_cases hlt2 : t < N + 1
        · go_wp2_with fail
          refine (minor_any _ _ _ _ _ _ _ _ (by omega) (hx.below hb2) (by omega) hlt (by omega) Hr.out).mono ?_
          rintro e w2 ⟨q2, m2, d2, rfl, ho2, hb3⟩
          have hown3 := ho.below hb3
          go_wp2_with fail
          refine (det_any N _ _ _ _ _ (by omega) ho2.rd (Hs.out.minor hlt2 hlt)).mono ?_
          rintro e w3 ⟨rfl, hb4⟩
          have hown4 := hown3.below hb4
          have hcell := hown4.cell hlt2
          have hf := hown4.frozen t
          rw [mix_nth (by rw [adjRow_length]; exact ht)] at hcell
          have hset := hown4.set t (adjAt xss (N + 1) k t)
          have hb5 := Below.step (Below.step hb1 hb3) hb4
          rw [← adjRow_nth (xss := xss) (n := N + 1) (i := k) hlt2, mix_set (by rw [adjRow_length]; exact hlt2) (by simpa using hlt2), adjRow_nth hlt2] at hset
          by_cases hodd : (k + t) % 2 = 1
          · have hq : (((k : Int) + (t : Int)).tmod 2 == 1) = true := by rw [Int.tmod_eq_emod_of_nonneg (by omega)]; simp; omega
            have hset2 := hown4.set t (detF N (minorL xss t k))
            have hcell2 := hset2.cell hlt2
            have hf2 := hset2.frozen t
            rw [nth_eq (by simp [mix, adjRow_length]; omega), List.getElem_set_self] at hcell2
            go_wp2
            go_roundw
            case rel =>
              have h9 := hset2.set t (adjAt xss (N + 1) k t)
              refine ⟨t + 1, by omega, by go_num, ?_, (hb5.setCell (Nat.le_refl _) _).setCell (Nat.le_refl _) _⟩
              rw [List.set_set] at h9
              rw [← adjRow_nth (xss := xss) (n := N + 1) (i := k) hlt2, mix_set (by rw [adjRow_length]; exact hlt2) (by simpa using hlt2), adjRow_nth hlt2, adjAt, if_pos hodd, Nat.add_sub_cancel] at h9
              exact h9
            case measure => simp [intOf]; omega
          · have hq : (((k : Int) + (t : Int)).tmod 2 == 1) = false := by rw [Int.tmod_eq_emod_of_nonneg (by omega)]; simp; omega
            have hadj : adjAt xss (N + 1) k t = detF N (minorL xss t k) := by rw [adjAt, if_neg hodd, Nat.add_sub_cancel]
            rw [hadj] at hset
            go_wp2
            go_roundw
            case rel => exact ⟨t + 1, by omega, by go_num, hset, hb5.setCell (Nat.le_refl _) _⟩
            case measure => simp [intOf]; omega
        · have e : t = N + 1 := by omega
          subst e
          rw [mix_all (by rw [adjRow_length]; exact Nat.le_refl _) (by simp)] at ho
          have hown2 := hown.below hb1
          go_wp2_with (at_builtin; refine append_row rfl _ _ rfl _ w.heap.size _ _ _ _ _ rfl (hown2.outer.alloc _) _ _ _ _ rfl (cellNew _ _ _) (by omega) (sizeNew hb2 _) ?_; intro p3 c3 w3 ho3 hg3)
          have hb3 : Below w.heap.size w w3 := (hb2.alloc hb2.size _).trans (hg3.below (sizeNew hb2 _) (fun a ha => (hown2.outer.lt a ha).1))
          have h3 := hown2.app ho hb.size (boxed _ _) ho3 hg3
          go_roundw
          case rel =>
            rw [← adjW_take hlt] at h3
            exact ⟨k + 1, _, _, _, by omega, by go_num, rfl, h3, hb3⟩
          case measure => simp [intOf]; omega
    · go_wp2
      go_ret
      have e : k = N + 1 := by omega
      subst e
      rw [List.take_of_length_le (by have := hl4.out; omega)] at hown
      exact ⟨_, _, rfl, ⟨_, hown⟩, hb⟩

end Go.Proofs.YtpfklkmmhdpphaaGreatDoor
