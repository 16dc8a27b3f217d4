/- Contracts of spec.l7Flat, l7Copy, l7SameList. Conditions: sizes. -/
import Derived.Test.YthdonnkekggbbaaGreatDoorHull1
namespace Go.Proofs.YthdonnkekggbbaaGreatDoor
open Go.RowKit
set_option linter.unusedVariables false
set_option linter.unusedSimpArgs false
set_option maxRecDepth 100000

def flatB (xss : List (List Int)) : Bool := xss.all (isPt 50)
theorem flatB_no {xss : List (List Int)} {k : Nat} (h : k < xss.length) (hp : isPt 50 (nthR xss k) = false) : flatB xss = false := by
  unfold flatB
  rw [List.all_eq_false]
  exact ⟨_, nthR_mem h, by simp [hp]⟩
theorem flatB_yes {xss : List (List Int)} (h : ∀ k, k < xss.length → isPt 50 (nthR xss k) = true) : flatB xss = true := by
  unfold flatB
  rw [List.all_eq_true]
  intro x hx
  obtain ⟨k, hk, rfl⟩ := List.getElem_of_mem hx
  have := h k hk
  rwa [nthR_eq hk] at this
theorem flatB_at {xss : List (List Int)} (h : flatB xss = true) {k : Nat} (hk : k < xss.length) : isPt 50 (nthR xss k) = true := List.all_eq_true.1 h _ (nthR_mem hk)

theorem l7Flat_any (p : Option Addr) (n c : Nat) (xss : List (List Int)) (w : World) (hn : n ≤ 9223372036854775807) (hx : Intss w p n xss) :
    Calls Tryz.prog 42 #[.slice p n c] w fun e w' => e = .returned (.bool (flatB xss)) ∧ w = w' := by
  have hl := Lib.hid hx.len
  go_enter Tryz.func42, Tryz.ntmps42
  go_wp2
  go_loop [3] (fun i => ∃ k : Nat, k ≤ n ∧ i = .int .i64 k ∧ Hid (∀ j, j < k → isPt 50 (nthR xss j) = true)) (fun i => n - (intOf i).toNat)
  case atStart => exact ⟨0, Nat.zero_le _, rfl, fun j hj => by omega⟩
  case round =>
    obtain ⟨k, hk, rfl, hall⟩ := hrel
    by_cases hlt : k < n
    · obtain ⟨b, o, q, m, d, rfl, hc, hm, hi⟩ := hx.cell k hlt
      have hml := Lib.hid hi.len
      have hkl := Lib.hid (show k < xss.length by rw [hl.out]; exact hlt)
      by_cases h2 : m = 2
      · subst h2
        cases h3 : allR (nthR xss k) (-50) 50
        · have HP := Lib.hid (flatB_no hkl.out (show isPt 50 (nthR xss k) = false by simp [isPt, h3]))
          go_wp2_with (go_at_call 76; (with_reducible refine (l2Small_any _ _ _ _ _ _ hi hm (by decide) (by decide)).mono ?_); rintro e w' ⟨rfl, rfl⟩)
          go_ret
          exact ⟨ret_bool HP.out.symm, rfl⟩
        · have HP := Lib.hid (show isPt 50 (nthR xss k) = true by simp [isPt, h3, hml.out])
          go_wp2_with (go_at_call 76; (with_reducible refine (l2Small_any _ _ _ _ _ _ hi hm (by decide) (by decide)).mono ?_); rintro e w' ⟨rfl, rfl⟩)
          go_round
          case rel =>
            refine ⟨k + 1, by omega, by go_num, fun j hj => ?_⟩
            by_cases hjk : j < k
            · exact hall.out j hjk
            · obtain rfl : j = k := by omega
              exact HP.out
          case measure => simp [intOf]; omega
      · have HP := Lib.hid (flatB_no hkl.out (show isPt 50 (nthR xss k) = false by simp [isPt, hml.out, h2]))
        have h2' : ((m : Int) != 2) = true := by simp; omega
        have h2n : (m != 2) = true := by simp [h2]
        go_wp2
        go_ret
        exact ⟨ret_bool HP.out.symm, rfl⟩
    · obtain rfl : k = n := by omega
      have HP := Lib.hid (flatB_yes (xss := xss) fun j hj => hall.out j (by rw [hl.out] at hj; exact hj))
      go_wp2
      go_ret
      exact ⟨ret_bool HP.out.symm, rfl⟩

theorem l7Copy_any (p : Option Addr) (n c0 : Nat) (xss : List (List Int)) (w : World) (hn : n ≤ 100000) (hx : Intss w p n xss) (hlen : ∀ k, k < n → (nthR xss k).length ≤ 100000) :
    Calls Tryz.prog 45 #[.slice p n c0] w (NewM w n xss) := by
  have hl := Lib.hid hx.len
  have Hlen := Lib.hid hlen
  clear hlen
  go_enter Tryz.func45, Tryz.ntmps45
  go_wp2
  go_loopw [3, 4] (fun v i wr => ∃ (k : Nat) (p' : Option Addr) (c' : Nat) (rows : List Row), k ≤ n ∧ i = .int .i64 k ∧ v = .slice p' k c' ∧ Own2 wr w.heap.size wr.heap.size p' k c' rows (xss.take k) ∧ Below w.heap.size w wr) (fun _ i _ => n - (intOf i).toNat)
  case atStart => exact ⟨0, _, _, [], Nat.zero_le _, rfl, rfl, (Own2.empty w).up, (Below.refl _ _).alloc (Nat.le_refl _) _⟩
  case round =>
    obtain ⟨k, p', c', rows, hk, rfl, rfl, hown, hb⟩ := hrel
    by_cases hlt : k < n
    · generalize wr = W at *
      obtain ⟨b, o, q1, m1, d1, rfl, hc, hm1, hi⟩ := (hx.below hb).cell k hlt
      have hm2 : m1 ≤ 100000 := by rw [← hi.len]; exact Hlen.out k hlt
      have hbA := boxed W (.cells #[] 3)
      have hsA := hbA.size
      have hc' := (hbA.cell (World.block_lt_of_cell? W _ hc)).trans hc
      go_wp2_with (at_builtin; refine append_ints rfl _ _ rfl _ W.heap.size _ _ _ _ _ rfl (Own.empty W) _ _ _ _ rfl (hi.below hbA) (by omega) (by simp) ?_; intro p2 c2 w2 ho2 hg2; refine Hid.out ?_)
      refine Lib.hid ?_
      have hb2 : Below W.heap.size W w2 := hbA.trans (hg2.belowO (Own.empty W) (by simp))
      have hown2 := hown.below hb2
      have hbw2 := Below.step hb hb2
      rw [List.nil_append] at ho2
      simp only [Nat.zero_add] at ho2 ⊢
      go_wp2_with (at_builtin; refine append_row rfl _ _ rfl _ w.heap.size _ _ _ _ _ rfl (hown2.outer.alloc _) _ _ _ _ rfl (cellNew _ _ _) (by omega) (sizeNew hbw2 _) ?_; intro p3 c3 w3 ho3 hg3)
      have hb3 : Below w.heap.size w w3 := (hbw2.alloc hbw2.size _).trans (hg3.below (sizeNew hbw2 _) (fun a ha => (hown2.outer.lt a ha).1))
      have h3' := hown2.app ho2 hb.size (boxed _ _) ho3 hg3
      go_roundw
      case rel =>
        rw [← take_nthR (by rw [hl.out]; exact hlt)] at h3'
        exact ⟨k + 1, _, _, _, by omega, by go_num, rfl, h3', hb3⟩
      case measure => simp [intOf]; omega
    · obtain rfl : k = n := by omega
      rw [List.take_of_length_le (by rw [hl.out]; exact Nat.le_refl _)] at hown
      go_wp2
      go_ret
      exact ⟨_, _, rfl, ⟨_, hown⟩, hb⟩

theorem l7SameList_any (p q : Option Addr) (n c m d : Nat) (xss yss : List (List Int)) (w : World) (hn : n ≤ 9223372036854775807) (hm : m ≤ 9223372036854775807) (hx : Intss w p n xss) (hy : Intss w q m yss) :
    Calls Tryz.prog 65 #[.slice p n c, .slice q m d] w fun e w' => e = .returned (.bool (decide (xss = yss))) ∧ ∃ z, w' = w.drewN z := by
  have hl := Lib.hid hx.len
  have hl2 := Lib.hid hy.len
  by_cases hnm : n = m
  · subst hnm
    go_enter Tryz.func65, Tryz.ntmps65
    go_wp2
    go_loopw [5] (fun i wr => ∃ k : Nat, k ≤ n ∧ i = .int .i64 k ∧ Hid (∀ j, j < k → nthR xss j = nthR yss j) ∧ ∃ z, wr = w.drewN z) (fun i _ => n - (intOf i).toNat)
    case atStart => exact ⟨0, Nat.zero_le _, rfl, fun j h => absurd h (by omega), 0, rfl⟩
    case round =>
      obtain ⟨k, hk, rfl, hall, z, rfl⟩ := hrel
      by_cases hlt : k < n
      · obtain ⟨b, o, q1, m1, d1, rfl, hc, hm1, hi⟩ := hx.cell k hlt
        obtain ⟨b2, o2, q2, m2, d2, rfl, hc2, hm2, hi2⟩ := hy.cell k hlt
        cases h3 : beqL (nthR xss k) (nthR yss k)
        · have HP : Hid (decide (xss = yss) = false) := Lib.hid (by simp only [beqL, decide_eq_false_iff_not] at h3 ⊢; intro h; exact h3 (by rw [h]))
          have K1 : Hid (∀ x, Calls Tryz.prog 78 #[.slice q1 m1 d1, .slice q2 m2 d2] (w.drewN (z + x)) fun e w' => e = .returned (.bool false) ∧ ∃ y, w' = w.drewN (z + y)) := Lib.hid fun x => by
            refine (l2SameP_any _ _ _ d1 _ d2 _ _ _ (hi.drewN (z + x)) (hi2.drewN (z + x)) hm1 hm2).mono ?_
            rw [h3]
            rintro e w' ⟨rfl, y, rfl⟩
            exact ⟨rfl, x + y, by rw [World.drewN_drewN, Nat.add_assoc]⟩
          go_wp2
          go_quiet ((go_at_call 78; exact K1.out _))
          go_wp2
          go_ret
          exact ⟨ret_bool HP.out.symm, by first | exact ⟨_, rfl⟩ | exact drew2 _ _ _⟩
        · have HP : Hid (nthR xss k = nthR yss k) := Lib.hid (by simpa [beqL] using h3)
          have K1 : Hid (∀ x, Calls Tryz.prog 78 #[.slice q1 m1 d1, .slice q2 m2 d2] (w.drewN (z + x)) fun e w' => e = .returned (.bool true) ∧ ∃ y, w' = w.drewN (z + y)) := Lib.hid fun x => by
            refine (l2SameP_any _ _ _ d1 _ d2 _ _ _ (hi.drewN (z + x)) (hi2.drewN (z + x)) hm1 hm2).mono ?_
            rw [h3]
            rintro e w' ⟨rfl, y, rfl⟩
            exact ⟨rfl, x + y, by rw [World.drewN_drewN, Nat.add_assoc]⟩
          go_wp2
          go_quiet ((go_at_call 78; exact K1.out _))
          go_wp2
          go_roundw
          case rel =>
            refine ⟨k + 1, by omega, by go_num, fun j hj => ?_, by first | exact ⟨_, rfl⟩ | exact drew2 _ _ _⟩
            by_cases hjk : j < k
            · exact hall.out j hjk
            · obtain rfl : j = k := by omega
              exact HP.out
          case measure => simp [intOf]; omega
      · obtain rfl : k = n := by omega
        have HP : Hid (decide (xss = yss) = true) := Lib.hid (by
          rw [decide_eq_true_eq]
          refine List.ext_getElem (by rw [hl.out, hl2.out]) fun i h1 h2 => ?_
          have := hall.out i (by rw [hl.out] at h1; exact h1)
          rwa [nthR_eq h1, nthR_eq h2] at this)
        go_wp2
        go_ret
        exact ⟨ret_bool HP.out.symm, z, rfl⟩
  · have HP : Hid (decide (xss = yss) = false) := Lib.hid (by
      rw [decide_eq_false_iff_not]
      intro h
      exact hnm (by rw [← hl.out, ← hl2.out, h]))
    go_enter Tryz.func65, Tryz.ntmps65
    go_wp2
    go_ret
    exact ⟨ret_bool HP.out.symm, 0, rfl⟩

end Go.Proofs.YthdonnkekggbbaaGreatDoor
