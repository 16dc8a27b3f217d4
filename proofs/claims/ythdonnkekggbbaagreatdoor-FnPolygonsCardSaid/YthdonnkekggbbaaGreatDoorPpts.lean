/- Contract of impl.PolygonPoints (under way). Conditions: sizes. -/
import Derived.Test.YthdonnkekggbbaaGreatDoorPpt0
import Derived.Test.YthdonnkekggbbaaGreatDoorAnyL
import Derived.Test.YthdonnkekggbbaaGreatDoorPick
namespace Go.Proofs.YthdonnkekggbbaaGreatDoor
open Go.RowKit
set_option linter.unusedVariables false
set_option linter.unusedSimpArgs false
set_option maxRecDepth 100000

set_option maxHeartbeats 8000000 in
theorem implPolygonPoints_any (p : Option Addr) (n c : Nat) (w : World) (xss : List (List Int)) (hn : n ≤ 9223372036854775807) (hx : Intss w p n xss) :
    Calls Tryz.prog 6 #[.slice p n c] w (NewL w (ptsPV xss)) := by
  have hl := Lib.hid hx.len
  have HV : Hid (ptsPV xss = ptsPV xss) := rfl
  cases h : polyB xss
  · go_enter Tryz.func6, Tryz.ntmps6
    go_wp2_with fail
    refine (implIsPolygon_any _ _ _ _ _ hn hx).mono ?_
    rw [h]
    rintro e w1 ⟨rfl, hb1⟩
    go_wp2
    go_ret
    rw [ptsPV_no h]
    exact ⟨_, _, _, rfl, ⟨[], Own2.nil _ _ _⟩, hb1⟩
  · by_cases h2 : areaV xss ≤ 2000
    rotate_left
    · obtain ⟨A, hA⟩ : ∃ A, areaV xss = A := ⟨_, rfl⟩
      have hV := Lib.hid (ptsPV_big (P := xss) (by omega))
      rw [hA] at h2
      have hd : decide (2000 < A) = true := by simp; omega
      go_enter Tryz.func6, Tryz.ntmps6
      go_wp2_with fail
      refine (implIsPolygon_any _ _ _ _ _ hn hx).mono ?_
      rw [h]
      rintro e w1 ⟨rfl, hb1⟩
      go_wp2_with fail
      refine (implAreaTwice_any _ _ _ _ _ hn (hx.below hb1)).mono ?_
      rw [hA]
      rintro e w2 ⟨rfl, hb2⟩
      go_wp2
      go_ret
      rw [hV.out]
      exact ⟨_, _, _, rfl, ⟨[], Own2.nil _ _ _⟩, Below.step hb1 hb2⟩
    have hV : Hid (ptsPV xss = (boxP xss).filter (inP xss)) := Lib.hid (by rw [ptsPV, if_pos ⟨h, h2⟩])
    obtain ⟨h3, h12, hpt, _⟩ := polyB_iff.1 h
    rw [hl.out] at h3 h12 hpt
    have Hp := Lib.hid (show ∀ k, k < n → PtIn 50 (nthR xss k) from fun k hk => isPt_in (hpt k hk))
    clear hpt
    obtain ⟨b, o, rfl⟩ : ∃ b o, p = some ⟨b, o, none⟩ := by
      obtain ⟨b, o, _, _, _, e, _⟩ := hx.cell 0 (by omega)
      exact ⟨b, o, e⟩
    have hn0 : 0 < n := by omega
    have hn0i : (0 : Int) < (n : Int) := by omega
    obtain ⟨q0, d0, c0, hbl, i0⟩ := hx.row2 rfl (show 0 < n by omega) (Hp.out 0 (by omega)).len
    rw [Nat.add_zero] at c0
    obtain ⟨A, hA⟩ : ∃ A, areaV xss = A := ⟨_, rfl⟩
    rw [hA] at h2
    have hd : decide (2000 < A) = false := by simp; omega
    go_enter Tryz.func6, Tryz.ntmps6
    go_wp2_with fail
    refine (implIsPolygon_any _ _ _ _ _ hn hx).mono ?_
    rw [h]
    rintro e w1 ⟨rfl, hb1⟩
    go_wp2_with fail
    refine (implAreaTwice_any _ _ _ _ _ hn (hx.below hb1)).mono ?_
    rw [hA]
    rintro e w2 ⟨rfl, hb2⟩
    have hb3 := Below.step hb1 hb2
    have c2 := (hb3.cell (World.block_lt_of_cell? w _ c0)).trans c0
    have i2 := i0.below hb3
    clear hA
    go_wp2_with fail
    refine wp_region_u 9 10 (fun w' => w'.cell? ⟨b, o, none⟩ = some (.slice q0 2 d0)) (by kernel_rfl) rfl (by (try dsimp only); exact c2) (fun hHeld => ?_)
    first
      | (refine WalkU.take (i := 0) (v := ?_) rfl (by kernel_rfl) (by kernel_rfl) (by kernel_rfl) (by kernel_rfl) (fun _ _ _ h => h) (Or.inl ⟨by rfl, ?_⟩) hHeld ?_
         rotate_left
         · (intro w hSw; (try dsimp only at hSw); go_simp; try with_reducible rfl)
         try simp only [Act.put, List.setIfInBounds_toArray, List.set_cons_zero, List.set_cons_succ])
      | (refine WalkU.take (i := 0) (v := undef) rfl (by kernel_rfl) (by kernel_rfl) (by kernel_rfl) (by kernel_rfl) (fun _ _ _ h => h) (Or.inr ⟨by rfl, rfl⟩) hHeld ?_
         try simp only [Act.put, List.setIfInBounds_toArray, List.set_cons_zero, List.set_cons_succ])
      | (refine WalkU.one (i := 0) rfl (by kernel_rfl) (fun K hK => ?_)
         first
           | (first | (go_at_call 30; (with_reducible refine (copyInts_any _ _ _ _ _ (by omega) (i2.drew.below hb4)).mono ?_); rintro e w5 ⟨p5, c5, rfl, ho5, hb5⟩; replace c2 := (hb5.cell (World.block_lt_of_cell? w4 _ c2)).trans c2) | (go_at_call 30; (with_reducible refine (copyInts_any _ _ _ _ _ (by omega) i2.drew).mono ?_); rintro e w4 ⟨p4, c4, rfl, ho4, hb4⟩; replace c2 := (hb4.cell (World.block_lt_of_cell? w2.drew _ c2)).trans c2))
           | (go_simp; (first | (go_at_call 30; (with_reducible refine (copyInts_any _ _ _ _ _ (by omega) (i2.drew.below hb4)).mono ?_); rintro e w5 ⟨p5, c5, rfl, ho5, hb5⟩; replace c2 := (hb5.cell (World.block_lt_of_cell? w4 _ c2)).trans c2) | (go_at_call 30; (with_reducible refine (copyInts_any _ _ _ _ _ (by omega) i2.drew).mono ?_); rintro e w4 ⟨p4, c4, rfl, ho4, hb4⟩; replace c2 := (hb4.cell (World.block_lt_of_cell? w2.drew _ c2)).trans c2)))
           | go_simp
         refine hK.out _ _ ?_ (fun hHeld => ?_)
         · ((try dsimp only); exact c2)
         clear hK K
         try simp only [Act.put, List.setIfInBounds_toArray, List.set_cons_zero, List.set_cons_succ])
    first
      | (refine WalkU.take (i := 1) (v := ?_) rfl (by kernel_rfl) (by kernel_rfl) (by kernel_rfl) (by kernel_rfl) (fun _ _ _ h => h) (Or.inl ⟨by rfl, ?_⟩) hHeld ?_
         rotate_left
         · (intro w hSw; (try dsimp only at hSw); go_simp; try with_reducible rfl)
         try simp only [Act.put, List.setIfInBounds_toArray, List.set_cons_zero, List.set_cons_succ])
      | (refine WalkU.take (i := 1) (v := undef) rfl (by kernel_rfl) (by kernel_rfl) (by kernel_rfl) (by kernel_rfl) (fun _ _ _ h => h) (Or.inr ⟨by rfl, rfl⟩) hHeld ?_
         try simp only [Act.put, List.setIfInBounds_toArray, List.set_cons_zero, List.set_cons_succ])
      | (refine WalkU.one (i := 1) rfl (by kernel_rfl) (fun K hK => ?_)
         first
           | (first | (go_at_call 30; (with_reducible refine (copyInts_any _ _ _ _ _ (by omega) (i2.drew.below hb4)).mono ?_); rintro e w5 ⟨p5, c5, rfl, ho5, hb5⟩; replace c2 := (hb5.cell (World.block_lt_of_cell? w4 _ c2)).trans c2) | (go_at_call 30; (with_reducible refine (copyInts_any _ _ _ _ _ (by omega) i2.drew).mono ?_); rintro e w4 ⟨p4, c4, rfl, ho4, hb4⟩; replace c2 := (hb4.cell (World.block_lt_of_cell? w2.drew _ c2)).trans c2))
           | (go_simp; (first | (go_at_call 30; (with_reducible refine (copyInts_any _ _ _ _ _ (by omega) (i2.drew.below hb4)).mono ?_); rintro e w5 ⟨p5, c5, rfl, ho5, hb5⟩; replace c2 := (hb5.cell (World.block_lt_of_cell? w4 _ c2)).trans c2) | (go_at_call 30; (with_reducible refine (copyInts_any _ _ _ _ _ (by omega) i2.drew).mono ?_); rintro e w4 ⟨p4, c4, rfl, ho4, hb4⟩; replace c2 := (hb4.cell (World.block_lt_of_cell? w2.drew _ c2)).trans c2)))
           | go_simp
         refine hK.out _ _ ?_ (fun hHeld => ?_)
         · ((try dsimp only); exact c2)
         clear hK K
         try simp only [Act.put, List.setIfInBounds_toArray, List.set_cons_zero, List.set_cons_succ])
    first
      | (refine WalkU.take (i := 2) (v := ?_) rfl (by kernel_rfl) (by kernel_rfl) (by kernel_rfl) (by kernel_rfl) (fun _ _ _ h => h) (Or.inl ⟨by rfl, ?_⟩) hHeld ?_
         rotate_left
         · (intro w hSw; (try dsimp only at hSw); go_simp; try with_reducible rfl)
         try simp only [Act.put, List.setIfInBounds_toArray, List.set_cons_zero, List.set_cons_succ])
      | (refine WalkU.take (i := 2) (v := undef) rfl (by kernel_rfl) (by kernel_rfl) (by kernel_rfl) (by kernel_rfl) (fun _ _ _ h => h) (Or.inr ⟨by rfl, rfl⟩) hHeld ?_
         try simp only [Act.put, List.setIfInBounds_toArray, List.set_cons_zero, List.set_cons_succ])
      | (refine WalkU.one (i := 2) rfl (by kernel_rfl) (fun K hK => ?_)
         first
           | (first | (go_at_call 30; (with_reducible refine (copyInts_any _ _ _ _ _ (by omega) (i2.drew.below hb4)).mono ?_); rintro e w5 ⟨p5, c5, rfl, ho5, hb5⟩; replace c2 := (hb5.cell (World.block_lt_of_cell? w4 _ c2)).trans c2) | (go_at_call 30; (with_reducible refine (copyInts_any _ _ _ _ _ (by omega) i2.drew).mono ?_); rintro e w4 ⟨p4, c4, rfl, ho4, hb4⟩; replace c2 := (hb4.cell (World.block_lt_of_cell? w2.drew _ c2)).trans c2))
           | (go_simp; (first | (go_at_call 30; (with_reducible refine (copyInts_any _ _ _ _ _ (by omega) (i2.drew.below hb4)).mono ?_); rintro e w5 ⟨p5, c5, rfl, ho5, hb5⟩; replace c2 := (hb5.cell (World.block_lt_of_cell? w4 _ c2)).trans c2) | (go_at_call 30; (with_reducible refine (copyInts_any _ _ _ _ _ (by omega) i2.drew).mono ?_); rintro e w4 ⟨p4, c4, rfl, ho4, hb4⟩; replace c2 := (hb4.cell (World.block_lt_of_cell? w2.drew _ c2)).trans c2)))
           | go_simp
         refine hK.out _ _ ?_ (fun hHeld => ?_)
         · ((try dsimp only); exact c2)
         clear hK K
         try simp only [Act.put, List.setIfInBounds_toArray, List.set_cons_zero, List.set_cons_succ])
    first
      | (refine WalkU.take (i := 4) (v := ?_) rfl (by kernel_rfl) (by kernel_rfl) (by kernel_rfl) (by kernel_rfl) (fun _ _ _ h => h) (Or.inl ⟨by rfl, ?_⟩) hHeld ?_
         rotate_left
         · (intro w hSw; (try dsimp only at hSw); go_simp; try with_reducible rfl)
         try simp only [Act.put, List.setIfInBounds_toArray, List.set_cons_zero, List.set_cons_succ])
      | (refine WalkU.take (i := 4) (v := undef) rfl (by kernel_rfl) (by kernel_rfl) (by kernel_rfl) (by kernel_rfl) (fun _ _ _ h => h) (Or.inr ⟨by rfl, rfl⟩) hHeld ?_
         try simp only [Act.put, List.setIfInBounds_toArray, List.set_cons_zero, List.set_cons_succ])
      | (refine WalkU.one (i := 4) rfl (by kernel_rfl) (fun K hK => ?_)
         first
           | (first | (go_at_call 30; (with_reducible refine (copyInts_any _ _ _ _ _ (by omega) (i2.drew.below hb4)).mono ?_); rintro e w5 ⟨p5, c5, rfl, ho5, hb5⟩; replace c2 := (hb5.cell (World.block_lt_of_cell? w4 _ c2)).trans c2) | (go_at_call 30; (with_reducible refine (copyInts_any _ _ _ _ _ (by omega) i2.drew).mono ?_); rintro e w4 ⟨p4, c4, rfl, ho4, hb4⟩; replace c2 := (hb4.cell (World.block_lt_of_cell? w2.drew _ c2)).trans c2))
           | (go_simp; (first | (go_at_call 30; (with_reducible refine (copyInts_any _ _ _ _ _ (by omega) (i2.drew.below hb4)).mono ?_); rintro e w5 ⟨p5, c5, rfl, ho5, hb5⟩; replace c2 := (hb5.cell (World.block_lt_of_cell? w4 _ c2)).trans c2) | (go_at_call 30; (with_reducible refine (copyInts_any _ _ _ _ _ (by omega) i2.drew).mono ?_); rintro e w4 ⟨p4, c4, rfl, ho4, hb4⟩; replace c2 := (hb4.cell (World.block_lt_of_cell? w2.drew _ c2)).trans c2)))
           | go_simp
         refine hK.out _ _ ?_ (fun hHeld => ?_)
         · ((try dsimp only); exact c2)
         clear hK K
         try simp only [Act.put, List.setIfInBounds_toArray, List.set_cons_zero, List.set_cons_succ])
    first
      | (refine WalkU.take (i := 5) (v := ?_) rfl (by kernel_rfl) (by kernel_rfl) (by kernel_rfl) (by kernel_rfl) (fun _ _ _ h => h) (Or.inl ⟨by rfl, ?_⟩) hHeld ?_
         rotate_left
         · (intro w hSw; (try dsimp only at hSw); go_simp; try with_reducible rfl)
         try simp only [Act.put, List.setIfInBounds_toArray, List.set_cons_zero, List.set_cons_succ])
      | (refine WalkU.take (i := 5) (v := undef) rfl (by kernel_rfl) (by kernel_rfl) (by kernel_rfl) (by kernel_rfl) (fun _ _ _ h => h) (Or.inr ⟨by rfl, rfl⟩) hHeld ?_
         try simp only [Act.put, List.setIfInBounds_toArray, List.set_cons_zero, List.set_cons_succ])
      | (refine WalkU.one (i := 5) rfl (by kernel_rfl) (fun K hK => ?_)
         first
           | (first | (go_at_call 30; (with_reducible refine (copyInts_any _ _ _ _ _ (by omega) (i2.drew.below hb4)).mono ?_); rintro e w5 ⟨p5, c5, rfl, ho5, hb5⟩; replace c2 := (hb5.cell (World.block_lt_of_cell? w4 _ c2)).trans c2) | (go_at_call 30; (with_reducible refine (copyInts_any _ _ _ _ _ (by omega) i2.drew).mono ?_); rintro e w4 ⟨p4, c4, rfl, ho4, hb4⟩; replace c2 := (hb4.cell (World.block_lt_of_cell? w2.drew _ c2)).trans c2))
           | (go_simp; (first | (go_at_call 30; (with_reducible refine (copyInts_any _ _ _ _ _ (by omega) (i2.drew.below hb4)).mono ?_); rintro e w5 ⟨p5, c5, rfl, ho5, hb5⟩; replace c2 := (hb5.cell (World.block_lt_of_cell? w4 _ c2)).trans c2) | (go_at_call 30; (with_reducible refine (copyInts_any _ _ _ _ _ (by omega) i2.drew).mono ?_); rintro e w4 ⟨p4, c4, rfl, ho4, hb4⟩; replace c2 := (hb4.cell (World.block_lt_of_cell? w2.drew _ c2)).trans c2)))
           | go_simp
         refine hK.out _ _ ?_ (fun hHeld => ?_)
         · ((try dsimp only); exact c2)
         clear hK K
         try simp only [Act.put, List.setIfInBounds_toArray, List.set_cons_zero, List.set_cons_succ])
    first
      | (refine WalkU.take (i := 6) (v := ?_) rfl (by kernel_rfl) (by kernel_rfl) (by kernel_rfl) (by kernel_rfl) (fun _ _ _ h => h) (Or.inl ⟨by rfl, ?_⟩) hHeld ?_
         rotate_left
         · (intro w hSw; (try dsimp only at hSw); go_simp; try with_reducible rfl)
         try simp only [Act.put, List.setIfInBounds_toArray, List.set_cons_zero, List.set_cons_succ])
      | (refine WalkU.take (i := 6) (v := undef) rfl (by kernel_rfl) (by kernel_rfl) (by kernel_rfl) (by kernel_rfl) (fun _ _ _ h => h) (Or.inr ⟨by rfl, rfl⟩) hHeld ?_
         try simp only [Act.put, List.setIfInBounds_toArray, List.set_cons_zero, List.set_cons_succ])
      | (refine WalkU.one (i := 6) rfl (by kernel_rfl) (fun K hK => ?_)
         first
           | (first | (go_at_call 30; (with_reducible refine (copyInts_any _ _ _ _ _ (by omega) (i2.drew.below hb4)).mono ?_); rintro e w5 ⟨p5, c5, rfl, ho5, hb5⟩; replace c2 := (hb5.cell (World.block_lt_of_cell? w4 _ c2)).trans c2) | (go_at_call 30; (with_reducible refine (copyInts_any _ _ _ _ _ (by omega) i2.drew).mono ?_); rintro e w4 ⟨p4, c4, rfl, ho4, hb4⟩; replace c2 := (hb4.cell (World.block_lt_of_cell? w2.drew _ c2)).trans c2))
           | (go_simp; (first | (go_at_call 30; (with_reducible refine (copyInts_any _ _ _ _ _ (by omega) (i2.drew.below hb4)).mono ?_); rintro e w5 ⟨p5, c5, rfl, ho5, hb5⟩; replace c2 := (hb5.cell (World.block_lt_of_cell? w4 _ c2)).trans c2) | (go_at_call 30; (with_reducible refine (copyInts_any _ _ _ _ _ (by omega) i2.drew).mono ?_); rintro e w4 ⟨p4, c4, rfl, ho4, hb4⟩; replace c2 := (hb4.cell (World.block_lt_of_cell? w2.drew _ c2)).trans c2)))
           | go_simp
         refine hK.out _ _ ?_ (fun hHeld => ?_)
         · ((try dsimp only); exact c2)
         clear hK K
         try simp only [Act.put, List.setIfInBounds_toArray, List.set_cons_zero, List.set_cons_succ])
    first
      | (refine WalkU.take (i := 3) (v := ?_) rfl (by kernel_rfl) (by kernel_rfl) (by kernel_rfl) (by kernel_rfl) (fun _ _ _ h => h) (Or.inl ⟨by rfl, ?_⟩) hHeld ?_
         rotate_left
         · (intro w hSw; (try dsimp only at hSw); go_simp; try with_reducible rfl)
         try simp only [Act.put, List.setIfInBounds_toArray, List.set_cons_zero, List.set_cons_succ])
      | (refine WalkU.take (i := 3) (v := undef) rfl (by kernel_rfl) (by kernel_rfl) (by kernel_rfl) (by kernel_rfl) (fun _ _ _ h => h) (Or.inr ⟨by rfl, rfl⟩) hHeld ?_
         try simp only [Act.put, List.setIfInBounds_toArray, List.set_cons_zero, List.set_cons_succ])
      | (refine WalkU.one (i := 3) rfl (by kernel_rfl) (fun K hK => ?_)
         first
           | (first | (go_at_call 30; (with_reducible refine (copyInts_any _ _ _ _ _ (by omega) (i2.drew.below hb4)).mono ?_); rintro e w5 ⟨p5, c5, rfl, ho5, hb5⟩; replace c2 := (hb5.cell (World.block_lt_of_cell? w4 _ c2)).trans c2) | (go_at_call 30; (with_reducible refine (copyInts_any _ _ _ _ _ (by omega) i2.drew).mono ?_); rintro e w4 ⟨p4, c4, rfl, ho4, hb4⟩; replace c2 := (hb4.cell (World.block_lt_of_cell? w2.drew _ c2)).trans c2))
           | (go_simp; (first | (go_at_call 30; (with_reducible refine (copyInts_any _ _ _ _ _ (by omega) (i2.drew.below hb4)).mono ?_); rintro e w5 ⟨p5, c5, rfl, ho5, hb5⟩; replace c2 := (hb5.cell (World.block_lt_of_cell? w4 _ c2)).trans c2) | (go_at_call 30; (with_reducible refine (copyInts_any _ _ _ _ _ (by omega) i2.drew).mono ?_); rintro e w4 ⟨p4, c4, rfl, ho4, hb4⟩; replace c2 := (hb4.cell (World.block_lt_of_cell? w2.drew _ c2)).trans c2)))
           | go_simp
         refine hK.out _ _ ?_ (fun hHeld => ?_)
         · ((try dsimp only); exact c2)
         clear hK K
         try simp only [Act.put, List.setIfInBounds_toArray, List.set_cons_zero, List.set_cons_succ])
    first
      | (refine WalkU.take (i := 7) (v := ?_) rfl (by kernel_rfl) (by kernel_rfl) (by kernel_rfl) (by kernel_rfl) (fun _ _ _ h => h) (Or.inl ⟨by rfl, ?_⟩) hHeld ?_
         rotate_left
         · (intro w hSw; (try dsimp only at hSw); go_simp; try with_reducible rfl)
         try simp only [Act.put, List.setIfInBounds_toArray, List.set_cons_zero, List.set_cons_succ])
      | (refine WalkU.take (i := 7) (v := undef) rfl (by kernel_rfl) (by kernel_rfl) (by kernel_rfl) (by kernel_rfl) (fun _ _ _ h => h) (Or.inr ⟨by rfl, rfl⟩) hHeld ?_
         try simp only [Act.put, List.setIfInBounds_toArray, List.set_cons_zero, List.set_cons_succ])
      | (refine WalkU.one (i := 7) rfl (by kernel_rfl) (fun K hK => ?_)
         first
           | (first | (go_at_call 30; (with_reducible refine (copyInts_any _ _ _ _ _ (by omega) (i2.drew.below hb4)).mono ?_); rintro e w5 ⟨p5, c5, rfl, ho5, hb5⟩; replace c2 := (hb5.cell (World.block_lt_of_cell? w4 _ c2)).trans c2) | (go_at_call 30; (with_reducible refine (copyInts_any _ _ _ _ _ (by omega) i2.drew).mono ?_); rintro e w4 ⟨p4, c4, rfl, ho4, hb4⟩; replace c2 := (hb4.cell (World.block_lt_of_cell? w2.drew _ c2)).trans c2))
           | (go_simp; (first | (go_at_call 30; (with_reducible refine (copyInts_any _ _ _ _ _ (by omega) (i2.drew.below hb4)).mono ?_); rintro e w5 ⟨p5, c5, rfl, ho5, hb5⟩; replace c2 := (hb5.cell (World.block_lt_of_cell? w4 _ c2)).trans c2) | (go_at_call 30; (with_reducible refine (copyInts_any _ _ _ _ _ (by omega) i2.drew).mono ?_); rintro e w4 ⟨p4, c4, rfl, ho4, hb4⟩; replace c2 := (hb4.cell (World.block_lt_of_cell? w2.drew _ c2)).trans c2)))
           | go_simp
         refine hK.out _ _ ?_ (fun hHeld => ?_)
         · ((try dsimp only); exact c2)
         clear hK K
         try simp only [Act.put, List.setIfInBounds_toArray, List.set_cons_zero, List.set_cons_succ])
    first
      | (refine WalkU.take (i := 8) (v := ?_) rfl (by kernel_rfl) (by kernel_rfl) (by kernel_rfl) (by kernel_rfl) (fun _ _ _ h => h) (Or.inl ⟨by rfl, ?_⟩) hHeld ?_
         rotate_left
         · (intro w hSw; (try dsimp only at hSw); go_simp; try with_reducible rfl)
         try simp only [Act.put, List.setIfInBounds_toArray, List.set_cons_zero, List.set_cons_succ])
      | (refine WalkU.take (i := 8) (v := undef) rfl (by kernel_rfl) (by kernel_rfl) (by kernel_rfl) (by kernel_rfl) (fun _ _ _ h => h) (Or.inr ⟨by rfl, rfl⟩) hHeld ?_
         try simp only [Act.put, List.setIfInBounds_toArray, List.set_cons_zero, List.set_cons_succ])
      | (refine WalkU.one (i := 8) rfl (by kernel_rfl) (fun K hK => ?_)
         first
           | (first | (go_at_call 30; (with_reducible refine (copyInts_any _ _ _ _ _ (by omega) (i2.drew.below hb4)).mono ?_); rintro e w5 ⟨p5, c5, rfl, ho5, hb5⟩; replace c2 := (hb5.cell (World.block_lt_of_cell? w4 _ c2)).trans c2) | (go_at_call 30; (with_reducible refine (copyInts_any _ _ _ _ _ (by omega) i2.drew).mono ?_); rintro e w4 ⟨p4, c4, rfl, ho4, hb4⟩; replace c2 := (hb4.cell (World.block_lt_of_cell? w2.drew _ c2)).trans c2))
           | (go_simp; (first | (go_at_call 30; (with_reducible refine (copyInts_any _ _ _ _ _ (by omega) (i2.drew.below hb4)).mono ?_); rintro e w5 ⟨p5, c5, rfl, ho5, hb5⟩; replace c2 := (hb5.cell (World.block_lt_of_cell? w4 _ c2)).trans c2) | (go_at_call 30; (with_reducible refine (copyInts_any _ _ _ _ _ (by omega) i2.drew).mono ?_); rintro e w4 ⟨p4, c4, rfl, ho4, hb4⟩; replace c2 := (hb4.cell (World.block_lt_of_cell? w2.drew _ c2)).trans c2)))
           | go_simp
         refine hK.out _ _ ?_ (fun hHeld => ?_)
         · ((try dsimp only); exact c2)
         clear hK K
         try simp only [Act.put, List.setIfInBounds_toArray, List.set_cons_zero, List.set_cons_succ])
    first
      | (refine WalkU.last (i := 9) rfl rfl (by kernel_rfl) (by kernel_rfl) (fun K hK => ?_)
         first
           | (first | (go_at_call 30; (with_reducible refine (copyInts_any _ _ _ _ _ (by omega) (i2.drew.below hb4)).mono ?_); rintro e w5 ⟨p5, c5, rfl, ho5, hb5⟩; replace c2 := (hb5.cell (World.block_lt_of_cell? w4 _ c2)).trans c2) | (go_at_call 30; (with_reducible refine (copyInts_any _ _ _ _ _ (by omega) i2.drew).mono ?_); rintro e w4 ⟨p4, c4, rfl, ho4, hb4⟩; replace c2 := (hb4.cell (World.block_lt_of_cell? w2.drew _ c2)).trans c2))
           | (go_simp; (first | (go_at_call 30; (with_reducible refine (copyInts_any _ _ _ _ _ (by omega) (i2.drew.below hb4)).mono ?_); rintro e w5 ⟨p5, c5, rfl, ho5, hb5⟩; replace c2 := (hb5.cell (World.block_lt_of_cell? w4 _ c2)).trans c2) | (go_at_call 30; (with_reducible refine (copyInts_any _ _ _ _ _ (by omega) i2.drew).mono ?_); rintro e w4 ⟨p4, c4, rfl, ho4, hb4⟩; replace c2 := (hb4.cell (World.block_lt_of_cell? w2.drew _ c2)).trans c2)))
           | go_simp
         refine hK.out _ _ ?_
         clear hK K
         try simp only [Act.put, List.setIfInBounds_toArray, List.set_cons_zero, List.set_cons_succ])
    go_wp2_with fail
    have hs2 : w2.heap.size ≤ w4.heap.size := hb4.size
    have hs4 : w4.heap.size ≤ w5.heap.size := hb5.size
    have hbB : Below w2.heap.size w2 w5 := Below.step (Below.step (drewBelow w2) hb4) hb5
    obtain ⟨g4, rfl⟩ := ho4.some_ (by omega)
    obtain ⟨g5, rfl⟩ := ho5.some_ (by omega)
    have l4 : w2.heap.size ≤ g4 ∧ g4 < w4.heap.size := by have := ho4.lt _ rfl; exact ⟨this.1, this.2.1⟩
    have l5 : w4.heap.size ≤ g5 := (ho5.lt _ rfl).1
    have hD : Duo w5 w2.heap.size g4 g5 2 c4 c5 (nthR xss 0) (nthR xss 0) := ⟨(ho4.below hb5).tight, ho5.tight, by omega, l4.1, by omega⟩
    clear ho4 ho5 l4 l5 hb4 hb5
    go_loopw [29] (fun i wr => ∃ (k : Nat) (L H : List Int), k ≤ n ∧ i = .int .i64 k ∧ Duo wr w2.heap.size g4 g5 2 c4 c5 L H ∧ Hid (∀ j, j < 2 → nth L j = mnTo xss j k ∧ nth H j = mxTo xss j k) ∧ Below w2.heap.size w2 wr) (fun i _ => n - (intOf i).toNat)
    case atStart => exact ⟨0, _, _, Nat.zero_le _, rfl, hD, Lib.hid fun j hj => ⟨rfl, rfl⟩, hbB⟩
    case round =>
      clear hD hbB
      obtain ⟨k, L, H, hk, rfl, hD, hLH, hb⟩ := hrel
      by_cases hlt : k < n
      · obtain ⟨q1, d1, c1, _, i1⟩ := hx.row2 rfl hlt (Hp.out k hlt).len
        have hbl1 := World.block_lt_of_cell? w _ c1
        have hbw := Below.step hb3 hb
        replace c1 := (hbw.cell hbl1).trans c1
        have i1' := i1.below hbw
        obtain ⟨bx, ox, rfl⟩ : ∃ bx ox, q1 = some ⟨bx, ox, none⟩ := by
          obtain ⟨bx, ox, e, _⟩ := i1.cell 0 (by omega)
          exact ⟨bx, ox, e⟩
        have hd1 : decide ((k : Int) < (n : Int)) = true := by simp; omega
        generalize wr = W1 at *
        go_wp2_with fail
        go_loopw [35] (fun i wr => ∃ (j : Nat) (L2 H2 : List Int), j ≤ 2 ∧ i = .int .i64 j ∧ Duo wr w2.heap.size g4 g5 2 c4 c5 L2 H2 ∧ Hid (∀ i, i < 2 → nth L2 i = (if i < j then mnTo xss i (k + 1) else mnTo xss i k) ∧ nth H2 i = (if i < j then mxTo xss i (k + 1) else mxTo xss i k)) ∧ Below w2.heap.size w2 wr) (fun i _ => 2 - (intOf i).toNat)
        case atStart => exact ⟨0, L, H, Nat.zero_le _, rfl, hD, Lib.hid fun i hi => by simpa using hLH.out i hi, hb⟩
        case round =>
          clear hD hLH hb
          obtain ⟨j, L2, H2, hj, rfl, hD, hLH, hb⟩ := hrel
          by_cases hlt2 : j < 2
          · generalize wr = W2 at *
            have hbw2 := Below.step hb3 hb
            obtain ⟨bx', ox', e', cx⟩ := (i1.below hbw2).cell j hlt2
            injection e' with e'; injection e' with e1 e2
            subst e1; subst e2
            have ca := hD.a.cell hlt2
            have cb := hD.b.cell hlt2
            have fa := hD.a.frozen j
            have fb := hD.b.frozen j
            have hj0 : (0 : Int) ≤ (j : Int) := by omega
            have hj2 : (j : Int) < 2 := by omega
            have hd2 : decide ((j : Int) < 2) = true := by simp; omega
            have hm := hLH.out j hlt2
            rw [if_neg (Nat.lt_irrefl _), if_neg (Nat.lt_irrefl _)] at hm
            have Hm := Lib.hid hm
            clear hm
            have fc : ∀ v : Int, (W2.setCell ⟨g4, j, none⟩ (.int .i64 v)).cell? ⟨g5, j, none⟩ = some (.int .i64 (nth H2 j)) := fun v => (hD.setA j v).b.cell hlt2
            have ff : ∀ v : Int, (W2.setCell ⟨g4, j, none⟩ (.int .i64 v)).frozen? ⟨g5, j, none⟩ = false := fun v => (hD.setA j v).b.frozen j
            generalize hA1 : nth L2 j = A1 at *
            generalize hA2 : nth H2 j = A2 at *
            generalize hA3 : nth (nthR xss k) j = A3 at *
            have HA1 := Lib.hid hA1
            have HA2 := Lib.hid hA2
            have HA3 := Lib.hid hA3
            clear hA1 hA2 hA3
            go_wp2_with fail
            refine wp_region_l [2, 3, 21, 22, 23, 24, 25] 26 (fun w' => w'.cell? ⟨g4, j, none⟩ = some (.int .i64 A1) ∧ w'.cell? ⟨g5, j, none⟩ = some (.int .i64 A2) ∧ w'.cell? ⟨bx, ox + j, none⟩ = some (.int .i64 A3)) (by kernel_rfl) rfl (by (try dsimp only); exact ⟨ca, cb, cx⟩) (fun hHeld => ?_)
            first
              | (refine WalkL.takeLate (i := 2) (v := ?_) rfl (by decide) (by kernel_rfl) (by kernel_rfl) (by kernel_rfl) (fun _ _ _ h => h) (Or.inl ⟨by rfl, ?_⟩) ?_
                 rotate_left
                 · (intro w hSw; (try dsimp only at hSw); go_simp; try with_reducible rfl)
                 try simp only [Act.put, List.setIfInBounds_toArray, List.set_cons_zero, List.set_cons_succ])
              | (refine WalkL.takeLate (i := 2) (v := undef) rfl (by decide) (by kernel_rfl) (by kernel_rfl) (by kernel_rfl) (fun _ _ _ h => h) (Or.inr ⟨by rfl, rfl⟩) ?_
                 try simp only [Act.put, List.setIfInBounds_toArray, List.set_cons_zero, List.set_cons_succ])
              | (refine WalkL.oneLate (i := 2) rfl (by decide) (by kernel_rfl) (fun K hK => ?_)
                 first
                   | (first | fail)
                   | (go_simp; (first | fail))
                   | go_simp
                 refine hK.out _ _ ?_
                 clear hK K
                 try simp only [Act.put, List.setIfInBounds_toArray, List.set_cons_zero, List.set_cons_succ])
            first
              | (refine WalkL.takeLate (i := 3) (v := ?_) rfl (by decide) (by kernel_rfl) (by kernel_rfl) (by kernel_rfl) (fun _ _ _ h => h) (Or.inl ⟨by rfl, ?_⟩) ?_
                 rotate_left
                 · (intro w hSw; (try dsimp only at hSw); go_simp; try with_reducible rfl)
                 try simp only [Act.put, List.setIfInBounds_toArray, List.set_cons_zero, List.set_cons_succ])
              | (refine WalkL.takeLate (i := 3) (v := undef) rfl (by decide) (by kernel_rfl) (by kernel_rfl) (by kernel_rfl) (fun _ _ _ h => h) (Or.inr ⟨by rfl, rfl⟩) ?_
                 try simp only [Act.put, List.setIfInBounds_toArray, List.set_cons_zero, List.set_cons_succ])
              | (refine WalkL.oneLate (i := 3) rfl (by decide) (by kernel_rfl) (fun K hK => ?_)
                 first
                   | (first | fail)
                   | (go_simp; (first | fail))
                   | go_simp
                 refine hK.out _ _ ?_
                 clear hK K
                 try simp only [Act.put, List.setIfInBounds_toArray, List.set_cons_zero, List.set_cons_succ])
            first
              | (refine WalkL.take (i := 13) (v := ?_) rfl (by kernel_rfl) (by kernel_rfl) (by kernel_rfl) (by kernel_rfl) (fun _ _ _ h => h) (Or.inl ⟨by rfl, ?_⟩) hHeld ?_
                 rotate_left
                 · (intro w hSw; (try dsimp only at hSw); go_simp; try with_reducible rfl)
                 try simp only [Act.put, List.setIfInBounds_toArray, List.set_cons_zero, List.set_cons_succ])
              | (refine WalkL.take (i := 13) (v := undef) rfl (by kernel_rfl) (by kernel_rfl) (by kernel_rfl) (by kernel_rfl) (fun _ _ _ h => h) (Or.inr ⟨by rfl, rfl⟩) hHeld ?_
                 try simp only [Act.put, List.setIfInBounds_toArray, List.set_cons_zero, List.set_cons_succ])
              | (refine WalkL.one (i := 13) rfl (by kernel_rfl) (fun K hK => ?_)
                 first
                   | (first | fail)
                   | (go_simp; (first | fail))
                   | go_simp
                 refine hK.out _ _ ?_ (fun hHeld => ?_)
                 · ((try dsimp only); exact ⟨ca, cb, cx⟩)
                 clear hK K
                 try simp only [Act.put, List.setIfInBounds_toArray, List.set_cons_zero, List.set_cons_succ])
            first
              | (refine WalkL.take (i := 14) (v := ?_) rfl (by kernel_rfl) (by kernel_rfl) (by kernel_rfl) (by kernel_rfl) (fun _ _ _ h => h) (Or.inl ⟨by rfl, ?_⟩) hHeld ?_
                 rotate_left
                 · (intro w hSw; (try dsimp only at hSw); go_simp; try with_reducible rfl)
                 try simp only [Act.put, List.setIfInBounds_toArray, List.set_cons_zero, List.set_cons_succ])
              | (refine WalkL.take (i := 14) (v := undef) rfl (by kernel_rfl) (by kernel_rfl) (by kernel_rfl) (by kernel_rfl) (fun _ _ _ h => h) (Or.inr ⟨by rfl, rfl⟩) hHeld ?_
                 try simp only [Act.put, List.setIfInBounds_toArray, List.set_cons_zero, List.set_cons_succ])
              | (refine WalkL.one (i := 14) rfl (by kernel_rfl) (fun K hK => ?_)
                 first
                   | (first | fail)
                   | (go_simp; (first | fail))
                   | go_simp
                 refine hK.out _ _ ?_ (fun hHeld => ?_)
                 · ((try dsimp only); exact ⟨ca, cb, cx⟩)
                 clear hK K
                 try simp only [Act.put, List.setIfInBounds_toArray, List.set_cons_zero, List.set_cons_succ])
            first
              | (refine WalkL.take (i := 15) (v := ?_) rfl (by kernel_rfl) (by kernel_rfl) (by kernel_rfl) (by kernel_rfl) (fun _ _ _ h => h) (Or.inl ⟨by rfl, ?_⟩) hHeld ?_
                 rotate_left
                 · (intro w hSw; (try dsimp only at hSw); go_simp; try with_reducible rfl)
                 try simp only [Act.put, List.setIfInBounds_toArray, List.set_cons_zero, List.set_cons_succ])
              | (refine WalkL.take (i := 15) (v := undef) rfl (by kernel_rfl) (by kernel_rfl) (by kernel_rfl) (by kernel_rfl) (fun _ _ _ h => h) (Or.inr ⟨by rfl, rfl⟩) hHeld ?_
                 try simp only [Act.put, List.setIfInBounds_toArray, List.set_cons_zero, List.set_cons_succ])
              | (refine WalkL.one (i := 15) rfl (by kernel_rfl) (fun K hK => ?_)
                 first
                   | (first | fail)
                   | (go_simp; (first | fail))
                   | go_simp
                 refine hK.out _ _ ?_ (fun hHeld => ?_)
                 · ((try dsimp only); exact ⟨ca, cb, cx⟩)
                 clear hK K
                 try simp only [Act.put, List.setIfInBounds_toArray, List.set_cons_zero, List.set_cons_succ])
            first
              | (refine WalkL.take (i := 16) (v := ?_) rfl (by kernel_rfl) (by kernel_rfl) (by kernel_rfl) (by kernel_rfl) (fun _ _ _ h => h) (Or.inl ⟨by rfl, ?_⟩) hHeld ?_
                 rotate_left
                 · (intro w hSw; (try dsimp only at hSw); go_simp; try with_reducible rfl)
                 try simp only [Act.put, List.setIfInBounds_toArray, List.set_cons_zero, List.set_cons_succ])
              | (refine WalkL.take (i := 16) (v := undef) rfl (by kernel_rfl) (by kernel_rfl) (by kernel_rfl) (by kernel_rfl) (fun _ _ _ h => h) (Or.inr ⟨by rfl, rfl⟩) hHeld ?_
                 try simp only [Act.put, List.setIfInBounds_toArray, List.set_cons_zero, List.set_cons_succ])
              | (refine WalkL.one (i := 16) rfl (by kernel_rfl) (fun K hK => ?_)
                 first
                   | (first | fail)
                   | (go_simp; (first | fail))
                   | go_simp
                 refine hK.out _ _ ?_ (fun hHeld => ?_)
                 · ((try dsimp only); exact ⟨ca, cb, cx⟩)
                 clear hK K
                 try simp only [Act.put, List.setIfInBounds_toArray, List.set_cons_zero, List.set_cons_succ])
            first
              | (refine WalkL.take (i := 17) (v := ?_) rfl (by kernel_rfl) (by kernel_rfl) (by kernel_rfl) (by kernel_rfl) (fun _ _ _ h => h) (Or.inl ⟨by rfl, ?_⟩) hHeld ?_
                 rotate_left
                 · (intro w hSw; (try dsimp only at hSw); go_simp; try with_reducible rfl)
                 try simp only [Act.put, List.setIfInBounds_toArray, List.set_cons_zero, List.set_cons_succ])
              | (refine WalkL.take (i := 17) (v := undef) rfl (by kernel_rfl) (by kernel_rfl) (by kernel_rfl) (by kernel_rfl) (fun _ _ _ h => h) (Or.inr ⟨by rfl, rfl⟩) hHeld ?_
                 try simp only [Act.put, List.setIfInBounds_toArray, List.set_cons_zero, List.set_cons_succ])
              | (refine WalkL.one (i := 17) rfl (by kernel_rfl) (fun K hK => ?_)
                 first
                   | (first | fail)
                   | (go_simp; (first | fail))
                   | go_simp
                 refine hK.out _ _ ?_ (fun hHeld => ?_)
                 · ((try dsimp only); exact ⟨ca, cb, cx⟩)
                 clear hK K
                 try simp only [Act.put, List.setIfInBounds_toArray, List.set_cons_zero, List.set_cons_succ])
            first
              | (refine WalkL.take (i := 18) (v := ?_) rfl (by kernel_rfl) (by kernel_rfl) (by kernel_rfl) (by kernel_rfl) (fun _ _ _ h => h) (Or.inl ⟨by rfl, ?_⟩) hHeld ?_
                 rotate_left
                 · (intro w hSw; (try dsimp only at hSw); go_simp; try with_reducible rfl)
                 try simp only [Act.put, List.setIfInBounds_toArray, List.set_cons_zero, List.set_cons_succ])
              | (refine WalkL.take (i := 18) (v := undef) rfl (by kernel_rfl) (by kernel_rfl) (by kernel_rfl) (by kernel_rfl) (fun _ _ _ h => h) (Or.inr ⟨by rfl, rfl⟩) hHeld ?_
                 try simp only [Act.put, List.setIfInBounds_toArray, List.set_cons_zero, List.set_cons_succ])
              | (refine WalkL.one (i := 18) rfl (by kernel_rfl) (fun K hK => ?_)
                 first
                   | (first | fail)
                   | (go_simp; (first | fail))
                   | go_simp
                 refine hK.out _ _ ?_ (fun hHeld => ?_)
                 · ((try dsimp only); exact ⟨ca, cb, cx⟩)
                 clear hK K
                 try simp only [Act.put, List.setIfInBounds_toArray, List.set_cons_zero, List.set_cons_succ])
            first
              | (refine WalkL.take (i := 19) (v := ?_) rfl (by kernel_rfl) (by kernel_rfl) (by kernel_rfl) (by kernel_rfl) (fun _ _ _ h => h) (Or.inl ⟨by rfl, ?_⟩) hHeld ?_
                 rotate_left
                 · (intro w hSw; (try dsimp only at hSw); go_simp; try with_reducible rfl)
                 try simp only [Act.put, List.setIfInBounds_toArray, List.set_cons_zero, List.set_cons_succ])
              | (refine WalkL.take (i := 19) (v := undef) rfl (by kernel_rfl) (by kernel_rfl) (by kernel_rfl) (by kernel_rfl) (fun _ _ _ h => h) (Or.inr ⟨by rfl, rfl⟩) hHeld ?_
                 try simp only [Act.put, List.setIfInBounds_toArray, List.set_cons_zero, List.set_cons_succ])
              | (refine WalkL.one (i := 19) rfl (by kernel_rfl) (fun K hK => ?_)
                 first
                   | (first | fail)
                   | (go_simp; (first | fail))
                   | go_simp
                 refine hK.out _ _ ?_ (fun hHeld => ?_)
                 · ((try dsimp only); exact ⟨ca, cb, cx⟩)
                 clear hK K
                 try simp only [Act.put, List.setIfInBounds_toArray, List.set_cons_zero, List.set_cons_succ])
            first
              | (refine WalkL.take (i := 20) (v := ?_) rfl (by kernel_rfl) (by kernel_rfl) (by kernel_rfl) (by kernel_rfl) (fun _ _ _ h => h) (Or.inl ⟨by rfl, ?_⟩) hHeld ?_
                 rotate_left
                 · (intro w hSw; (try dsimp only at hSw); go_simp; try with_reducible rfl)
                 try simp only [Act.put, List.setIfInBounds_toArray, List.set_cons_zero, List.set_cons_succ])
              | (refine WalkL.take (i := 20) (v := undef) rfl (by kernel_rfl) (by kernel_rfl) (by kernel_rfl) (by kernel_rfl) (fun _ _ _ h => h) (Or.inr ⟨by rfl, rfl⟩) hHeld ?_
                 try simp only [Act.put, List.setIfInBounds_toArray, List.set_cons_zero, List.set_cons_succ])
              | (refine WalkL.one (i := 20) rfl (by kernel_rfl) (fun K hK => ?_)
                 first
                   | (first | fail)
                   | (go_simp; (first | fail))
                   | go_simp
                 refine hK.out _ _ ?_ (fun hHeld => ?_)
                 · ((try dsimp only); exact ⟨ca, cb, cx⟩)
                 clear hK K
                 try simp only [Act.put, List.setIfInBounds_toArray, List.set_cons_zero, List.set_cons_succ])
            first
              | (refine WalkL.takeLate (i := 21) (v := ?_) rfl (by decide) (by kernel_rfl) (by kernel_rfl) (by kernel_rfl) (fun _ _ _ h => h) (Or.inl ⟨by rfl, ?_⟩) ?_
                 rotate_left
                 · (intro w hSw; (try dsimp only at hSw); go_simp; try with_reducible rfl)
                 try simp only [Act.put, List.setIfInBounds_toArray, List.set_cons_zero, List.set_cons_succ])
              | (refine WalkL.takeLate (i := 21) (v := undef) rfl (by decide) (by kernel_rfl) (by kernel_rfl) (by kernel_rfl) (fun _ _ _ h => h) (Or.inr ⟨by rfl, rfl⟩) ?_
                 try simp only [Act.put, List.setIfInBounds_toArray, List.set_cons_zero, List.set_cons_succ])
              | (refine WalkL.oneLate (i := 21) rfl (by decide) (by kernel_rfl) (fun K hK => ?_)
                 first
                   | (first | fail)
                   | (go_simp; (first | fail))
                   | go_simp
                 refine hK.out _ _ ?_
                 clear hK K
                 try simp only [Act.put, List.setIfInBounds_toArray, List.set_cons_zero, List.set_cons_succ])
            first
              | (refine WalkL.take (i := 0) (v := ?_) rfl (by kernel_rfl) (by kernel_rfl) (by kernel_rfl) (by kernel_rfl) (fun _ _ _ h => h) (Or.inl ⟨by rfl, ?_⟩) hHeld ?_
                 rotate_left
                 · (intro w hSw; (try dsimp only at hSw); go_simp; try with_reducible rfl)
                 try simp only [Act.put, List.setIfInBounds_toArray, List.set_cons_zero, List.set_cons_succ])
              | (refine WalkL.take (i := 0) (v := undef) rfl (by kernel_rfl) (by kernel_rfl) (by kernel_rfl) (by kernel_rfl) (fun _ _ _ h => h) (Or.inr ⟨by rfl, rfl⟩) hHeld ?_
                 try simp only [Act.put, List.setIfInBounds_toArray, List.set_cons_zero, List.set_cons_succ])
              | (refine WalkL.one (i := 0) rfl (by kernel_rfl) (fun K hK => ?_)
                 first
                   | (first | fail)
                   | (go_simp; (first | fail))
                   | go_simp
                 refine hK.out _ _ ?_ (fun hHeld => ?_)
                 · ((try dsimp only); exact ⟨ca, cb, cx⟩)
                 clear hK K
                 try simp only [Act.put, List.setIfInBounds_toArray, List.set_cons_zero, List.set_cons_succ])
            first
              | (refine WalkL.take (i := 1) (v := ?_) rfl (by kernel_rfl) (by kernel_rfl) (by kernel_rfl) (by kernel_rfl) (fun _ _ _ h => h) (Or.inl ⟨by rfl, ?_⟩) hHeld ?_
                 rotate_left
                 · (intro w hSw; (try dsimp only at hSw); go_simp; try with_reducible rfl)
                 try simp only [Act.put, List.setIfInBounds_toArray, List.set_cons_zero, List.set_cons_succ])
              | (refine WalkL.take (i := 1) (v := undef) rfl (by kernel_rfl) (by kernel_rfl) (by kernel_rfl) (by kernel_rfl) (fun _ _ _ h => h) (Or.inr ⟨by rfl, rfl⟩) hHeld ?_
                 try simp only [Act.put, List.setIfInBounds_toArray, List.set_cons_zero, List.set_cons_succ])
              | (refine WalkL.one (i := 1) rfl (by kernel_rfl) (fun K hK => ?_)
                 first
                   | (first | fail)
                   | (go_simp; (first | fail))
                   | go_simp
                 refine hK.out _ _ ?_ (fun hHeld => ?_)
                 · ((try dsimp only); exact ⟨ca, cb, cx⟩)
                 clear hK K
                 try simp only [Act.put, List.setIfInBounds_toArray, List.set_cons_zero, List.set_cons_succ])
            first
              | (refine WalkL.take (i := 4) (v := ?_) rfl (by kernel_rfl) (by kernel_rfl) (by kernel_rfl) (by kernel_rfl) (fun _ _ _ h => h) (Or.inl ⟨by rfl, ?_⟩) hHeld ?_
                 rotate_left
                 · (intro w hSw; (try dsimp only at hSw); go_simp; try with_reducible rfl)
                 try simp only [Act.put, List.setIfInBounds_toArray, List.set_cons_zero, List.set_cons_succ])
              | (refine WalkL.take (i := 4) (v := undef) rfl (by kernel_rfl) (by kernel_rfl) (by kernel_rfl) (by kernel_rfl) (fun _ _ _ h => h) (Or.inr ⟨by rfl, rfl⟩) hHeld ?_
                 try simp only [Act.put, List.setIfInBounds_toArray, List.set_cons_zero, List.set_cons_succ])
              | (refine WalkL.one (i := 4) rfl (by kernel_rfl) (fun K hK => ?_)
                 first
                   | (first | fail)
                   | (go_simp; (first | fail))
                   | go_simp
                 refine hK.out _ _ ?_ (fun hHeld => ?_)
                 · ((try dsimp only); exact ⟨ca, cb, cx⟩)
                 clear hK K
                 try simp only [Act.put, List.setIfInBounds_toArray, List.set_cons_zero, List.set_cons_succ])
            first
              | (refine WalkL.take (i := 5) (v := ?_) rfl (by kernel_rfl) (by kernel_rfl) (by kernel_rfl) (by kernel_rfl) (fun _ _ _ h => h) (Or.inl ⟨by rfl, ?_⟩) hHeld ?_
                 rotate_left
                 · (intro w hSw; (try dsimp only at hSw); go_simp; try with_reducible rfl)
                 try simp only [Act.put, List.setIfInBounds_toArray, List.set_cons_zero, List.set_cons_succ])
              | (refine WalkL.take (i := 5) (v := undef) rfl (by kernel_rfl) (by kernel_rfl) (by kernel_rfl) (by kernel_rfl) (fun _ _ _ h => h) (Or.inr ⟨by rfl, rfl⟩) hHeld ?_
                 try simp only [Act.put, List.setIfInBounds_toArray, List.set_cons_zero, List.set_cons_succ])
              | (refine WalkL.one (i := 5) rfl (by kernel_rfl) (fun K hK => ?_)
                 first
                   | (first | fail)
                   | (go_simp; (first | fail))
                   | go_simp
                 refine hK.out _ _ ?_ (fun hHeld => ?_)
                 · ((try dsimp only); exact ⟨ca, cb, cx⟩)
                 clear hK K
                 try simp only [Act.put, List.setIfInBounds_toArray, List.set_cons_zero, List.set_cons_succ])
            first
              | (refine WalkL.take (i := 6) (v := ?_) rfl (by kernel_rfl) (by kernel_rfl) (by kernel_rfl) (by kernel_rfl) (fun _ _ _ h => h) (Or.inl ⟨by rfl, ?_⟩) hHeld ?_
                 rotate_left
                 · (intro w hSw; (try dsimp only at hSw); go_simp; try with_reducible rfl)
                 try simp only [Act.put, List.setIfInBounds_toArray, List.set_cons_zero, List.set_cons_succ])
              | (refine WalkL.take (i := 6) (v := undef) rfl (by kernel_rfl) (by kernel_rfl) (by kernel_rfl) (by kernel_rfl) (fun _ _ _ h => h) (Or.inr ⟨by rfl, rfl⟩) hHeld ?_
                 try simp only [Act.put, List.setIfInBounds_toArray, List.set_cons_zero, List.set_cons_succ])
              | (refine WalkL.one (i := 6) rfl (by kernel_rfl) (fun K hK => ?_)
                 first
                   | (first | fail)
                   | (go_simp; (first | fail))
                   | go_simp
                 refine hK.out _ _ ?_ (fun hHeld => ?_)
                 · ((try dsimp only); exact ⟨ca, cb, cx⟩)
                 clear hK K
                 try simp only [Act.put, List.setIfInBounds_toArray, List.set_cons_zero, List.set_cons_succ])
            first
              | (refine WalkL.take (i := 7) (v := ?_) rfl (by kernel_rfl) (by kernel_rfl) (by kernel_rfl) (by kernel_rfl) (fun _ _ _ h => h) (Or.inl ⟨by rfl, ?_⟩) hHeld ?_
                 rotate_left
                 · (intro w hSw; (try dsimp only at hSw); go_simp; try with_reducible rfl)
                 try simp only [Act.put, List.setIfInBounds_toArray, List.set_cons_zero, List.set_cons_succ])
              | (refine WalkL.take (i := 7) (v := undef) rfl (by kernel_rfl) (by kernel_rfl) (by kernel_rfl) (by kernel_rfl) (fun _ _ _ h => h) (Or.inr ⟨by rfl, rfl⟩) hHeld ?_
                 try simp only [Act.put, List.setIfInBounds_toArray, List.set_cons_zero, List.set_cons_succ])
              | (refine WalkL.one (i := 7) rfl (by kernel_rfl) (fun K hK => ?_)
                 first
                   | (first | fail)
                   | (go_simp; (first | fail))
                   | go_simp
                 refine hK.out _ _ ?_ (fun hHeld => ?_)
                 · ((try dsimp only); exact ⟨ca, cb, cx⟩)
                 clear hK K
                 try simp only [Act.put, List.setIfInBounds_toArray, List.set_cons_zero, List.set_cons_succ])
            first
              | (refine WalkL.take (i := 8) (v := ?_) rfl (by kernel_rfl) (by kernel_rfl) (by kernel_rfl) (by kernel_rfl) (fun _ _ _ h => h) (Or.inl ⟨by rfl, ?_⟩) hHeld ?_
                 rotate_left
                 · (intro w hSw; (try dsimp only at hSw); go_simp; try with_reducible rfl)
                 try simp only [Act.put, List.setIfInBounds_toArray, List.set_cons_zero, List.set_cons_succ])
              | (refine WalkL.take (i := 8) (v := undef) rfl (by kernel_rfl) (by kernel_rfl) (by kernel_rfl) (by kernel_rfl) (fun _ _ _ h => h) (Or.inr ⟨by rfl, rfl⟩) hHeld ?_
                 try simp only [Act.put, List.setIfInBounds_toArray, List.set_cons_zero, List.set_cons_succ])
              | (refine WalkL.one (i := 8) rfl (by kernel_rfl) (fun K hK => ?_)
                 first
                   | (first | fail)
                   | (go_simp; (first | fail))
                   | go_simp
                 refine hK.out _ _ ?_ (fun hHeld => ?_)
                 · ((try dsimp only); exact ⟨ca, cb, cx⟩)
                 clear hK K
                 try simp only [Act.put, List.setIfInBounds_toArray, List.set_cons_zero, List.set_cons_succ])
            first
              | (refine WalkL.take (i := 9) (v := ?_) rfl (by kernel_rfl) (by kernel_rfl) (by kernel_rfl) (by kernel_rfl) (fun _ _ _ h => h) (Or.inl ⟨by rfl, ?_⟩) hHeld ?_
                 rotate_left
                 · (intro w hSw; (try dsimp only at hSw); go_simp; try with_reducible rfl)
                 try simp only [Act.put, List.setIfInBounds_toArray, List.set_cons_zero, List.set_cons_succ])
              | (refine WalkL.take (i := 9) (v := undef) rfl (by kernel_rfl) (by kernel_rfl) (by kernel_rfl) (by kernel_rfl) (fun _ _ _ h => h) (Or.inr ⟨by rfl, rfl⟩) hHeld ?_
                 try simp only [Act.put, List.setIfInBounds_toArray, List.set_cons_zero, List.set_cons_succ])
              | (refine WalkL.one (i := 9) rfl (by kernel_rfl) (fun K hK => ?_)
                 first
                   | (first | fail)
                   | (go_simp; (first | fail))
                   | go_simp
                 refine hK.out _ _ ?_ (fun hHeld => ?_)
                 · ((try dsimp only); exact ⟨ca, cb, cx⟩)
                 clear hK K
                 try simp only [Act.put, List.setIfInBounds_toArray, List.set_cons_zero, List.set_cons_succ])
            first
              | (refine WalkL.take (i := 10) (v := ?_) rfl (by kernel_rfl) (by kernel_rfl) (by kernel_rfl) (by kernel_rfl) (fun _ _ _ h => h) (Or.inl ⟨by rfl, ?_⟩) hHeld ?_
                 rotate_left
                 · (intro w hSw; (try dsimp only at hSw); go_simp; try with_reducible rfl)
                 try simp only [Act.put, List.setIfInBounds_toArray, List.set_cons_zero, List.set_cons_succ])
              | (refine WalkL.take (i := 10) (v := undef) rfl (by kernel_rfl) (by kernel_rfl) (by kernel_rfl) (by kernel_rfl) (fun _ _ _ h => h) (Or.inr ⟨by rfl, rfl⟩) hHeld ?_
                 try simp only [Act.put, List.setIfInBounds_toArray, List.set_cons_zero, List.set_cons_succ])
              | (refine WalkL.one (i := 10) rfl (by kernel_rfl) (fun K hK => ?_)
                 first
                   | (first | fail)
                   | (go_simp; (first | fail))
                   | go_simp
                 refine hK.out _ _ ?_ (fun hHeld => ?_)
                 · ((try dsimp only); exact ⟨ca, cb, cx⟩)
                 clear hK K
                 try simp only [Act.put, List.setIfInBounds_toArray, List.set_cons_zero, List.set_cons_succ])
            first
              | (refine WalkL.take (i := 11) (v := ?_) rfl (by kernel_rfl) (by kernel_rfl) (by kernel_rfl) (by kernel_rfl) (fun _ _ _ h => h) (Or.inl ⟨by rfl, ?_⟩) hHeld ?_
                 rotate_left
                 · (intro w hSw; (try dsimp only at hSw); go_simp; try with_reducible rfl)
                 try simp only [Act.put, List.setIfInBounds_toArray, List.set_cons_zero, List.set_cons_succ])
              | (refine WalkL.take (i := 11) (v := undef) rfl (by kernel_rfl) (by kernel_rfl) (by kernel_rfl) (by kernel_rfl) (fun _ _ _ h => h) (Or.inr ⟨by rfl, rfl⟩) hHeld ?_
                 try simp only [Act.put, List.setIfInBounds_toArray, List.set_cons_zero, List.set_cons_succ])
              | (refine WalkL.one (i := 11) rfl (by kernel_rfl) (fun K hK => ?_)
                 first
                   | (first | fail)
                   | (go_simp; (first | fail))
                   | go_simp
                 refine hK.out _ _ ?_ (fun hHeld => ?_)
                 · ((try dsimp only); exact ⟨ca, cb, cx⟩)
                 clear hK K
                 try simp only [Act.put, List.setIfInBounds_toArray, List.set_cons_zero, List.set_cons_succ])
            first
              | (refine WalkL.take (i := 12) (v := ?_) rfl (by kernel_rfl) (by kernel_rfl) (by kernel_rfl) (by kernel_rfl) (fun _ _ _ h => h) (Or.inl ⟨by rfl, ?_⟩) hHeld ?_
                 rotate_left
                 · (intro w hSw; (try dsimp only at hSw); go_simp; try with_reducible rfl)
                 try simp only [Act.put, List.setIfInBounds_toArray, List.set_cons_zero, List.set_cons_succ])
              | (refine WalkL.take (i := 12) (v := undef) rfl (by kernel_rfl) (by kernel_rfl) (by kernel_rfl) (by kernel_rfl) (fun _ _ _ h => h) (Or.inr ⟨by rfl, rfl⟩) hHeld ?_
                 try simp only [Act.put, List.setIfInBounds_toArray, List.set_cons_zero, List.set_cons_succ])
              | (refine WalkL.one (i := 12) rfl (by kernel_rfl) (fun K hK => ?_)
                 first
                   | (first | fail)
                   | (go_simp; (first | fail))
                   | go_simp
                 refine hK.out _ _ ?_ (fun hHeld => ?_)
                 · ((try dsimp only); exact ⟨ca, cb, cx⟩)
                 clear hK K
                 try simp only [Act.put, List.setIfInBounds_toArray, List.set_cons_zero, List.set_cons_succ])
            first
              | (refine WalkL.takeLate (i := 22) (v := ?_) rfl (by decide) (by kernel_rfl) (by kernel_rfl) (by kernel_rfl) (fun _ _ _ h => h) (Or.inl ⟨by rfl, ?_⟩) ?_
                 rotate_left
                 · (intro w hSw; (try dsimp only at hSw); go_simp; try with_reducible rfl)
                 try simp only [Act.put, List.setIfInBounds_toArray, List.set_cons_zero, List.set_cons_succ])
              | (refine WalkL.takeLate (i := 22) (v := undef) rfl (by decide) (by kernel_rfl) (by kernel_rfl) (by kernel_rfl) (fun _ _ _ h => h) (Or.inr ⟨by rfl, rfl⟩) ?_
                 try simp only [Act.put, List.setIfInBounds_toArray, List.set_cons_zero, List.set_cons_succ])
              | (refine WalkL.oneLate (i := 22) rfl (by decide) (by kernel_rfl) (fun K hK => ?_)
                 first
                   | (first | fail)
                   | (go_simp; (first | fail))
                   | go_simp
                 refine hK.out _ _ ?_
                 clear hK K
                 try simp only [Act.put, List.setIfInBounds_toArray, List.set_cons_zero, List.set_cons_succ])
            first
              | (refine WalkL.takeLate (i := 23) (v := ?_) rfl (by decide) (by kernel_rfl) (by kernel_rfl) (by kernel_rfl) (fun _ _ _ h => h) (Or.inl ⟨by rfl, ?_⟩) ?_
                 rotate_left
                 · (intro w hSw; (try dsimp only at hSw); go_simp; try with_reducible rfl)
                 try simp only [Act.put, List.setIfInBounds_toArray, List.set_cons_zero, List.set_cons_succ])
              | (refine WalkL.takeLate (i := 23) (v := undef) rfl (by decide) (by kernel_rfl) (by kernel_rfl) (by kernel_rfl) (fun _ _ _ h => h) (Or.inr ⟨by rfl, rfl⟩) ?_
                 try simp only [Act.put, List.setIfInBounds_toArray, List.set_cons_zero, List.set_cons_succ])
              | (refine WalkL.oneLate (i := 23) rfl (by decide) (by kernel_rfl) (fun K hK => ?_)
                 first
                   | (first | fail)
                   | (go_simp; (first | fail))
                   | go_simp
                 refine hK.out _ _ ?_
                 clear hK K
                 try simp only [Act.put, List.setIfInBounds_toArray, List.set_cons_zero, List.set_cons_succ])
            first
              | (refine WalkL.takeLate (i := 24) (v := ?_) rfl (by decide) (by kernel_rfl) (by kernel_rfl) (by kernel_rfl) (fun _ _ _ h => h) (Or.inl ⟨by rfl, ?_⟩) ?_
                 rotate_left
                 · (intro w hSw; (try dsimp only at hSw); go_simp; try with_reducible rfl)
                 try simp only [Act.put, List.setIfInBounds_toArray, List.set_cons_zero, List.set_cons_succ])
              | (refine WalkL.takeLate (i := 24) (v := undef) rfl (by decide) (by kernel_rfl) (by kernel_rfl) (by kernel_rfl) (fun _ _ _ h => h) (Or.inr ⟨by rfl, rfl⟩) ?_
                 try simp only [Act.put, List.setIfInBounds_toArray, List.set_cons_zero, List.set_cons_succ])
              | (refine WalkL.oneLate (i := 24) rfl (by decide) (by kernel_rfl) (fun K hK => ?_)
                 first
                   | (first | fail)
                   | (go_simp; (first | fail))
                   | go_simp
                 refine hK.out _ _ ?_
                 clear hK K
                 try simp only [Act.put, List.setIfInBounds_toArray, List.set_cons_zero, List.set_cons_succ])
            first
              | (refine WalkL.last (i := 25) rfl (by decide) (by kernel_rfl) (by kernel_rfl) (fun K hK => ?_)
                 first
                   | (first | fail)
                   | (go_simp; (first | fail))
                   | go_simp
                 refine hK.out _ _ ?_
                 clear hK K
                 try simp only [Act.put, List.setIfInBounds_toArray, List.set_cons_zero, List.set_cons_succ])
            go_wp2_with fail
            go_roundw
            case rel =>
              have hl1 := hD.a.len
              have hl2 := hD.b.len
              refine ⟨j + 1, _, _, by omega, by go_num, ((hD.setA j _).setB j _).drew, Lib.hid fun i hi => ?_, ((hb.setCell hD.la _).setCell hD.lb _).drew⟩
              have h0 := hLH.out i hi
              have h1 := HA1.out; have h2' := HA2.out; have h3' := HA3.out; have h4 := Hm.out
              rw [nthSet (by omega), nthSet (by omega)]
              by_cases hij : i = j
              · subst hij
                rw [if_pos rfl, if_pos rfl, if_pos (Nat.lt_succ_self _), if_pos (Nat.lt_succ_self _), mnTo, mxTo, h3', ← h4.1, ← h4.2]
                constructor
                · first | rfl | (split <;> omega)
                · first | rfl | (split <;> omega)
              · rw [if_neg hij, if_neg hij, h0.1, h0.2]
                by_cases hlt3 : i < j
                · rw [if_pos hlt3, if_pos hlt3, if_pos (by omega), if_pos (by omega)]; exact ⟨rfl, rfl⟩
                · rw [if_neg hlt3, if_neg hlt3, if_neg (by omega), if_neg (by omega)]; exact ⟨rfl, rfl⟩
            case measure => simp [intOf]; omega
          · obtain rfl : j = 2 := by omega
            go_wp2_with fail
            go_roundw
            case rel => exact ⟨k + 1, L2, H2, by omega, by go_num, hD, Lib.hid fun i hi => by have := hLH.out i hi; rw [if_pos hi, if_pos hi] at this; exact this, hb⟩
            case measure => simp [intOf]; omega
      · obtain rfl : k = n := by omega
        generalize wr = W3 at *
        have hbw := Below.step hb3 hb
        have hl1 := hD.a.len
        have hl2 := hD.b.len
        have e0 := hLH.out 0 (by omega)
        have e1 := hLH.out 1 (by omega)
        have eL : L = [mnTo xss 0 k, mnTo xss 1 k] := by rw [two_list hl1, e0.1, e1.1]
        have eH : H = [mxTo xss 0 k, mxTo xss 1 k] := by rw [two_list hl2, e0.2, e1.2]
        have hbox : latTo L H 2 = boxP xss := by rw [eL, eH, boxP, hl.out]
        have a0 := mn_in Hp.out hn0 (j := 0) (by omega) k (Nat.le_refl _)
        have a1 := mn_in Hp.out hn0 (j := 1) (by omega) k (Nat.le_refl _)
        have b0 := mx_in Hp.out hn0 (j := 0) (by omega) k (Nat.le_refl _)
        have b1 := mx_in Hp.out hn0 (j := 1) (by omega) k (Nat.le_refl _)
        have hwd : ∀ j, j < 2 → wid (nth L j) (nth H j) ≤ 201 := fun j hj => by
          rcases (by omega : j = 0 ∨ j = 1) with rfl | rfl
          · rw [e0.1, e0.2]; unfold wid; omega
          · rw [e1.1, e1.2]; unfold wid; omega
        have hrg : ∀ j, j < 2 → -100000 ≤ nth L j ∧ nth H j ≤ 100000 := fun j hj => by
          rcases (by omega : j = 0 ∨ j = 1) with rfl | rfl
          · rw [e0.1, e0.2]; omega
          · rw [e1.1, e1.2]; omega
        have hlen := boxP_len hl.out Hp.out hn0
        have Hpt := Lib.hid (boxP_ptsIn hl.out Hp.out hn0)
        clear eL eH e0 e1 a0 a1 b0 b1
        go_wp2_with fail
        refine (lattice_any _ _ 2 _ _ L H _ (by omega) hD.a.ints hD.b.ints hwd hrg).mono ?_
        rw [hbox]
        clear hbox hwd hrg
        rintro e wL ⟨pL, N, cL, rfl, ⟨rowsL, hL⟩, hbL⟩
        have hsL := hbL.size
        have hT := Below.step hbw hbL
        have hsw3 : w.heap.size ≤ W3.heap.size := hbw.size
        have hNl : (boxP xss).length = N := by rw [← hL.len, hL.count]
        have HNl := Lib.hid hNl
        rw [hNl] at hlen
        clear hNl
        generalize hA : boxP xss = B at *
        have HA := Lib.hid hA
        clear hA
        go_wp2_with fail
        go_loopw [8, 68] (fun a i wr => ∃ (k' : Nat) (p' : Option Addr) (n' c' : Nat), k' ≤ N ∧ i = .int .i64 k' ∧ a = .slice p' n' c' ∧ OwnV wr 29 1 W3.heap.size wr.heap.size p' n' c' ((rowsOf rowsL (idxTo (inP xss) B k')).map Row.val) ∧ Off W3.heap.size wL.heap.size p' ∧ Own2 wr W3.heap.size wL.heap.size pL N cL rowsL B ∧ n' ≤ k' ∧ wL.heap.size ≤ wr.heap.size ∧ Below W3.heap.size wL wr) (fun _ i _ => N - (intOf i).toNat)
        case atStart => exact ⟨0, _, _, _, Nat.zero_le _, rfl, rfl, OwnV.nil _ _ _ _ _, fun g e => by simp [blk] at e, hL, Nat.zero_le _, Nat.le_refl _, Below.refl _ _⟩
        case round =>
          obtain ⟨k', p', n', c', hk', rfl, rfl, hout, hoff, hL, hnk, hsw, hb4⟩ := hrel
          have hbw4 : Below w.heap.size w wr := hT.trans (hb4.mono hsw3)
          have hx4 := hx.below hbw4
          by_cases hlt : k' < N
          · obtain ⟨g, rfl, hcc, hik⟩ := hL.cellD hlt
            have hBl : k' < B.length := by rw [HNl.out]; exact hlt
            have hby := Hpt.out _ (nthR_mem hBl)
            have hm2 : (rowAtD rowsL k').2.1 = 2 := by rw [← hik.len, hby.len]
            have Hst : Hid (idxTo (inP xss) B (k' + 1) = if inP xss (nthR B k') = true then idxTo (inP xss) B k' ++ [k'] else idxTo (inP xss) B k') := rfl
            generalize hrow : rowAtD rowsL k' = row at *
            obtain ⟨q, m, d⟩ := row
            dsimp only at hcc hik hm2
            subst hm2
            have Hrow2 := Lib.hid hrow
            clear hrow
            have hd1 : decide ((k' : Int) < (N : Int)) = true := by simp; omega
            have Hin : Hid (inP xss (nthR B k') = decide (0 ≤ placV xss (nthR B k'))) := rfl
            generalize hV0 : placV xss (nthR B k') = V0 at *
            have HV0 := Lib.hid hV0
            clear hV0
            go_wp2_with fail
            refine (placeOf_any _ _ _ _ _ _ _ _ h3 h12 hx4 Hp.out hik hby).mono ?_
            rw [HV0.out]
            rintro e w5 ⟨rfl, hb5⟩
            have hb5' : Below W3.heap.size wL w5 := hb4.trans (hb5.mono (by omega))
            have hsw5 : wL.heap.size ≤ w5.heap.size := Nat.le_trans hsw hb5.size
            have hL5 := hL.below hb5
            have hout5 := (hout.below hb5).up
            by_cases hV : 0 ≤ V0
            · have hd2 : decide (0 ≤ V0) = true := by simpa using hV
              have HI : Hid (inP xss (nthR B k') = true) := Lib.hid (by rw [Hin.out, hd2])
              go_wp2_with (first | (at_builtin; refine append_row rfl _ _ rfl _ W3.heap.size _ _ _ _ _ rfl (hout5.alloc _) _ _ _ _ rfl (cellNew _ _ _) (by omega) (by simp; omega) ?_; intro p7 c7 w7 ho7 hg7))
              have hsw7 : wL.heap.size ≤ w7.heap.size := by have := hg7.by_.size; simp at this; omega
              have hoff7 := hoff.grow hg7 (by simp; omega)
              have hL7 := (hL5.below (boxed w5 (.cells #[.slice q 2 d] 29))).off hoff hg7
              have hb7 : Below W3.heap.size wL w7 := (hb5'.alloc (by omega) _).trans (hg7.below (by simp; omega) (fun a ha => (hout5.lt a ha).1))
              go_roundw
              case rel =>
                refine ⟨k' + 1, _, _, _, by omega, by go_num, rfl, ?_, hoff7, hL7, by omega, hsw7, hb7⟩
                rw [Hst.out, if_pos HI.out, rowsOf_app, Hrow2.out, List.map_append]
                exact ho7
              case measure => simp [intOf]; omega
            · have hd2 : decide (0 ≤ V0) = false := by simpa using hV
              have HI : Hid (¬ inP xss (nthR B k') = true) := Lib.hid (by rw [Hin.out, hd2]; simp)
              go_wp2_with fail
              go_roundw
              case rel =>
                refine ⟨k' + 1, _, _, _, by omega, by go_num, rfl, ?_, hoff, hL5, by omega, hsw5, hb5'⟩
                rw [Hst.out, if_neg HI.out]
                exact hout5
              case measure => simp [intOf]; omega
          · have e : k' = N := by omega
            subst e
            go_wp2_with fail
            go_ret
            refine ⟨_, _, _, rfl, ⟨rowsOf rowsL (idxTo (inP xss) B k'), ?_⟩, hbw4⟩
            have h2 := hL.pick (idx := idxTo (inP xss) B k') (fun i hi => by have := idxTo_lt _ _ _ i hi; rw [hL.count]; exact this) (idxTo_inc _ _ _) hout (Nat.le_refl _) hsw
            rw [idxTo_filter _ _ _ (by rw [HNl.out]; exact Nat.le_refl _), List.take_of_length_le (by rw [HNl.out]; exact Nat.le_refl _)] at h2
            rw [hV.out]
            exact h2.widen hsw3 (Nat.le_refl _)

end Go.Proofs.YthdonnkekggbbaaGreatDoor
