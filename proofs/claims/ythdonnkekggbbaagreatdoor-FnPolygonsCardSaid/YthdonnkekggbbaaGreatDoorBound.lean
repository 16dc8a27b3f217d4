/- Contracts of both BoundaryCount and both InnerCount. Conditions: sizes. -/
import Derived.Test.YthdonnkekggbbaaGreatDoorArea
namespace Go.Proofs.YthdonnkekggbbaaGreatDoor
open Go.RowKit
set_option linter.unusedVariables false
set_option linter.unusedSimpArgs false
set_option maxRecDepth 100000

def sideL (xss : List (List Int)) (k : Nat) : List Int := minusL (nthR xss ((k + 1) % xss.length)) (nthR xss k)
def bndTo (xss : List (List Int)) : Nat → Int
  | 0 => 0
  | k + 1 => wrap64 (bndTo xss k + gcdL (sideL xss k))
theorem side_in {x y : List Int} (hx : PtIn 50 x) (hy : PtIn 50 y) : ∀ k, k < (minusL x y).length → In62 (nth (minusL x y) k) := by
  have h := minus_in hx hy
  obtain ⟨hl, a0, a1, a2, a3⟩ := h
  intro k hk
  rw [hl] at hk
  have hh : k = 0 ∨ k = 1 := by omega
  rcases hh with rfl | rfl
  · unfold In62; omega
  · unfold In62; omega

theorem l7Side_any (p : Option Addr) (n c : Nat) (xss : List (List Int)) (k : Nat) (w : World) (h3 : 3 ≤ n) (h12 : n ≤ 12) (hlt : k < n) (hx : Intss w p n xss) (hp : ∀ k, k < n → PtIn 50 (nthR xss k)) :
    Calls Tryz.prog 62 #[.slice p n c, .int .i64 k] w fun e w' => e = .returned (.int .i64 (gcdL (sideL xss k))) ∧ Below w.heap.size w w' := by
  have hl := Lib.hid hx.len
  obtain ⟨b, o, rfl⟩ : ∃ b o, p = some ⟨b, o, none⟩ := by
    obtain ⟨b, o, _, _, _, e, _⟩ := hx.cell k hlt
    exact ⟨b, o, e⟩
  obtain ⟨k1, hk1⟩ : ∃ k1, k1 = (k + 1) % n := ⟨_, rfl⟩
  have hk1l : k1 < n := by rw [hk1]; exact Nat.mod_lt _ (by omega)
  obtain ⟨qa, da, ca, hbl, ia⟩ := hx.row2 rfl hlt (hp k hlt).len
  obtain ⟨q1, d1, c1, _, i1⟩ := hx.row2 rfl hk1l (hp k1 hk1l).len
  have HE : Hid (sideL xss k = minusL (nthR xss k1) (nthR xss k)) := Lib.hid (by rw [sideL, hl.out, ← hk1])
  have hle := less_minus ((hp k1 hk1l).wide (m' := 1000) (by omega)) ((hp k hlt).wide (m' := 1000) (by omega))
  have hin := side_in (hp k1 hk1l) (hp k hlt)
  have Hin := Lib.hid hin
  have Hle := Lib.hid hle
  have hm1 : IntKind.i64.wrap ((k : Int) + 1) = (k : Int) + 1 := by rw [wrapEq]; exact wrap64_id (by omega) (by omega)
  have hm3 : ((k : Int) + 1).tmod (n : Int) = (k1 : Int) := by rw [hk1]; exact (Int.ofNat_tmod (k + 1) n).symm
  have hm5 : ((k : Int) + 1) % (n : Int) = (k1 : Int) := by rw [hk1]; exact (Int.natCast_emod (k + 1) n).symm
  have hz1 : (0 : Int) ≤ (k1 : Int) := by omega
  have hz3 : (k1 : Int) < (n : Int) := by omega
  have hz4 : (0 : Int) ≤ (k : Int) := by omega
  have hz5 : (k : Int) < (n : Int) := by omega
  have hk0 : ¬ ((n : Int) = 0) := by omega
  have hk0' : ((n : Int) == 0) = false := by simpa using hk0
  have hk0n : ¬ (n = 0) := by omega
  have hm7 : IntKind.i64.wrap (k1 : Int) = (k1 : Int) := by rw [wrapEq]; exact wrap64_id (by omega) (by omega)
  have HB : Hid (∀ j, j < (lessW (nthR xss k1) (nthR xss k)).length → In62 (nth (lessW (nthR xss k1) (nthR xss k)) j)) := Lib.hid (by rw [hle]; exact hin)
  clear hk1 hle hin
  go_enter Tryz.func62, Tryz.ntmps62
  go_wp2
  refine wp_region_u 14 15 (fun w' => w'.cell? ⟨b, o + k, none⟩ = some (.slice qa 2 da) ∧ w'.cell? ⟨b, o + k1, none⟩ = some (.slice q1 2 d1)) (by kernel_rfl) rfl (by (try dsimp only); exact ⟨ca, c1⟩) (fun hHeld => ?_)
  first
    | (refine WalkU.take (i := 0) (v := ?_) rfl (by kernel_rfl) (by kernel_rfl) (by kernel_rfl) (by kernel_rfl) (fun _ _ _ h => h) (Or.inl ⟨by rfl, ?_⟩) hHeld ?_
       rotate_left
       · (intro w hSw; (try dsimp only at hSw); go_simp; try with_reducible rfl)
       try simp only [Act.put, List.setIfInBounds_toArray, List.set_cons_zero, List.set_cons_succ])
    | (refine WalkU.take (i := 0) (v := undef) rfl (by kernel_rfl) (by kernel_rfl) (by kernel_rfl) (by kernel_rfl) (fun _ _ _ h => h) (Or.inr ⟨by rfl, rfl⟩) hHeld ?_
       try simp only [Act.put, List.setIfInBounds_toArray, List.set_cons_zero, List.set_cons_succ])
    | (refine WalkU.one (i := 0) rfl (by kernel_rfl) (fun K hK => ?_)
       first
         | (first | (go_at_call 90; (with_reducible refine (l2Less_any _ _ _ _ _ _ _ _ (by omega) i1.drew ia.drew).mono ?_); rintro e w5 ⟨p5, c5, rfl, ho5, hb5⟩; replace ca := (hb5.cell (World.block_lt_of_cell? w.drew _ ca)).trans ca; replace c1 := (hb5.cell (World.block_lt_of_cell? w.drew _ c1)).trans c1) | (go_at_call 89; (with_reducible refine (l2All_any _ _ _ _ _ (by omega) ho5.ints HB.out).mono ?_); rintro e w6 ⟨rfl, rfl⟩))
         | (go_simp; (first | (go_at_call 90; (with_reducible refine (l2Less_any _ _ _ _ _ _ _ _ (by omega) i1.drew ia.drew).mono ?_); rintro e w5 ⟨p5, c5, rfl, ho5, hb5⟩; replace ca := (hb5.cell (World.block_lt_of_cell? w.drew _ ca)).trans ca; replace c1 := (hb5.cell (World.block_lt_of_cell? w.drew _ c1)).trans c1) | (go_at_call 89; (with_reducible refine (l2All_any _ _ _ _ _ (by omega) ho5.ints HB.out).mono ?_); rintro e w6 ⟨rfl, rfl⟩)))
         | go_simp
       refine hK.out _ _ ?_ (fun hHeld => ?_)
       · ((try dsimp only); exact ⟨ca, c1⟩)
       clear hK K
       try simp only [Act.put, List.setIfInBounds_toArray, List.set_cons_zero, List.set_cons_succ])
  first
    | (refine WalkU.take (i := 1) (v := ?_) rfl (by kernel_rfl) (by kernel_rfl) (by kernel_rfl) (by kernel_rfl) (fun _ _ _ h => h) (Or.inl ⟨by rfl, ?_⟩) hHeld ?_
       rotate_left
       · (intro w hSw; (try dsimp only at hSw); go_simp; try with_reducible rfl)
       try simp only [Act.put, List.setIfInBounds_toArray, List.set_cons_zero, List.set_cons_succ])
    | (refine WalkU.take (i := 1) (v := undef) rfl (by kernel_rfl) (by kernel_rfl) (by kernel_rfl) (by kernel_rfl) (fun _ _ _ h => h) (Or.inr ⟨by rfl, rfl⟩) hHeld ?_
       try simp only [Act.put, List.setIfInBounds_toArray, List.set_cons_zero, List.set_cons_succ])
    | (refine WalkU.one (i := 1) rfl (by kernel_rfl) (fun K hK => ?_)
       first
         | (first | (go_at_call 90; (with_reducible refine (l2Less_any _ _ _ _ _ _ _ _ (by omega) i1.drew ia.drew).mono ?_); rintro e w5 ⟨p5, c5, rfl, ho5, hb5⟩; replace ca := (hb5.cell (World.block_lt_of_cell? w.drew _ ca)).trans ca; replace c1 := (hb5.cell (World.block_lt_of_cell? w.drew _ c1)).trans c1) | (go_at_call 89; (with_reducible refine (l2All_any _ _ _ _ _ (by omega) ho5.ints HB.out).mono ?_); rintro e w6 ⟨rfl, rfl⟩))
         | (go_simp; (first | (go_at_call 90; (with_reducible refine (l2Less_any _ _ _ _ _ _ _ _ (by omega) i1.drew ia.drew).mono ?_); rintro e w5 ⟨p5, c5, rfl, ho5, hb5⟩; replace ca := (hb5.cell (World.block_lt_of_cell? w.drew _ ca)).trans ca; replace c1 := (hb5.cell (World.block_lt_of_cell? w.drew _ c1)).trans c1) | (go_at_call 89; (with_reducible refine (l2All_any _ _ _ _ _ (by omega) ho5.ints HB.out).mono ?_); rintro e w6 ⟨rfl, rfl⟩)))
         | go_simp
       refine hK.out _ _ ?_ (fun hHeld => ?_)
       · ((try dsimp only); exact ⟨ca, c1⟩)
       clear hK K
       try simp only [Act.put, List.setIfInBounds_toArray, List.set_cons_zero, List.set_cons_succ])
  first
    | (refine WalkU.take (i := 2) (v := ?_) rfl (by kernel_rfl) (by kernel_rfl) (by kernel_rfl) (by kernel_rfl) (fun _ _ _ h => h) (Or.inl ⟨by rfl, ?_⟩) hHeld ?_
       rotate_left
       · (intro w hSw; (try dsimp only at hSw); go_simp; try with_reducible rfl)
       try simp only [Act.put, List.setIfInBounds_toArray, List.set_cons_zero, List.set_cons_succ])
    | (refine WalkU.take (i := 2) (v := undef) rfl (by kernel_rfl) (by kernel_rfl) (by kernel_rfl) (by kernel_rfl) (fun _ _ _ h => h) (Or.inr ⟨by rfl, rfl⟩) hHeld ?_
       try simp only [Act.put, List.setIfInBounds_toArray, List.set_cons_zero, List.set_cons_succ])
    | (refine WalkU.one (i := 2) rfl (by kernel_rfl) (fun K hK => ?_)
       first
         | (first | (go_at_call 90; (with_reducible refine (l2Less_any _ _ _ _ _ _ _ _ (by omega) i1.drew ia.drew).mono ?_); rintro e w5 ⟨p5, c5, rfl, ho5, hb5⟩; replace ca := (hb5.cell (World.block_lt_of_cell? w.drew _ ca)).trans ca; replace c1 := (hb5.cell (World.block_lt_of_cell? w.drew _ c1)).trans c1) | (go_at_call 89; (with_reducible refine (l2All_any _ _ _ _ _ (by omega) ho5.ints HB.out).mono ?_); rintro e w6 ⟨rfl, rfl⟩))
         | (go_simp; (first | (go_at_call 90; (with_reducible refine (l2Less_any _ _ _ _ _ _ _ _ (by omega) i1.drew ia.drew).mono ?_); rintro e w5 ⟨p5, c5, rfl, ho5, hb5⟩; replace ca := (hb5.cell (World.block_lt_of_cell? w.drew _ ca)).trans ca; replace c1 := (hb5.cell (World.block_lt_of_cell? w.drew _ c1)).trans c1) | (go_at_call 89; (with_reducible refine (l2All_any _ _ _ _ _ (by omega) ho5.ints HB.out).mono ?_); rintro e w6 ⟨rfl, rfl⟩)))
         | go_simp
       refine hK.out _ _ ?_ (fun hHeld => ?_)
       · ((try dsimp only); exact ⟨ca, c1⟩)
       clear hK K
       try simp only [Act.put, List.setIfInBounds_toArray, List.set_cons_zero, List.set_cons_succ])
  first
    | (refine WalkU.take (i := 3) (v := ?_) rfl (by kernel_rfl) (by kernel_rfl) (by kernel_rfl) (by kernel_rfl) (fun _ _ _ h => h) (Or.inl ⟨by rfl, ?_⟩) hHeld ?_
       rotate_left
       · (intro w hSw; (try dsimp only at hSw); go_simp; try with_reducible rfl)
       try simp only [Act.put, List.setIfInBounds_toArray, List.set_cons_zero, List.set_cons_succ])
    | (refine WalkU.take (i := 3) (v := undef) rfl (by kernel_rfl) (by kernel_rfl) (by kernel_rfl) (by kernel_rfl) (fun _ _ _ h => h) (Or.inr ⟨by rfl, rfl⟩) hHeld ?_
       try simp only [Act.put, List.setIfInBounds_toArray, List.set_cons_zero, List.set_cons_succ])
    | (refine WalkU.one (i := 3) rfl (by kernel_rfl) (fun K hK => ?_)
       first
         | (first | (go_at_call 90; (with_reducible refine (l2Less_any _ _ _ _ _ _ _ _ (by omega) i1.drew ia.drew).mono ?_); rintro e w5 ⟨p5, c5, rfl, ho5, hb5⟩; replace ca := (hb5.cell (World.block_lt_of_cell? w.drew _ ca)).trans ca; replace c1 := (hb5.cell (World.block_lt_of_cell? w.drew _ c1)).trans c1) | (go_at_call 89; (with_reducible refine (l2All_any _ _ _ _ _ (by omega) ho5.ints HB.out).mono ?_); rintro e w6 ⟨rfl, rfl⟩))
         | (go_simp; (first | (go_at_call 90; (with_reducible refine (l2Less_any _ _ _ _ _ _ _ _ (by omega) i1.drew ia.drew).mono ?_); rintro e w5 ⟨p5, c5, rfl, ho5, hb5⟩; replace ca := (hb5.cell (World.block_lt_of_cell? w.drew _ ca)).trans ca; replace c1 := (hb5.cell (World.block_lt_of_cell? w.drew _ c1)).trans c1) | (go_at_call 89; (with_reducible refine (l2All_any _ _ _ _ _ (by omega) ho5.ints HB.out).mono ?_); rintro e w6 ⟨rfl, rfl⟩)))
         | go_simp
       refine hK.out _ _ ?_ (fun hHeld => ?_)
       · ((try dsimp only); exact ⟨ca, c1⟩)
       clear hK K
       try simp only [Act.put, List.setIfInBounds_toArray, List.set_cons_zero, List.set_cons_succ])
  first
    | (refine WalkU.take (i := 4) (v := ?_) rfl (by kernel_rfl) (by kernel_rfl) (by kernel_rfl) (by kernel_rfl) (fun _ _ _ h => h) (Or.inl ⟨by rfl, ?_⟩) hHeld ?_
       rotate_left
       · (intro w hSw; (try dsimp only at hSw); go_simp; try with_reducible rfl)
       try simp only [Act.put, List.setIfInBounds_toArray, List.set_cons_zero, List.set_cons_succ])
    | (refine WalkU.take (i := 4) (v := undef) rfl (by kernel_rfl) (by kernel_rfl) (by kernel_rfl) (by kernel_rfl) (fun _ _ _ h => h) (Or.inr ⟨by rfl, rfl⟩) hHeld ?_
       try simp only [Act.put, List.setIfInBounds_toArray, List.set_cons_zero, List.set_cons_succ])
    | (refine WalkU.one (i := 4) rfl (by kernel_rfl) (fun K hK => ?_)
       first
         | (first | (go_at_call 90; (with_reducible refine (l2Less_any _ _ _ _ _ _ _ _ (by omega) i1.drew ia.drew).mono ?_); rintro e w5 ⟨p5, c5, rfl, ho5, hb5⟩; replace ca := (hb5.cell (World.block_lt_of_cell? w.drew _ ca)).trans ca; replace c1 := (hb5.cell (World.block_lt_of_cell? w.drew _ c1)).trans c1) | (go_at_call 89; (with_reducible refine (l2All_any _ _ _ _ _ (by omega) ho5.ints HB.out).mono ?_); rintro e w6 ⟨rfl, rfl⟩))
         | (go_simp; (first | (go_at_call 90; (with_reducible refine (l2Less_any _ _ _ _ _ _ _ _ (by omega) i1.drew ia.drew).mono ?_); rintro e w5 ⟨p5, c5, rfl, ho5, hb5⟩; replace ca := (hb5.cell (World.block_lt_of_cell? w.drew _ ca)).trans ca; replace c1 := (hb5.cell (World.block_lt_of_cell? w.drew _ c1)).trans c1) | (go_at_call 89; (with_reducible refine (l2All_any _ _ _ _ _ (by omega) ho5.ints HB.out).mono ?_); rintro e w6 ⟨rfl, rfl⟩)))
         | go_simp
       refine hK.out _ _ ?_ (fun hHeld => ?_)
       · ((try dsimp only); exact ⟨ca, c1⟩)
       clear hK K
       try simp only [Act.put, List.setIfInBounds_toArray, List.set_cons_zero, List.set_cons_succ])
  first
    | (refine WalkU.take (i := 5) (v := ?_) rfl (by kernel_rfl) (by kernel_rfl) (by kernel_rfl) (by kernel_rfl) (fun _ _ _ h => h) (Or.inl ⟨by rfl, ?_⟩) hHeld ?_
       rotate_left
       · (intro w hSw; (try dsimp only at hSw); go_simp; try with_reducible rfl)
       try simp only [Act.put, List.setIfInBounds_toArray, List.set_cons_zero, List.set_cons_succ])
    | (refine WalkU.take (i := 5) (v := undef) rfl (by kernel_rfl) (by kernel_rfl) (by kernel_rfl) (by kernel_rfl) (fun _ _ _ h => h) (Or.inr ⟨by rfl, rfl⟩) hHeld ?_
       try simp only [Act.put, List.setIfInBounds_toArray, List.set_cons_zero, List.set_cons_succ])
    | (refine WalkU.one (i := 5) rfl (by kernel_rfl) (fun K hK => ?_)
       first
         | (first | (go_at_call 90; (with_reducible refine (l2Less_any _ _ _ _ _ _ _ _ (by omega) i1.drew ia.drew).mono ?_); rintro e w5 ⟨p5, c5, rfl, ho5, hb5⟩; replace ca := (hb5.cell (World.block_lt_of_cell? w.drew _ ca)).trans ca; replace c1 := (hb5.cell (World.block_lt_of_cell? w.drew _ c1)).trans c1) | (go_at_call 89; (with_reducible refine (l2All_any _ _ _ _ _ (by omega) ho5.ints HB.out).mono ?_); rintro e w6 ⟨rfl, rfl⟩))
         | (go_simp; (first | (go_at_call 90; (with_reducible refine (l2Less_any _ _ _ _ _ _ _ _ (by omega) i1.drew ia.drew).mono ?_); rintro e w5 ⟨p5, c5, rfl, ho5, hb5⟩; replace ca := (hb5.cell (World.block_lt_of_cell? w.drew _ ca)).trans ca; replace c1 := (hb5.cell (World.block_lt_of_cell? w.drew _ c1)).trans c1) | (go_at_call 89; (with_reducible refine (l2All_any _ _ _ _ _ (by omega) ho5.ints HB.out).mono ?_); rintro e w6 ⟨rfl, rfl⟩)))
         | go_simp
       refine hK.out _ _ ?_ (fun hHeld => ?_)
       · ((try dsimp only); exact ⟨ca, c1⟩)
       clear hK K
       try simp only [Act.put, List.setIfInBounds_toArray, List.set_cons_zero, List.set_cons_succ])
  first
    | (refine WalkU.take (i := 6) (v := ?_) rfl (by kernel_rfl) (by kernel_rfl) (by kernel_rfl) (by kernel_rfl) (fun _ _ _ h => h) (Or.inl ⟨by rfl, ?_⟩) hHeld ?_
       rotate_left
       · (intro w hSw; (try dsimp only at hSw); go_simp; try with_reducible rfl)
       try simp only [Act.put, List.setIfInBounds_toArray, List.set_cons_zero, List.set_cons_succ])
    | (refine WalkU.take (i := 6) (v := undef) rfl (by kernel_rfl) (by kernel_rfl) (by kernel_rfl) (by kernel_rfl) (fun _ _ _ h => h) (Or.inr ⟨by rfl, rfl⟩) hHeld ?_
       try simp only [Act.put, List.setIfInBounds_toArray, List.set_cons_zero, List.set_cons_succ])
    | (refine WalkU.one (i := 6) rfl (by kernel_rfl) (fun K hK => ?_)
       first
         | (first | (go_at_call 90; (with_reducible refine (l2Less_any _ _ _ _ _ _ _ _ (by omega) i1.drew ia.drew).mono ?_); rintro e w5 ⟨p5, c5, rfl, ho5, hb5⟩; replace ca := (hb5.cell (World.block_lt_of_cell? w.drew _ ca)).trans ca; replace c1 := (hb5.cell (World.block_lt_of_cell? w.drew _ c1)).trans c1) | (go_at_call 89; (with_reducible refine (l2All_any _ _ _ _ _ (by omega) ho5.ints HB.out).mono ?_); rintro e w6 ⟨rfl, rfl⟩))
         | (go_simp; (first | (go_at_call 90; (with_reducible refine (l2Less_any _ _ _ _ _ _ _ _ (by omega) i1.drew ia.drew).mono ?_); rintro e w5 ⟨p5, c5, rfl, ho5, hb5⟩; replace ca := (hb5.cell (World.block_lt_of_cell? w.drew _ ca)).trans ca; replace c1 := (hb5.cell (World.block_lt_of_cell? w.drew _ c1)).trans c1) | (go_at_call 89; (with_reducible refine (l2All_any _ _ _ _ _ (by omega) ho5.ints HB.out).mono ?_); rintro e w6 ⟨rfl, rfl⟩)))
         | go_simp
       refine hK.out _ _ ?_ (fun hHeld => ?_)
       · ((try dsimp only); exact ⟨ca, c1⟩)
       clear hK K
       try simp only [Act.put, List.setIfInBounds_toArray, List.set_cons_zero, List.set_cons_succ])
  first
    | (refine WalkU.take (i := 7) (v := ?_) rfl (by kernel_rfl) (by kernel_rfl) (by kernel_rfl) (by kernel_rfl) (fun _ _ _ h => h) (Or.inl ⟨by rfl, ?_⟩) hHeld ?_
       rotate_left
       · (intro w hSw; (try dsimp only at hSw); go_simp; try with_reducible rfl)
       try simp only [Act.put, List.setIfInBounds_toArray, List.set_cons_zero, List.set_cons_succ])
    | (refine WalkU.take (i := 7) (v := undef) rfl (by kernel_rfl) (by kernel_rfl) (by kernel_rfl) (by kernel_rfl) (fun _ _ _ h => h) (Or.inr ⟨by rfl, rfl⟩) hHeld ?_
       try simp only [Act.put, List.setIfInBounds_toArray, List.set_cons_zero, List.set_cons_succ])
    | (refine WalkU.one (i := 7) rfl (by kernel_rfl) (fun K hK => ?_)
       first
         | (first | (go_at_call 90; (with_reducible refine (l2Less_any _ _ _ _ _ _ _ _ (by omega) i1.drew ia.drew).mono ?_); rintro e w5 ⟨p5, c5, rfl, ho5, hb5⟩; replace ca := (hb5.cell (World.block_lt_of_cell? w.drew _ ca)).trans ca; replace c1 := (hb5.cell (World.block_lt_of_cell? w.drew _ c1)).trans c1) | (go_at_call 89; (with_reducible refine (l2All_any _ _ _ _ _ (by omega) ho5.ints HB.out).mono ?_); rintro e w6 ⟨rfl, rfl⟩))
         | (go_simp; (first | (go_at_call 90; (with_reducible refine (l2Less_any _ _ _ _ _ _ _ _ (by omega) i1.drew ia.drew).mono ?_); rintro e w5 ⟨p5, c5, rfl, ho5, hb5⟩; replace ca := (hb5.cell (World.block_lt_of_cell? w.drew _ ca)).trans ca; replace c1 := (hb5.cell (World.block_lt_of_cell? w.drew _ c1)).trans c1) | (go_at_call 89; (with_reducible refine (l2All_any _ _ _ _ _ (by omega) ho5.ints HB.out).mono ?_); rintro e w6 ⟨rfl, rfl⟩)))
         | go_simp
       refine hK.out _ _ ?_ (fun hHeld => ?_)
       · ((try dsimp only); exact ⟨ca, c1⟩)
       clear hK K
       try simp only [Act.put, List.setIfInBounds_toArray, List.set_cons_zero, List.set_cons_succ])
  first
    | (refine WalkU.take (i := 8) (v := ?_) rfl (by kernel_rfl) (by kernel_rfl) (by kernel_rfl) (by kernel_rfl) (fun _ _ _ h => h) (Or.inl ⟨by rfl, ?_⟩) hHeld ?_
       rotate_left
       · (intro w hSw; (try dsimp only at hSw); go_simp; try with_reducible rfl)
       try simp only [Act.put, List.setIfInBounds_toArray, List.set_cons_zero, List.set_cons_succ])
    | (refine WalkU.take (i := 8) (v := undef) rfl (by kernel_rfl) (by kernel_rfl) (by kernel_rfl) (by kernel_rfl) (fun _ _ _ h => h) (Or.inr ⟨by rfl, rfl⟩) hHeld ?_
       try simp only [Act.put, List.setIfInBounds_toArray, List.set_cons_zero, List.set_cons_succ])
    | (refine WalkU.one (i := 8) rfl (by kernel_rfl) (fun K hK => ?_)
       first
         | (first | (go_at_call 90; (with_reducible refine (l2Less_any _ _ _ _ _ _ _ _ (by omega) i1.drew ia.drew).mono ?_); rintro e w5 ⟨p5, c5, rfl, ho5, hb5⟩; replace ca := (hb5.cell (World.block_lt_of_cell? w.drew _ ca)).trans ca; replace c1 := (hb5.cell (World.block_lt_of_cell? w.drew _ c1)).trans c1) | (go_at_call 89; (with_reducible refine (l2All_any _ _ _ _ _ (by omega) ho5.ints HB.out).mono ?_); rintro e w6 ⟨rfl, rfl⟩))
         | (go_simp; (first | (go_at_call 90; (with_reducible refine (l2Less_any _ _ _ _ _ _ _ _ (by omega) i1.drew ia.drew).mono ?_); rintro e w5 ⟨p5, c5, rfl, ho5, hb5⟩; replace ca := (hb5.cell (World.block_lt_of_cell? w.drew _ ca)).trans ca; replace c1 := (hb5.cell (World.block_lt_of_cell? w.drew _ c1)).trans c1) | (go_at_call 89; (with_reducible refine (l2All_any _ _ _ _ _ (by omega) ho5.ints HB.out).mono ?_); rintro e w6 ⟨rfl, rfl⟩)))
         | go_simp
       refine hK.out _ _ ?_ (fun hHeld => ?_)
       · ((try dsimp only); exact ⟨ca, c1⟩)
       clear hK K
       try simp only [Act.put, List.setIfInBounds_toArray, List.set_cons_zero, List.set_cons_succ])
  first
    | (refine WalkU.take (i := 9) (v := ?_) rfl (by kernel_rfl) (by kernel_rfl) (by kernel_rfl) (by kernel_rfl) (fun _ _ _ h => h) (Or.inl ⟨by rfl, ?_⟩) hHeld ?_
       rotate_left
       · (intro w hSw; (try dsimp only at hSw); go_simp; try with_reducible rfl)
       try simp only [Act.put, List.setIfInBounds_toArray, List.set_cons_zero, List.set_cons_succ])
    | (refine WalkU.take (i := 9) (v := undef) rfl (by kernel_rfl) (by kernel_rfl) (by kernel_rfl) (by kernel_rfl) (fun _ _ _ h => h) (Or.inr ⟨by rfl, rfl⟩) hHeld ?_
       try simp only [Act.put, List.setIfInBounds_toArray, List.set_cons_zero, List.set_cons_succ])
    | (refine WalkU.one (i := 9) rfl (by kernel_rfl) (fun K hK => ?_)
       first
         | (first | (go_at_call 90; (with_reducible refine (l2Less_any _ _ _ _ _ _ _ _ (by omega) i1.drew ia.drew).mono ?_); rintro e w5 ⟨p5, c5, rfl, ho5, hb5⟩; replace ca := (hb5.cell (World.block_lt_of_cell? w.drew _ ca)).trans ca; replace c1 := (hb5.cell (World.block_lt_of_cell? w.drew _ c1)).trans c1) | (go_at_call 89; (with_reducible refine (l2All_any _ _ _ _ _ (by omega) ho5.ints HB.out).mono ?_); rintro e w6 ⟨rfl, rfl⟩))
         | (go_simp; (first | (go_at_call 90; (with_reducible refine (l2Less_any _ _ _ _ _ _ _ _ (by omega) i1.drew ia.drew).mono ?_); rintro e w5 ⟨p5, c5, rfl, ho5, hb5⟩; replace ca := (hb5.cell (World.block_lt_of_cell? w.drew _ ca)).trans ca; replace c1 := (hb5.cell (World.block_lt_of_cell? w.drew _ c1)).trans c1) | (go_at_call 89; (with_reducible refine (l2All_any _ _ _ _ _ (by omega) ho5.ints HB.out).mono ?_); rintro e w6 ⟨rfl, rfl⟩)))
         | go_simp
       refine hK.out _ _ ?_ (fun hHeld => ?_)
       · ((try dsimp only); exact ⟨ca, c1⟩)
       clear hK K
       try simp only [Act.put, List.setIfInBounds_toArray, List.set_cons_zero, List.set_cons_succ])
  first
    | (refine WalkU.take (i := 10) (v := ?_) rfl (by kernel_rfl) (by kernel_rfl) (by kernel_rfl) (by kernel_rfl) (fun _ _ _ h => h) (Or.inl ⟨by rfl, ?_⟩) hHeld ?_
       rotate_left
       · (intro w hSw; (try dsimp only at hSw); go_simp; try with_reducible rfl)
       try simp only [Act.put, List.setIfInBounds_toArray, List.set_cons_zero, List.set_cons_succ])
    | (refine WalkU.take (i := 10) (v := undef) rfl (by kernel_rfl) (by kernel_rfl) (by kernel_rfl) (by kernel_rfl) (fun _ _ _ h => h) (Or.inr ⟨by rfl, rfl⟩) hHeld ?_
       try simp only [Act.put, List.setIfInBounds_toArray, List.set_cons_zero, List.set_cons_succ])
    | (refine WalkU.one (i := 10) rfl (by kernel_rfl) (fun K hK => ?_)
       first
         | (first | (go_at_call 90; (with_reducible refine (l2Less_any _ _ _ _ _ _ _ _ (by omega) i1.drew ia.drew).mono ?_); rintro e w5 ⟨p5, c5, rfl, ho5, hb5⟩; replace ca := (hb5.cell (World.block_lt_of_cell? w.drew _ ca)).trans ca; replace c1 := (hb5.cell (World.block_lt_of_cell? w.drew _ c1)).trans c1) | (go_at_call 89; (with_reducible refine (l2All_any _ _ _ _ _ (by omega) ho5.ints HB.out).mono ?_); rintro e w6 ⟨rfl, rfl⟩))
         | (go_simp; (first | (go_at_call 90; (with_reducible refine (l2Less_any _ _ _ _ _ _ _ _ (by omega) i1.drew ia.drew).mono ?_); rintro e w5 ⟨p5, c5, rfl, ho5, hb5⟩; replace ca := (hb5.cell (World.block_lt_of_cell? w.drew _ ca)).trans ca; replace c1 := (hb5.cell (World.block_lt_of_cell? w.drew _ c1)).trans c1) | (go_at_call 89; (with_reducible refine (l2All_any _ _ _ _ _ (by omega) ho5.ints HB.out).mono ?_); rintro e w6 ⟨rfl, rfl⟩)))
         | go_simp
       refine hK.out _ _ ?_ (fun hHeld => ?_)
       · ((try dsimp only); exact ⟨ca, c1⟩)
       clear hK K
       try simp only [Act.put, List.setIfInBounds_toArray, List.set_cons_zero, List.set_cons_succ])
  first
    | (refine WalkU.take (i := 11) (v := ?_) rfl (by kernel_rfl) (by kernel_rfl) (by kernel_rfl) (by kernel_rfl) (fun _ _ _ h => h) (Or.inl ⟨by rfl, ?_⟩) hHeld ?_
       rotate_left
       · (intro w hSw; (try dsimp only at hSw); go_simp; try with_reducible rfl)
       try simp only [Act.put, List.setIfInBounds_toArray, List.set_cons_zero, List.set_cons_succ])
    | (refine WalkU.take (i := 11) (v := undef) rfl (by kernel_rfl) (by kernel_rfl) (by kernel_rfl) (by kernel_rfl) (fun _ _ _ h => h) (Or.inr ⟨by rfl, rfl⟩) hHeld ?_
       try simp only [Act.put, List.setIfInBounds_toArray, List.set_cons_zero, List.set_cons_succ])
    | (refine WalkU.one (i := 11) rfl (by kernel_rfl) (fun K hK => ?_)
       first
         | (first | (go_at_call 90; (with_reducible refine (l2Less_any _ _ _ _ _ _ _ _ (by omega) i1.drew ia.drew).mono ?_); rintro e w5 ⟨p5, c5, rfl, ho5, hb5⟩; replace ca := (hb5.cell (World.block_lt_of_cell? w.drew _ ca)).trans ca; replace c1 := (hb5.cell (World.block_lt_of_cell? w.drew _ c1)).trans c1) | (go_at_call 89; (with_reducible refine (l2All_any _ _ _ _ _ (by omega) ho5.ints HB.out).mono ?_); rintro e w6 ⟨rfl, rfl⟩))
         | (go_simp; (first | (go_at_call 90; (with_reducible refine (l2Less_any _ _ _ _ _ _ _ _ (by omega) i1.drew ia.drew).mono ?_); rintro e w5 ⟨p5, c5, rfl, ho5, hb5⟩; replace ca := (hb5.cell (World.block_lt_of_cell? w.drew _ ca)).trans ca; replace c1 := (hb5.cell (World.block_lt_of_cell? w.drew _ c1)).trans c1) | (go_at_call 89; (with_reducible refine (l2All_any _ _ _ _ _ (by omega) ho5.ints HB.out).mono ?_); rintro e w6 ⟨rfl, rfl⟩)))
         | go_simp
       refine hK.out _ _ ?_ (fun hHeld => ?_)
       · ((try dsimp only); exact ⟨ca, c1⟩)
       clear hK K
       try simp only [Act.put, List.setIfInBounds_toArray, List.set_cons_zero, List.set_cons_succ])
  first
    | (refine WalkU.take (i := 12) (v := ?_) rfl (by kernel_rfl) (by kernel_rfl) (by kernel_rfl) (by kernel_rfl) (fun _ _ _ h => h) (Or.inl ⟨by rfl, ?_⟩) hHeld ?_
       rotate_left
       · (intro w hSw; (try dsimp only at hSw); go_simp; try with_reducible rfl)
       try simp only [Act.put, List.setIfInBounds_toArray, List.set_cons_zero, List.set_cons_succ])
    | (refine WalkU.take (i := 12) (v := undef) rfl (by kernel_rfl) (by kernel_rfl) (by kernel_rfl) (by kernel_rfl) (fun _ _ _ h => h) (Or.inr ⟨by rfl, rfl⟩) hHeld ?_
       try simp only [Act.put, List.setIfInBounds_toArray, List.set_cons_zero, List.set_cons_succ])
    | (refine WalkU.one (i := 12) rfl (by kernel_rfl) (fun K hK => ?_)
       first
         | (first | (go_at_call 90; (with_reducible refine (l2Less_any _ _ _ _ _ _ _ _ (by omega) i1.drew ia.drew).mono ?_); rintro e w5 ⟨p5, c5, rfl, ho5, hb5⟩; replace ca := (hb5.cell (World.block_lt_of_cell? w.drew _ ca)).trans ca; replace c1 := (hb5.cell (World.block_lt_of_cell? w.drew _ c1)).trans c1) | (go_at_call 89; (with_reducible refine (l2All_any _ _ _ _ _ (by omega) ho5.ints HB.out).mono ?_); rintro e w6 ⟨rfl, rfl⟩))
         | (go_simp; (first | (go_at_call 90; (with_reducible refine (l2Less_any _ _ _ _ _ _ _ _ (by omega) i1.drew ia.drew).mono ?_); rintro e w5 ⟨p5, c5, rfl, ho5, hb5⟩; replace ca := (hb5.cell (World.block_lt_of_cell? w.drew _ ca)).trans ca; replace c1 := (hb5.cell (World.block_lt_of_cell? w.drew _ c1)).trans c1) | (go_at_call 89; (with_reducible refine (l2All_any _ _ _ _ _ (by omega) ho5.ints HB.out).mono ?_); rintro e w6 ⟨rfl, rfl⟩)))
         | go_simp
       refine hK.out _ _ ?_ (fun hHeld => ?_)
       · ((try dsimp only); exact ⟨ca, c1⟩)
       clear hK K
       try simp only [Act.put, List.setIfInBounds_toArray, List.set_cons_zero, List.set_cons_succ])
  first
    | (refine WalkU.take (i := 13) (v := ?_) rfl (by kernel_rfl) (by kernel_rfl) (by kernel_rfl) (by kernel_rfl) (fun _ _ _ h => h) (Or.inl ⟨by rfl, ?_⟩) hHeld ?_
       rotate_left
       · (intro w hSw; (try dsimp only at hSw); go_simp; try with_reducible rfl)
       try simp only [Act.put, List.setIfInBounds_toArray, List.set_cons_zero, List.set_cons_succ])
    | (refine WalkU.take (i := 13) (v := undef) rfl (by kernel_rfl) (by kernel_rfl) (by kernel_rfl) (by kernel_rfl) (fun _ _ _ h => h) (Or.inr ⟨by rfl, rfl⟩) hHeld ?_
       try simp only [Act.put, List.setIfInBounds_toArray, List.set_cons_zero, List.set_cons_succ])
    | (refine WalkU.one (i := 13) rfl (by kernel_rfl) (fun K hK => ?_)
       first
         | (first | (go_at_call 90; (with_reducible refine (l2Less_any _ _ _ _ _ _ _ _ (by omega) i1.drew ia.drew).mono ?_); rintro e w5 ⟨p5, c5, rfl, ho5, hb5⟩; replace ca := (hb5.cell (World.block_lt_of_cell? w.drew _ ca)).trans ca; replace c1 := (hb5.cell (World.block_lt_of_cell? w.drew _ c1)).trans c1) | (go_at_call 89; (with_reducible refine (l2All_any _ _ _ _ _ (by omega) ho5.ints HB.out).mono ?_); rintro e w6 ⟨rfl, rfl⟩))
         | (go_simp; (first | (go_at_call 90; (with_reducible refine (l2Less_any _ _ _ _ _ _ _ _ (by omega) i1.drew ia.drew).mono ?_); rintro e w5 ⟨p5, c5, rfl, ho5, hb5⟩; replace ca := (hb5.cell (World.block_lt_of_cell? w.drew _ ca)).trans ca; replace c1 := (hb5.cell (World.block_lt_of_cell? w.drew _ c1)).trans c1) | (go_at_call 89; (with_reducible refine (l2All_any _ _ _ _ _ (by omega) ho5.ints HB.out).mono ?_); rintro e w6 ⟨rfl, rfl⟩)))
         | go_simp
       refine hK.out _ _ ?_ (fun hHeld => ?_)
       · ((try dsimp only); exact ⟨ca, c1⟩)
       clear hK K
       try simp only [Act.put, List.setIfInBounds_toArray, List.set_cons_zero, List.set_cons_succ])
  first
    | (refine WalkU.last (i := 14) rfl rfl (by kernel_rfl) (by kernel_rfl) (fun K hK => ?_)
       first
         | (first | (go_at_call 90; (with_reducible refine (l2Less_any _ _ _ _ _ _ _ _ (by omega) i1.drew ia.drew).mono ?_); rintro e w5 ⟨p5, c5, rfl, ho5, hb5⟩; replace ca := (hb5.cell (World.block_lt_of_cell? w.drew _ ca)).trans ca; replace c1 := (hb5.cell (World.block_lt_of_cell? w.drew _ c1)).trans c1) | (go_at_call 89; (with_reducible refine (l2All_any _ _ _ _ _ (by omega) ho5.ints HB.out).mono ?_); rintro e w6 ⟨rfl, rfl⟩))
         | (go_simp; (first | (go_at_call 90; (with_reducible refine (l2Less_any _ _ _ _ _ _ _ _ (by omega) i1.drew ia.drew).mono ?_); rintro e w5 ⟨p5, c5, rfl, ho5, hb5⟩; replace ca := (hb5.cell (World.block_lt_of_cell? w.drew _ ca)).trans ca; replace c1 := (hb5.cell (World.block_lt_of_cell? w.drew _ c1)).trans c1) | (go_at_call 89; (with_reducible refine (l2All_any _ _ _ _ _ (by omega) ho5.ints HB.out).mono ?_); rintro e w6 ⟨rfl, rfl⟩)))
         | go_simp
       refine hK.out _ _ ?_
       clear hK K
       try simp only [Act.put, List.setIfInBounds_toArray, List.set_cons_zero, List.set_cons_succ])
  go_wp2
  go_ret
  exact ⟨ret_int (by rw [HE.out, ← Hle.out]), (drewBelow w).trans hb5⟩

open Classical in
noncomputable def bndV (xss : List (List Int)) : Int := if polyB xss = true then bndTo xss xss.length else -1

set_option maxHeartbeats 1000000 in
theorem implBoundaryCount_any (p : Option Addr) (n c : Nat) (xss : List (List Int)) (w : World) (hn : n ≤ 9223372036854775807) (hx : Intss w p n xss) :
    Calls Tryz.prog 20 #[.slice p n c] w (Ret (.int .i64 (bndV xss)) w) := by
  have hl := Lib.hid hx.len
  cases h : polyB xss
  · have HV := Lib.hid (show bndV xss = -1 by simp [bndV, h])
    go_enter Tryz.func20, Tryz.ntmps20
    go_wp2_with fail
    refine (implIsPolygon_any _ _ _ _ _ hn hx).mono ?_
    rw [h]
    rintro e w1 ⟨rfl, hb1⟩
    go_wp2_with fail
    go_ret
    exact ⟨ret_int HV.out.symm, hb1⟩
  · obtain ⟨h3, h12, hpt, _⟩ := polyB_iff.1 h
    rw [hl.out] at h3 h12 hpt
    have Hp := Lib.hid (show ∀ k, k < n → PtIn 50 (nthR xss k) from fun k hk => isPt_in (hpt k hk))
    clear hpt
    have HV := Lib.hid (show bndV xss = bndTo xss n by simp [bndV, h, hl.out])
    go_enter Tryz.func20, Tryz.ntmps20
    go_wp2_with fail
    refine (implIsPolygon_any _ _ _ _ _ hn hx).mono ?_
    rw [h]
    rintro e w1 ⟨rfl, hb1⟩
    go_wp2_with fail
    go_loopw [3, 11] (fun s i wr => ∃ k : Nat, k ≤ n ∧ i = .int .i64 k ∧ s = .int .i64 (bndTo xss k) ∧ Below w.heap.size w wr) (fun _ i _ => n - (intOf i).toNat)
    case atStart => exact ⟨0, by omega, rfl, rfl, hb1⟩
    case round =>
      obtain ⟨k, hk, rfl, rfl, hb⟩ := hrel
      by_cases hlt : k < n
      · generalize wr = W at *
        obtain ⟨b, o, rfl⟩ : ∃ b o, p = some ⟨b, o, none⟩ := by
          obtain ⟨b, o, _, _, _, e, _⟩ := hx.cell k hlt
          exact ⟨b, o, e⟩
        obtain ⟨k1, hk1⟩ : ∃ k1, k1 = (k + 1) % n := ⟨_, rfl⟩
        have hk1l : k1 < n := by rw [hk1]; exact Nat.mod_lt _ (by omega)
        obtain ⟨qa, da, ca, hbl, ia⟩ := hx.row2 rfl hlt (Hp.out k hlt).len
        obtain ⟨q1, d1, c1, _, i1⟩ := hx.row2 rfl hk1l (Hp.out k1 hk1l).len
        have HE : Hid (bndTo xss (k + 1) = wrap64 (bndTo xss k + gcdL (minusL (nthR xss k1) (nthR xss k)))) := Lib.hid (by rw [bndTo, sideL, hl.out, ← hk1])
        have hm1 : IntKind.i64.wrap ((k : Int) + 1) = (k : Int) + 1 := by rw [wrapEq]; exact wrap64_id (by omega) (by omega)
        have hm3 : ((k : Int) + 1).tmod (n : Int) = (k1 : Int) := by rw [hk1]; exact (Int.ofNat_tmod (k + 1) n).symm
        have hm5 : ((k : Int) + 1) % (n : Int) = (k1 : Int) := by rw [hk1]; exact (Int.natCast_emod (k + 1) n).symm
        have hz1 : (0 : Int) ≤ (k1 : Int) := by omega
        have hz3 : (k1 : Int) < (n : Int) := by omega
        have hk0 : ¬ ((n : Int) = 0) := by omega
        have hk0' : ((n : Int) == 0) = false := by simpa using hk0
        have hk0n : ¬ (n = 0) := by omega
        have hm7 : IntKind.i64.wrap (k1 : Int) = (k1 : Int) := by rw [wrapEq]; exact wrap64_id (by omega) (by omega)
        replace ca := (hb.cell hbl).trans ca
        replace c1 := (hb.cell hbl).trans c1
        clear hk1
        go_wp2_with fail
        refine (minus_any _ _ _ _ _ _ _ (i1.below hb) (ia.below hb) ((Hp.out k1 hk1l).wide (by omega)) ((Hp.out k hlt).wide (by omega))).mono ?_
        rintro e w2 ⟨p2, c2, rfl, ho2, hb2⟩
        go_wp2_with fail
        refine (gcdAll_any _ _ _ _ _ (by omega) ho2.ints (side_in (Hp.out k1 hk1l) (Hp.out k hlt))).mono ?_
        rintro e w3 ⟨rfl, z, rfl⟩
        have hb4 := (Below.step hb hb2).trans (belowDrawn _ _ z)
        go_wp2_with fail
        go_roundw
        case rel => exact ⟨k + 1, by omega, by go_num, by rw [HE.out], hb4⟩
        case measure => simp [intOf]; omega
      · obtain rfl : k = n := by omega
        go_wp2
        go_ret
        exact ⟨ret_int HV.out.symm, hb⟩

set_option maxHeartbeats 1000000 in
theorem specBoundaryCount_any (p : Option Addr) (n c : Nat) (xss : List (List Int)) (w : World) (hn : n ≤ 9223372036854775807) (hx : Intss w p n xss) :
    Calls Tryz.prog 21 #[.slice p n c] w (Ret (.int .i64 (bndV xss)) w) := by
  have hl := Lib.hid hx.len
  cases h : polyB xss
  · have HV := Lib.hid (show bndV xss = -1 by simp [bndV, h])
    go_enter Tryz.func21, Tryz.ntmps21
    go_wp2_with fail
    refine (specIsPolygon_any _ _ _ _ _ hn hx).mono ?_
    rw [h]
    rintro e w1 ⟨rfl, hb1⟩
    go_wp2_with fail
    go_ret
    exact ⟨ret_int HV.out.symm, hb1⟩
  · obtain ⟨h3, h12, hpt, _⟩ := polyB_iff.1 h
    rw [hl.out] at h3 h12 hpt
    have Hp := Lib.hid (show ∀ k, k < n → PtIn 50 (nthR xss k) from fun k hk => isPt_in (hpt k hk))
    clear hpt
    have HV := Lib.hid (show bndV xss = bndTo xss n by simp [bndV, h, hl.out])
    go_enter Tryz.func21, Tryz.ntmps21
    go_wp2_with fail
    refine (specIsPolygon_any _ _ _ _ _ hn hx).mono ?_
    rw [h]
    rintro e w1 ⟨rfl, hb1⟩
    go_wp2_with fail
    go_loopw [3, 4] (fun s i wr => ∃ k : Nat, k ≤ n ∧ i = .int .i64 k ∧ s = .int .i64 (bndTo xss k) ∧ Below w.heap.size w wr) (fun _ i _ => n - (intOf i).toNat)
    case atStart => exact ⟨0, by omega, rfl, rfl, hb1⟩
    case round =>
      obtain ⟨k, hk, rfl, rfl, hb⟩ := hrel
      by_cases hlt : k < n
      · generalize wr = W at *
        have HE : Hid (bndTo xss (k + 1) = wrap64 (bndTo xss k + gcdL (sideL xss k))) := rfl
        go_wp2_with fail
        refine (l7Side_any _ _ _ _ _ _ h3 h12 hlt (hx.below hb) Hp.out).mono ?_
        rintro e w2 ⟨rfl, hb2⟩
        have hb4 := Below.step hb hb2
        go_wp2_with fail
        go_roundw
        case rel => exact ⟨k + 1, by omega, by go_num, by rw [HE.out], hb4⟩
        case measure => simp [intOf]; omega
      · obtain rfl : k = n := by omega
        go_wp2
        go_ret
        exact ⟨ret_int HV.out.symm, hb⟩

end Go.Proofs.YthdonnkekggbbaaGreatDoor
