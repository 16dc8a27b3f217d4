/- The reference's draws of texts, turned a little. Conditions: sizes. -/
import Derived.Test.YtpfklkmmhdpphadGreatDoorVecDraw3
import Derived.Test.YtpfklkmmhdpphadGreatDoorAnyU
namespace Go.Proofs.YtpfklkmmhdpphadGreatDoor
open Go.RowKit
set_option linter.unusedVariables false
set_option linter.unusedSimpArgs false
set_option maxRecDepth 100000

theorem size_of (l : List UInt8) : (⟨l.toArray⟩ : ByteArray).size = l.length := by simp [ByteArray.size]

theorem l1Turned_any (g b : Nat) (p : Option Addr) (n c m c2 : Nat) (xs : List Int) (s : List UInt8) (ss : List (List UInt8)) (w : World) (hn : n ≤ 1048576) (hx : Cur w g p n c xs) (hm1 : 1 ≤ m) (hm2 : m ≤ 256)
    (hs : ∀ k, k < m → w.cell? ⟨b, k, none⟩ = some (.string ⟨(nthS ss k).toArray⟩)) (hss : ∀ k, k < m → (nthS ss k).length ≤ 5) (hl : s.length ≤ 1000) (hb : b ≠ g) :
    Calls Tryz.prog 46 #[.pointer (some ⟨g, 0, none⟩), .string ⟨s.toArray⟩, .slice (some ⟨b, 0, none⟩) m c2] w fun e w' => ∃ l : List UInt8, e = .returned (.string ⟨l.toArray⟩) ∧ l.length ≤ s.length + 5 ∧ Drawn1 w g p n c xs w' := by
  have hsz : (⟨s.toArray⟩ : ByteArray).size = s.length := by simp [ByteArray.size]
  go_enter Tryz.func46, Tryz.ntmps46
  go_wp2_with fail
  refine (l1Below_any _ _ _ _ _ _ _ hn hx (by omega) (by omega)).mono ?_
  rintro e w1 ⟨x, rfl, hx0, hx1, hD⟩
  obtain ⟨k, rfl⟩ : ∃ k : Nat, x = (k : Int) := ⟨x.toNat, by omega⟩
  have hk : k ≤ s.length := by omega
  go_wp2_with fail
  refine (l1Below_any _ _ _ _ _ _ _ hn hD.1 (by omega) (by omega)).mono ?_
  rintro e w2 ⟨y, rfl, hy0, hy1, hD2⟩
  have hD3 := hD.step hD2
  obtain ⟨S, hS⟩ : ∃ S : ByteArray, S = ⟨s.toArray⟩ := ⟨_, rfl⟩
  rw [← hS] at hsz ⊢
  have hkS : (k : Int) ≤ (S.size : Int) := by omega
  have hkS2 : k ≤ S.size := by omega
  have HS := Lib.hid hS
  clear hS
  have hx1' : (S.extract 0 k).size ≤ k := by rw [ByteArray.size_extract]; omega
  have hx2' : (S.extract k s.length).size ≤ s.length - k := by rw [ByteArray.size_extract]; omega
  have back : ∀ B : ByteArray, B.size ≤ s.length + 5 → ∃ l : List UInt8, Ending.returned (.string B) = .returned (.string ⟨l.toArray⟩) ∧ l.length ≤ s.length + 5 := fun B h => ⟨B.data.toList, by rw [mk_eta], by rw [Array.length_toList]; exact h⟩
  have Back := Lib.hid back
  have HX := Lib.hid (And.intro hx1' hx2')
  clear back hx1' hx2'
  by_cases e0 : y = 0
  · subst e0
    have hz : (0 : Int) ≤ (k : Int) := by omega
    have hcd := hD3.1.below (drewBelow w2)
    have hsd : ∀ k, k < m → w2.drew.cell? ⟨b, k, none⟩ = some (.string ⟨(nthS ss k).toArray⟩) := fun k hk => by
      have h := hs k hk
      exact (World.cell?_of_block (hD3.2.block b (World.block_lt_of_cell? w _ h) (by omega))).trans h
    have PK := Lib.hid (l1Pick_any g b p n c m c2 xs ss w2.drew hn hcd hm1 hm2 hsd hb)
    have HSS := Lib.hid hss
    clear hcd hsd hs hss
    go_wp2_with fail
    refine wp_region_u 11 12 (fun _ => True) (by kernel_rfl) rfl (by (try dsimp only); all_goals trivial) (fun hHeld => ?_)
    first
      | (refine WalkU.take (i := 0) (v := ?_) rfl (by kernel_rfl) (by kernel_rfl) (by kernel_rfl) (by kernel_rfl) (fun _ _ _ h => h) (Or.inl ⟨by rfl, ?_⟩) hHeld ?_
         rotate_left
         · (intro w hSw; (try dsimp only at hSw); go_simp; try with_reducible rfl)
         try simp only [Act.put, List.setIfInBounds_toArray, List.set_cons_zero, List.set_cons_succ])
      | (refine WalkU.take (i := 0) (v := undef) rfl (by kernel_rfl) (by kernel_rfl) (by kernel_rfl) (by kernel_rfl) (fun _ _ _ h => h) (Or.inr ⟨by rfl, rfl⟩) hHeld ?_
         try simp only [Act.put, List.setIfInBounds_toArray, List.set_cons_zero, List.set_cons_succ])
      | (refine WalkU.one (i := 0) rfl (by kernel_rfl) (fun K hK => ?_)
         first
           | (first | (go_simp; go_at_call 74; (with_reducible refine PK.out.mono ?_); rintro e w5 ⟨j, hj, rfl, hD5⟩; have ht := HSS.out j hj; have a1 : ∀ W, (Op.stringOp .add (S.extract 0 k) ⟨(nthS ss j).toArray⟩).run Tryz.prog W = .ok (.string (S.extract 0 k ++ ⟨(nthS ss j).toArray⟩)) W := fun W => run_string_add_sum (w := W) _ _ (by have h1 := HX.out.1; have h3 := size_of (nthS ss j); omega); have a2 : ∀ W, (Op.stringOp .add (S.extract 0 k ++ ⟨(nthS ss j).toArray⟩) (S.extract k s.length)).run Tryz.prog W = .ok (.string (S.extract 0 k ++ ⟨(nthS ss j).toArray⟩ ++ S.extract k s.length)) W := fun W => run_string_add_sum (w := W) _ _ (by have h1 := HX.out.1; have h2 := HX.out.2; rw [ByteArray.size_append]; have h3 := size_of (nthS ss j); omega)))
           | (go_simp; (first | (go_simp; go_at_call 74; (with_reducible refine PK.out.mono ?_); rintro e w5 ⟨j, hj, rfl, hD5⟩; have ht := HSS.out j hj; have a1 : ∀ W, (Op.stringOp .add (S.extract 0 k) ⟨(nthS ss j).toArray⟩).run Tryz.prog W = .ok (.string (S.extract 0 k ++ ⟨(nthS ss j).toArray⟩)) W := fun W => run_string_add_sum (w := W) _ _ (by have h1 := HX.out.1; have h3 := size_of (nthS ss j); omega); have a2 : ∀ W, (Op.stringOp .add (S.extract 0 k ++ ⟨(nthS ss j).toArray⟩) (S.extract k s.length)).run Tryz.prog W = .ok (.string (S.extract 0 k ++ ⟨(nthS ss j).toArray⟩ ++ S.extract k s.length)) W := fun W => run_string_add_sum (w := W) _ _ (by have h1 := HX.out.1; have h2 := HX.out.2; rw [ByteArray.size_append]; have h3 := size_of (nthS ss j); omega))))
           | go_simp
         refine hK.out _ _ ?_ (fun hHeld => ?_)
         · ((try dsimp only); all_goals trivial)
         clear hK K
         try simp only [Act.put, List.setIfInBounds_toArray, List.set_cons_zero, List.set_cons_succ])
    first
      | (refine WalkU.take (i := 1) (v := ?_) rfl (by kernel_rfl) (by kernel_rfl) (by kernel_rfl) (by kernel_rfl) (fun _ _ _ h => h) (Or.inl ⟨by rfl, ?_⟩) hHeld ?_
         rotate_left
         · (intro w hSw; (try dsimp only at hSw); go_simp; try with_reducible rfl)
         try simp only [Act.put, List.setIfInBounds_toArray, List.set_cons_zero, List.set_cons_succ])
      | (refine WalkU.take (i := 1) (v := undef) rfl (by kernel_rfl) (by kernel_rfl) (by kernel_rfl) (by kernel_rfl) (fun _ _ _ h => h) (Or.inr ⟨by rfl, rfl⟩) hHeld ?_
         try simp only [Act.put, List.setIfInBounds_toArray, List.set_cons_zero, List.set_cons_succ])
      | (refine WalkU.one (i := 1) rfl (by kernel_rfl) (fun K hK => ?_)
         first
           | (first | (go_simp; go_at_call 74; (with_reducible refine PK.out.mono ?_); rintro e w5 ⟨j, hj, rfl, hD5⟩; have ht := HSS.out j hj; have a1 : ∀ W, (Op.stringOp .add (S.extract 0 k) ⟨(nthS ss j).toArray⟩).run Tryz.prog W = .ok (.string (S.extract 0 k ++ ⟨(nthS ss j).toArray⟩)) W := fun W => run_string_add_sum (w := W) _ _ (by have h1 := HX.out.1; have h3 := size_of (nthS ss j); omega); have a2 : ∀ W, (Op.stringOp .add (S.extract 0 k ++ ⟨(nthS ss j).toArray⟩) (S.extract k s.length)).run Tryz.prog W = .ok (.string (S.extract 0 k ++ ⟨(nthS ss j).toArray⟩ ++ S.extract k s.length)) W := fun W => run_string_add_sum (w := W) _ _ (by have h1 := HX.out.1; have h2 := HX.out.2; rw [ByteArray.size_append]; have h3 := size_of (nthS ss j); omega)))
           | (go_simp; (first | (go_simp; go_at_call 74; (with_reducible refine PK.out.mono ?_); rintro e w5 ⟨j, hj, rfl, hD5⟩; have ht := HSS.out j hj; have a1 : ∀ W, (Op.stringOp .add (S.extract 0 k) ⟨(nthS ss j).toArray⟩).run Tryz.prog W = .ok (.string (S.extract 0 k ++ ⟨(nthS ss j).toArray⟩)) W := fun W => run_string_add_sum (w := W) _ _ (by have h1 := HX.out.1; have h3 := size_of (nthS ss j); omega); have a2 : ∀ W, (Op.stringOp .add (S.extract 0 k ++ ⟨(nthS ss j).toArray⟩) (S.extract k s.length)).run Tryz.prog W = .ok (.string (S.extract 0 k ++ ⟨(nthS ss j).toArray⟩ ++ S.extract k s.length)) W := fun W => run_string_add_sum (w := W) _ _ (by have h1 := HX.out.1; have h2 := HX.out.2; rw [ByteArray.size_append]; have h3 := size_of (nthS ss j); omega))))
           | go_simp
         refine hK.out _ _ ?_ (fun hHeld => ?_)
         · ((try dsimp only); all_goals trivial)
         clear hK K
         try simp only [Act.put, List.setIfInBounds_toArray, List.set_cons_zero, List.set_cons_succ])
    first
      | (refine WalkU.take (i := 2) (v := ?_) rfl (by kernel_rfl) (by kernel_rfl) (by kernel_rfl) (by kernel_rfl) (fun _ _ _ h => h) (Or.inl ⟨by rfl, ?_⟩) hHeld ?_
         rotate_left
         · (intro w hSw; (try dsimp only at hSw); go_simp; try with_reducible rfl)
         try simp only [Act.put, List.setIfInBounds_toArray, List.set_cons_zero, List.set_cons_succ])
      | (refine WalkU.take (i := 2) (v := undef) rfl (by kernel_rfl) (by kernel_rfl) (by kernel_rfl) (by kernel_rfl) (fun _ _ _ h => h) (Or.inr ⟨by rfl, rfl⟩) hHeld ?_
         try simp only [Act.put, List.setIfInBounds_toArray, List.set_cons_zero, List.set_cons_succ])
      | (refine WalkU.one (i := 2) rfl (by kernel_rfl) (fun K hK => ?_)
         first
           | (first | (go_simp; go_at_call 74; (with_reducible refine PK.out.mono ?_); rintro e w5 ⟨j, hj, rfl, hD5⟩; have ht := HSS.out j hj; have a1 : ∀ W, (Op.stringOp .add (S.extract 0 k) ⟨(nthS ss j).toArray⟩).run Tryz.prog W = .ok (.string (S.extract 0 k ++ ⟨(nthS ss j).toArray⟩)) W := fun W => run_string_add_sum (w := W) _ _ (by have h1 := HX.out.1; have h3 := size_of (nthS ss j); omega); have a2 : ∀ W, (Op.stringOp .add (S.extract 0 k ++ ⟨(nthS ss j).toArray⟩) (S.extract k s.length)).run Tryz.prog W = .ok (.string (S.extract 0 k ++ ⟨(nthS ss j).toArray⟩ ++ S.extract k s.length)) W := fun W => run_string_add_sum (w := W) _ _ (by have h1 := HX.out.1; have h2 := HX.out.2; rw [ByteArray.size_append]; have h3 := size_of (nthS ss j); omega)))
           | (go_simp; (first | (go_simp; go_at_call 74; (with_reducible refine PK.out.mono ?_); rintro e w5 ⟨j, hj, rfl, hD5⟩; have ht := HSS.out j hj; have a1 : ∀ W, (Op.stringOp .add (S.extract 0 k) ⟨(nthS ss j).toArray⟩).run Tryz.prog W = .ok (.string (S.extract 0 k ++ ⟨(nthS ss j).toArray⟩)) W := fun W => run_string_add_sum (w := W) _ _ (by have h1 := HX.out.1; have h3 := size_of (nthS ss j); omega); have a2 : ∀ W, (Op.stringOp .add (S.extract 0 k ++ ⟨(nthS ss j).toArray⟩) (S.extract k s.length)).run Tryz.prog W = .ok (.string (S.extract 0 k ++ ⟨(nthS ss j).toArray⟩ ++ S.extract k s.length)) W := fun W => run_string_add_sum (w := W) _ _ (by have h1 := HX.out.1; have h2 := HX.out.2; rw [ByteArray.size_append]; have h3 := size_of (nthS ss j); omega))))
           | go_simp
         refine hK.out _ _ ?_ (fun hHeld => ?_)
         · ((try dsimp only); all_goals trivial)
         clear hK K
         try simp only [Act.put, List.setIfInBounds_toArray, List.set_cons_zero, List.set_cons_succ])
    first
      | (refine WalkU.take (i := 3) (v := ?_) rfl (by kernel_rfl) (by kernel_rfl) (by kernel_rfl) (by kernel_rfl) (fun _ _ _ h => h) (Or.inl ⟨by rfl, ?_⟩) hHeld ?_
         rotate_left
         · (intro w hSw; (try dsimp only at hSw); go_simp; try with_reducible rfl)
         try simp only [Act.put, List.setIfInBounds_toArray, List.set_cons_zero, List.set_cons_succ])
      | (refine WalkU.take (i := 3) (v := undef) rfl (by kernel_rfl) (by kernel_rfl) (by kernel_rfl) (by kernel_rfl) (fun _ _ _ h => h) (Or.inr ⟨by rfl, rfl⟩) hHeld ?_
         try simp only [Act.put, List.setIfInBounds_toArray, List.set_cons_zero, List.set_cons_succ])
      | (refine WalkU.one (i := 3) rfl (by kernel_rfl) (fun K hK => ?_)
         first
           | (first | (go_simp; go_at_call 74; (with_reducible refine PK.out.mono ?_); rintro e w5 ⟨j, hj, rfl, hD5⟩; have ht := HSS.out j hj; have a1 : ∀ W, (Op.stringOp .add (S.extract 0 k) ⟨(nthS ss j).toArray⟩).run Tryz.prog W = .ok (.string (S.extract 0 k ++ ⟨(nthS ss j).toArray⟩)) W := fun W => run_string_add_sum (w := W) _ _ (by have h1 := HX.out.1; have h3 := size_of (nthS ss j); omega); have a2 : ∀ W, (Op.stringOp .add (S.extract 0 k ++ ⟨(nthS ss j).toArray⟩) (S.extract k s.length)).run Tryz.prog W = .ok (.string (S.extract 0 k ++ ⟨(nthS ss j).toArray⟩ ++ S.extract k s.length)) W := fun W => run_string_add_sum (w := W) _ _ (by have h1 := HX.out.1; have h2 := HX.out.2; rw [ByteArray.size_append]; have h3 := size_of (nthS ss j); omega)))
           | (go_simp; (first | (go_simp; go_at_call 74; (with_reducible refine PK.out.mono ?_); rintro e w5 ⟨j, hj, rfl, hD5⟩; have ht := HSS.out j hj; have a1 : ∀ W, (Op.stringOp .add (S.extract 0 k) ⟨(nthS ss j).toArray⟩).run Tryz.prog W = .ok (.string (S.extract 0 k ++ ⟨(nthS ss j).toArray⟩)) W := fun W => run_string_add_sum (w := W) _ _ (by have h1 := HX.out.1; have h3 := size_of (nthS ss j); omega); have a2 : ∀ W, (Op.stringOp .add (S.extract 0 k ++ ⟨(nthS ss j).toArray⟩) (S.extract k s.length)).run Tryz.prog W = .ok (.string (S.extract 0 k ++ ⟨(nthS ss j).toArray⟩ ++ S.extract k s.length)) W := fun W => run_string_add_sum (w := W) _ _ (by have h1 := HX.out.1; have h2 := HX.out.2; rw [ByteArray.size_append]; have h3 := size_of (nthS ss j); omega))))
           | go_simp
         refine hK.out _ _ ?_ (fun hHeld => ?_)
         · ((try dsimp only); all_goals trivial)
         clear hK K
         try simp only [Act.put, List.setIfInBounds_toArray, List.set_cons_zero, List.set_cons_succ])
    first
      | (refine WalkU.take (i := 4) (v := ?_) rfl (by kernel_rfl) (by kernel_rfl) (by kernel_rfl) (by kernel_rfl) (fun _ _ _ h => h) (Or.inl ⟨by rfl, ?_⟩) hHeld ?_
         rotate_left
         · (intro w hSw; (try dsimp only at hSw); go_simp; try with_reducible rfl)
         try simp only [Act.put, List.setIfInBounds_toArray, List.set_cons_zero, List.set_cons_succ])
      | (refine WalkU.take (i := 4) (v := undef) rfl (by kernel_rfl) (by kernel_rfl) (by kernel_rfl) (by kernel_rfl) (fun _ _ _ h => h) (Or.inr ⟨by rfl, rfl⟩) hHeld ?_
         try simp only [Act.put, List.setIfInBounds_toArray, List.set_cons_zero, List.set_cons_succ])
      | (refine WalkU.one (i := 4) rfl (by kernel_rfl) (fun K hK => ?_)
         first
           | (first | (go_simp; go_at_call 74; (with_reducible refine PK.out.mono ?_); rintro e w5 ⟨j, hj, rfl, hD5⟩; have ht := HSS.out j hj; have a1 : ∀ W, (Op.stringOp .add (S.extract 0 k) ⟨(nthS ss j).toArray⟩).run Tryz.prog W = .ok (.string (S.extract 0 k ++ ⟨(nthS ss j).toArray⟩)) W := fun W => run_string_add_sum (w := W) _ _ (by have h1 := HX.out.1; have h3 := size_of (nthS ss j); omega); have a2 : ∀ W, (Op.stringOp .add (S.extract 0 k ++ ⟨(nthS ss j).toArray⟩) (S.extract k s.length)).run Tryz.prog W = .ok (.string (S.extract 0 k ++ ⟨(nthS ss j).toArray⟩ ++ S.extract k s.length)) W := fun W => run_string_add_sum (w := W) _ _ (by have h1 := HX.out.1; have h2 := HX.out.2; rw [ByteArray.size_append]; have h3 := size_of (nthS ss j); omega)))
           | (go_simp; (first | (go_simp; go_at_call 74; (with_reducible refine PK.out.mono ?_); rintro e w5 ⟨j, hj, rfl, hD5⟩; have ht := HSS.out j hj; have a1 : ∀ W, (Op.stringOp .add (S.extract 0 k) ⟨(nthS ss j).toArray⟩).run Tryz.prog W = .ok (.string (S.extract 0 k ++ ⟨(nthS ss j).toArray⟩)) W := fun W => run_string_add_sum (w := W) _ _ (by have h1 := HX.out.1; have h3 := size_of (nthS ss j); omega); have a2 : ∀ W, (Op.stringOp .add (S.extract 0 k ++ ⟨(nthS ss j).toArray⟩) (S.extract k s.length)).run Tryz.prog W = .ok (.string (S.extract 0 k ++ ⟨(nthS ss j).toArray⟩ ++ S.extract k s.length)) W := fun W => run_string_add_sum (w := W) _ _ (by have h1 := HX.out.1; have h2 := HX.out.2; rw [ByteArray.size_append]; have h3 := size_of (nthS ss j); omega))))
           | go_simp
         refine hK.out _ _ ?_ (fun hHeld => ?_)
         · ((try dsimp only); all_goals trivial)
         clear hK K
         try simp only [Act.put, List.setIfInBounds_toArray, List.set_cons_zero, List.set_cons_succ])
    first
      | (refine WalkU.take (i := 7) (v := ?_) rfl (by kernel_rfl) (by kernel_rfl) (by kernel_rfl) (by kernel_rfl) (fun _ _ _ h => h) (Or.inl ⟨by rfl, ?_⟩) hHeld ?_
         rotate_left
         · (intro w hSw; (try dsimp only at hSw); go_simp; try with_reducible rfl)
         try simp only [Act.put, List.setIfInBounds_toArray, List.set_cons_zero, List.set_cons_succ])
      | (refine WalkU.take (i := 7) (v := undef) rfl (by kernel_rfl) (by kernel_rfl) (by kernel_rfl) (by kernel_rfl) (fun _ _ _ h => h) (Or.inr ⟨by rfl, rfl⟩) hHeld ?_
         try simp only [Act.put, List.setIfInBounds_toArray, List.set_cons_zero, List.set_cons_succ])
      | (refine WalkU.one (i := 7) rfl (by kernel_rfl) (fun K hK => ?_)
         first
           | (first | (go_simp; go_at_call 74; (with_reducible refine PK.out.mono ?_); rintro e w5 ⟨j, hj, rfl, hD5⟩; have ht := HSS.out j hj; have a1 : ∀ W, (Op.stringOp .add (S.extract 0 k) ⟨(nthS ss j).toArray⟩).run Tryz.prog W = .ok (.string (S.extract 0 k ++ ⟨(nthS ss j).toArray⟩)) W := fun W => run_string_add_sum (w := W) _ _ (by have h1 := HX.out.1; have h3 := size_of (nthS ss j); omega); have a2 : ∀ W, (Op.stringOp .add (S.extract 0 k ++ ⟨(nthS ss j).toArray⟩) (S.extract k s.length)).run Tryz.prog W = .ok (.string (S.extract 0 k ++ ⟨(nthS ss j).toArray⟩ ++ S.extract k s.length)) W := fun W => run_string_add_sum (w := W) _ _ (by have h1 := HX.out.1; have h2 := HX.out.2; rw [ByteArray.size_append]; have h3 := size_of (nthS ss j); omega)))
           | (go_simp; (first | (go_simp; go_at_call 74; (with_reducible refine PK.out.mono ?_); rintro e w5 ⟨j, hj, rfl, hD5⟩; have ht := HSS.out j hj; have a1 : ∀ W, (Op.stringOp .add (S.extract 0 k) ⟨(nthS ss j).toArray⟩).run Tryz.prog W = .ok (.string (S.extract 0 k ++ ⟨(nthS ss j).toArray⟩)) W := fun W => run_string_add_sum (w := W) _ _ (by have h1 := HX.out.1; have h3 := size_of (nthS ss j); omega); have a2 : ∀ W, (Op.stringOp .add (S.extract 0 k ++ ⟨(nthS ss j).toArray⟩) (S.extract k s.length)).run Tryz.prog W = .ok (.string (S.extract 0 k ++ ⟨(nthS ss j).toArray⟩ ++ S.extract k s.length)) W := fun W => run_string_add_sum (w := W) _ _ (by have h1 := HX.out.1; have h2 := HX.out.2; rw [ByteArray.size_append]; have h3 := size_of (nthS ss j); omega))))
           | go_simp
         refine hK.out _ _ ?_ (fun hHeld => ?_)
         · ((try dsimp only); all_goals trivial)
         clear hK K
         try simp only [Act.put, List.setIfInBounds_toArray, List.set_cons_zero, List.set_cons_succ])
    first
      | (refine WalkU.take (i := 8) (v := ?_) rfl (by kernel_rfl) (by kernel_rfl) (by kernel_rfl) (by kernel_rfl) (fun _ _ _ h => h) (Or.inl ⟨by rfl, ?_⟩) hHeld ?_
         rotate_left
         · (intro w hSw; (try dsimp only at hSw); go_simp; try with_reducible rfl)
         try simp only [Act.put, List.setIfInBounds_toArray, List.set_cons_zero, List.set_cons_succ])
      | (refine WalkU.take (i := 8) (v := undef) rfl (by kernel_rfl) (by kernel_rfl) (by kernel_rfl) (by kernel_rfl) (fun _ _ _ h => h) (Or.inr ⟨by rfl, rfl⟩) hHeld ?_
         try simp only [Act.put, List.setIfInBounds_toArray, List.set_cons_zero, List.set_cons_succ])
      | (refine WalkU.one (i := 8) rfl (by kernel_rfl) (fun K hK => ?_)
         first
           | (first | (go_simp; go_at_call 74; (with_reducible refine PK.out.mono ?_); rintro e w5 ⟨j, hj, rfl, hD5⟩; have ht := HSS.out j hj; have a1 : ∀ W, (Op.stringOp .add (S.extract 0 k) ⟨(nthS ss j).toArray⟩).run Tryz.prog W = .ok (.string (S.extract 0 k ++ ⟨(nthS ss j).toArray⟩)) W := fun W => run_string_add_sum (w := W) _ _ (by have h1 := HX.out.1; have h3 := size_of (nthS ss j); omega); have a2 : ∀ W, (Op.stringOp .add (S.extract 0 k ++ ⟨(nthS ss j).toArray⟩) (S.extract k s.length)).run Tryz.prog W = .ok (.string (S.extract 0 k ++ ⟨(nthS ss j).toArray⟩ ++ S.extract k s.length)) W := fun W => run_string_add_sum (w := W) _ _ (by have h1 := HX.out.1; have h2 := HX.out.2; rw [ByteArray.size_append]; have h3 := size_of (nthS ss j); omega)))
           | (go_simp; (first | (go_simp; go_at_call 74; (with_reducible refine PK.out.mono ?_); rintro e w5 ⟨j, hj, rfl, hD5⟩; have ht := HSS.out j hj; have a1 : ∀ W, (Op.stringOp .add (S.extract 0 k) ⟨(nthS ss j).toArray⟩).run Tryz.prog W = .ok (.string (S.extract 0 k ++ ⟨(nthS ss j).toArray⟩)) W := fun W => run_string_add_sum (w := W) _ _ (by have h1 := HX.out.1; have h3 := size_of (nthS ss j); omega); have a2 : ∀ W, (Op.stringOp .add (S.extract 0 k ++ ⟨(nthS ss j).toArray⟩) (S.extract k s.length)).run Tryz.prog W = .ok (.string (S.extract 0 k ++ ⟨(nthS ss j).toArray⟩ ++ S.extract k s.length)) W := fun W => run_string_add_sum (w := W) _ _ (by have h1 := HX.out.1; have h2 := HX.out.2; rw [ByteArray.size_append]; have h3 := size_of (nthS ss j); omega))))
           | go_simp
         refine hK.out _ _ ?_ (fun hHeld => ?_)
         · ((try dsimp only); all_goals trivial)
         clear hK K
         try simp only [Act.put, List.setIfInBounds_toArray, List.set_cons_zero, List.set_cons_succ])
    first
      | (refine WalkU.take (i := 9) (v := ?_) rfl (by kernel_rfl) (by kernel_rfl) (by kernel_rfl) (by kernel_rfl) (fun _ _ _ h => h) (Or.inl ⟨by rfl, ?_⟩) hHeld ?_
         rotate_left
         · (intro w hSw; (try dsimp only at hSw); go_simp; try with_reducible rfl)
         try simp only [Act.put, List.setIfInBounds_toArray, List.set_cons_zero, List.set_cons_succ])
      | (refine WalkU.take (i := 9) (v := undef) rfl (by kernel_rfl) (by kernel_rfl) (by kernel_rfl) (by kernel_rfl) (fun _ _ _ h => h) (Or.inr ⟨by rfl, rfl⟩) hHeld ?_
         try simp only [Act.put, List.setIfInBounds_toArray, List.set_cons_zero, List.set_cons_succ])
      | (refine WalkU.one (i := 9) rfl (by kernel_rfl) (fun K hK => ?_)
         first
           | (first | (go_simp; go_at_call 74; (with_reducible refine PK.out.mono ?_); rintro e w5 ⟨j, hj, rfl, hD5⟩; have ht := HSS.out j hj; have a1 : ∀ W, (Op.stringOp .add (S.extract 0 k) ⟨(nthS ss j).toArray⟩).run Tryz.prog W = .ok (.string (S.extract 0 k ++ ⟨(nthS ss j).toArray⟩)) W := fun W => run_string_add_sum (w := W) _ _ (by have h1 := HX.out.1; have h3 := size_of (nthS ss j); omega); have a2 : ∀ W, (Op.stringOp .add (S.extract 0 k ++ ⟨(nthS ss j).toArray⟩) (S.extract k s.length)).run Tryz.prog W = .ok (.string (S.extract 0 k ++ ⟨(nthS ss j).toArray⟩ ++ S.extract k s.length)) W := fun W => run_string_add_sum (w := W) _ _ (by have h1 := HX.out.1; have h2 := HX.out.2; rw [ByteArray.size_append]; have h3 := size_of (nthS ss j); omega)))
           | (go_simp; (first | (go_simp; go_at_call 74; (with_reducible refine PK.out.mono ?_); rintro e w5 ⟨j, hj, rfl, hD5⟩; have ht := HSS.out j hj; have a1 : ∀ W, (Op.stringOp .add (S.extract 0 k) ⟨(nthS ss j).toArray⟩).run Tryz.prog W = .ok (.string (S.extract 0 k ++ ⟨(nthS ss j).toArray⟩)) W := fun W => run_string_add_sum (w := W) _ _ (by have h1 := HX.out.1; have h3 := size_of (nthS ss j); omega); have a2 : ∀ W, (Op.stringOp .add (S.extract 0 k ++ ⟨(nthS ss j).toArray⟩) (S.extract k s.length)).run Tryz.prog W = .ok (.string (S.extract 0 k ++ ⟨(nthS ss j).toArray⟩ ++ S.extract k s.length)) W := fun W => run_string_add_sum (w := W) _ _ (by have h1 := HX.out.1; have h2 := HX.out.2; rw [ByteArray.size_append]; have h3 := size_of (nthS ss j); omega))))
           | go_simp
         refine hK.out _ _ ?_ (fun hHeld => ?_)
         · ((try dsimp only); all_goals trivial)
         clear hK K
         try simp only [Act.put, List.setIfInBounds_toArray, List.set_cons_zero, List.set_cons_succ])
    first
      | (refine WalkU.take (i := 5) (v := ?_) rfl (by kernel_rfl) (by kernel_rfl) (by kernel_rfl) (by kernel_rfl) (fun _ _ _ h => h) (Or.inl ⟨by rfl, ?_⟩) hHeld ?_
         rotate_left
         · (intro w hSw; (try dsimp only at hSw); go_simp; try with_reducible rfl)
         try simp only [Act.put, List.setIfInBounds_toArray, List.set_cons_zero, List.set_cons_succ])
      | (refine WalkU.take (i := 5) (v := undef) rfl (by kernel_rfl) (by kernel_rfl) (by kernel_rfl) (by kernel_rfl) (fun _ _ _ h => h) (Or.inr ⟨by rfl, rfl⟩) hHeld ?_
         try simp only [Act.put, List.setIfInBounds_toArray, List.set_cons_zero, List.set_cons_succ])
      | (refine WalkU.one (i := 5) rfl (by kernel_rfl) (fun K hK => ?_)
         first
           | (first | (go_simp; go_at_call 74; (with_reducible refine PK.out.mono ?_); rintro e w5 ⟨j, hj, rfl, hD5⟩; have ht := HSS.out j hj; have a1 : ∀ W, (Op.stringOp .add (S.extract 0 k) ⟨(nthS ss j).toArray⟩).run Tryz.prog W = .ok (.string (S.extract 0 k ++ ⟨(nthS ss j).toArray⟩)) W := fun W => run_string_add_sum (w := W) _ _ (by have h1 := HX.out.1; have h3 := size_of (nthS ss j); omega); have a2 : ∀ W, (Op.stringOp .add (S.extract 0 k ++ ⟨(nthS ss j).toArray⟩) (S.extract k s.length)).run Tryz.prog W = .ok (.string (S.extract 0 k ++ ⟨(nthS ss j).toArray⟩ ++ S.extract k s.length)) W := fun W => run_string_add_sum (w := W) _ _ (by have h1 := HX.out.1; have h2 := HX.out.2; rw [ByteArray.size_append]; have h3 := size_of (nthS ss j); omega)))
           | (go_simp; (first | (go_simp; go_at_call 74; (with_reducible refine PK.out.mono ?_); rintro e w5 ⟨j, hj, rfl, hD5⟩; have ht := HSS.out j hj; have a1 : ∀ W, (Op.stringOp .add (S.extract 0 k) ⟨(nthS ss j).toArray⟩).run Tryz.prog W = .ok (.string (S.extract 0 k ++ ⟨(nthS ss j).toArray⟩)) W := fun W => run_string_add_sum (w := W) _ _ (by have h1 := HX.out.1; have h3 := size_of (nthS ss j); omega); have a2 : ∀ W, (Op.stringOp .add (S.extract 0 k ++ ⟨(nthS ss j).toArray⟩) (S.extract k s.length)).run Tryz.prog W = .ok (.string (S.extract 0 k ++ ⟨(nthS ss j).toArray⟩ ++ S.extract k s.length)) W := fun W => run_string_add_sum (w := W) _ _ (by have h1 := HX.out.1; have h2 := HX.out.2; rw [ByteArray.size_append]; have h3 := size_of (nthS ss j); omega))))
           | go_simp
         refine hK.out _ _ ?_ (fun hHeld => ?_)
         · ((try dsimp only); all_goals trivial)
         clear hK K
         try simp only [Act.put, List.setIfInBounds_toArray, List.set_cons_zero, List.set_cons_succ])
    first
      | (refine WalkU.take (i := 6) (v := ?_) rfl (by kernel_rfl) (by kernel_rfl) (by kernel_rfl) (by kernel_rfl) (fun _ _ _ h => h) (Or.inl ⟨by rfl, ?_⟩) hHeld ?_
         rotate_left
         · (intro w hSw; (try dsimp only at hSw); go_simp; try with_reducible rfl)
         try simp only [Act.put, List.setIfInBounds_toArray, List.set_cons_zero, List.set_cons_succ])
      | (refine WalkU.take (i := 6) (v := undef) rfl (by kernel_rfl) (by kernel_rfl) (by kernel_rfl) (by kernel_rfl) (fun _ _ _ h => h) (Or.inr ⟨by rfl, rfl⟩) hHeld ?_
         try simp only [Act.put, List.setIfInBounds_toArray, List.set_cons_zero, List.set_cons_succ])
      | (refine WalkU.one (i := 6) rfl (by kernel_rfl) (fun K hK => ?_)
         first
           | (first | (go_simp; go_at_call 74; (with_reducible refine PK.out.mono ?_); rintro e w5 ⟨j, hj, rfl, hD5⟩; have ht := HSS.out j hj; have a1 : ∀ W, (Op.stringOp .add (S.extract 0 k) ⟨(nthS ss j).toArray⟩).run Tryz.prog W = .ok (.string (S.extract 0 k ++ ⟨(nthS ss j).toArray⟩)) W := fun W => run_string_add_sum (w := W) _ _ (by have h1 := HX.out.1; have h3 := size_of (nthS ss j); omega); have a2 : ∀ W, (Op.stringOp .add (S.extract 0 k ++ ⟨(nthS ss j).toArray⟩) (S.extract k s.length)).run Tryz.prog W = .ok (.string (S.extract 0 k ++ ⟨(nthS ss j).toArray⟩ ++ S.extract k s.length)) W := fun W => run_string_add_sum (w := W) _ _ (by have h1 := HX.out.1; have h2 := HX.out.2; rw [ByteArray.size_append]; have h3 := size_of (nthS ss j); omega)))
           | (go_simp; (first | (go_simp; go_at_call 74; (with_reducible refine PK.out.mono ?_); rintro e w5 ⟨j, hj, rfl, hD5⟩; have ht := HSS.out j hj; have a1 : ∀ W, (Op.stringOp .add (S.extract 0 k) ⟨(nthS ss j).toArray⟩).run Tryz.prog W = .ok (.string (S.extract 0 k ++ ⟨(nthS ss j).toArray⟩)) W := fun W => run_string_add_sum (w := W) _ _ (by have h1 := HX.out.1; have h3 := size_of (nthS ss j); omega); have a2 : ∀ W, (Op.stringOp .add (S.extract 0 k ++ ⟨(nthS ss j).toArray⟩) (S.extract k s.length)).run Tryz.prog W = .ok (.string (S.extract 0 k ++ ⟨(nthS ss j).toArray⟩ ++ S.extract k s.length)) W := fun W => run_string_add_sum (w := W) _ _ (by have h1 := HX.out.1; have h2 := HX.out.2; rw [ByteArray.size_append]; have h3 := size_of (nthS ss j); omega))))
           | go_simp
         refine hK.out _ _ ?_ (fun hHeld => ?_)
         · ((try dsimp only); all_goals trivial)
         clear hK K
         try simp only [Act.put, List.setIfInBounds_toArray, List.set_cons_zero, List.set_cons_succ])
    first
      | (refine WalkU.take (i := 10) (v := ?_) rfl (by kernel_rfl) (by kernel_rfl) (by kernel_rfl) (by kernel_rfl) (fun _ _ _ h => h) (Or.inl ⟨by rfl, ?_⟩) hHeld ?_
         rotate_left
         · (intro w hSw; (try dsimp only at hSw); go_simp; try with_reducible rfl)
         try simp only [Act.put, List.setIfInBounds_toArray, List.set_cons_zero, List.set_cons_succ])
      | (refine WalkU.take (i := 10) (v := undef) rfl (by kernel_rfl) (by kernel_rfl) (by kernel_rfl) (by kernel_rfl) (fun _ _ _ h => h) (Or.inr ⟨by rfl, rfl⟩) hHeld ?_
         try simp only [Act.put, List.setIfInBounds_toArray, List.set_cons_zero, List.set_cons_succ])
      | (refine WalkU.one (i := 10) rfl (by kernel_rfl) (fun K hK => ?_)
         first
           | (first | (go_simp; go_at_call 74; (with_reducible refine PK.out.mono ?_); rintro e w5 ⟨j, hj, rfl, hD5⟩; have ht := HSS.out j hj; have a1 : ∀ W, (Op.stringOp .add (S.extract 0 k) ⟨(nthS ss j).toArray⟩).run Tryz.prog W = .ok (.string (S.extract 0 k ++ ⟨(nthS ss j).toArray⟩)) W := fun W => run_string_add_sum (w := W) _ _ (by have h1 := HX.out.1; have h3 := size_of (nthS ss j); omega); have a2 : ∀ W, (Op.stringOp .add (S.extract 0 k ++ ⟨(nthS ss j).toArray⟩) (S.extract k s.length)).run Tryz.prog W = .ok (.string (S.extract 0 k ++ ⟨(nthS ss j).toArray⟩ ++ S.extract k s.length)) W := fun W => run_string_add_sum (w := W) _ _ (by have h1 := HX.out.1; have h2 := HX.out.2; rw [ByteArray.size_append]; have h3 := size_of (nthS ss j); omega)))
           | (go_simp; (first | (go_simp; go_at_call 74; (with_reducible refine PK.out.mono ?_); rintro e w5 ⟨j, hj, rfl, hD5⟩; have ht := HSS.out j hj; have a1 : ∀ W, (Op.stringOp .add (S.extract 0 k) ⟨(nthS ss j).toArray⟩).run Tryz.prog W = .ok (.string (S.extract 0 k ++ ⟨(nthS ss j).toArray⟩)) W := fun W => run_string_add_sum (w := W) _ _ (by have h1 := HX.out.1; have h3 := size_of (nthS ss j); omega); have a2 : ∀ W, (Op.stringOp .add (S.extract 0 k ++ ⟨(nthS ss j).toArray⟩) (S.extract k s.length)).run Tryz.prog W = .ok (.string (S.extract 0 k ++ ⟨(nthS ss j).toArray⟩ ++ S.extract k s.length)) W := fun W => run_string_add_sum (w := W) _ _ (by have h1 := HX.out.1; have h2 := HX.out.2; rw [ByteArray.size_append]; have h3 := size_of (nthS ss j); omega))))
           | go_simp
         refine hK.out _ _ ?_ (fun hHeld => ?_)
         · ((try dsimp only); all_goals trivial)
         clear hK K
         try simp only [Act.put, List.setIfInBounds_toArray, List.set_cons_zero, List.set_cons_succ])
    first
      | (refine WalkU.last (i := 11) rfl rfl (by kernel_rfl) (by kernel_rfl) (fun K hK => ?_)
         first
           | (first | (go_simp; go_at_call 74; (with_reducible refine PK.out.mono ?_); rintro e w5 ⟨j, hj, rfl, hD5⟩; have ht := HSS.out j hj; have a1 : ∀ W, (Op.stringOp .add (S.extract 0 k) ⟨(nthS ss j).toArray⟩).run Tryz.prog W = .ok (.string (S.extract 0 k ++ ⟨(nthS ss j).toArray⟩)) W := fun W => run_string_add_sum (w := W) _ _ (by have h1 := HX.out.1; have h3 := size_of (nthS ss j); omega); have a2 : ∀ W, (Op.stringOp .add (S.extract 0 k ++ ⟨(nthS ss j).toArray⟩) (S.extract k s.length)).run Tryz.prog W = .ok (.string (S.extract 0 k ++ ⟨(nthS ss j).toArray⟩ ++ S.extract k s.length)) W := fun W => run_string_add_sum (w := W) _ _ (by have h1 := HX.out.1; have h2 := HX.out.2; rw [ByteArray.size_append]; have h3 := size_of (nthS ss j); omega)))
           | (go_simp; (first | (go_simp; go_at_call 74; (with_reducible refine PK.out.mono ?_); rintro e w5 ⟨j, hj, rfl, hD5⟩; have ht := HSS.out j hj; have a1 : ∀ W, (Op.stringOp .add (S.extract 0 k) ⟨(nthS ss j).toArray⟩).run Tryz.prog W = .ok (.string (S.extract 0 k ++ ⟨(nthS ss j).toArray⟩)) W := fun W => run_string_add_sum (w := W) _ _ (by have h1 := HX.out.1; have h3 := size_of (nthS ss j); omega); have a2 : ∀ W, (Op.stringOp .add (S.extract 0 k ++ ⟨(nthS ss j).toArray⟩) (S.extract k s.length)).run Tryz.prog W = .ok (.string (S.extract 0 k ++ ⟨(nthS ss j).toArray⟩ ++ S.extract k s.length)) W := fun W => run_string_add_sum (w := W) _ _ (by have h1 := HX.out.1; have h2 := HX.out.2; rw [ByteArray.size_append]; have h3 := size_of (nthS ss j); omega))))
           | go_simp
         refine hK.out _ _ ?_
         clear hK K
         try simp only [Act.put, List.setIfInBounds_toArray, List.set_cons_zero, List.set_cons_succ])
    go_wp2_with fail
    go_ret
    obtain ⟨l, h1, h2⟩ := Back.out (S.extract 0 k ++ ⟨(nthS ss j).toArray⟩ ++ S.extract k s.length) (by
      have h1 := HX.out.1
      have h2 := HX.out.2
      have h3 := size_of (nthS ss j)
      rw [ByteArray.size_append, ByteArray.size_append]
      omega)
    refine ⟨l, h1, h2, hD5.1, hD3.2.trans ?_⟩
    exact ⟨hD5.2.os, hD5.2.tape, hD5.2.output, hD5.2.size, hD5.2.block⟩
  · have hy2 : (y == 0) = false := by simpa using e0
    by_cases e1 : y = 1
    · subst e1
      have hz : (0 : Int) ≤ (k : Int) := by omega
      go_wp2_with fail
      go_ret
      obtain ⟨l, h1, h2⟩ := Back.out (S.extract 0 k) (by have := HX.out.1; omega)
      exact ⟨l, h1, h2, hD3⟩
    · have hy3 : (y == 1) = false := by simpa using e1
      go_wp2_with fail
      go_ret
      obtain ⟨l, h1, h2⟩ := Back.out S (by omega)
      exact ⟨l, h1, h2, hD3⟩

def turnTexts : List (List UInt8) := [[44], [45], [49], [48]]
end Go.Proofs.YtpfklkmmhdpphadGreatDoor
