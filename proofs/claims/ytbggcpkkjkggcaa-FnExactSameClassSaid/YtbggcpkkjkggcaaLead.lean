/- Contracts of impl.leader and spec.l8Leader. Conditions: sizes, a diagonal other than nought. -/
import Derived.Test.YtbggcpkkjkggcaaHerm7
namespace Go.Proofs.Ytbggcpkkjkggcaa
open Go.RowKit
set_option linter.unusedVariables false
set_option linter.unusedSimpArgs false
set_option maxRecDepth 100000

def leadTo (H : List (List Int)) (xs : List Int) : Nat → List Int
  | 0 => xs
  | j + 1 => subRow (leadTo H xs j) (floorW (nth (leadTo H xs j) j) (ent H j j)) (nthR H j)
theorem leadTo_length (H : List (List Int)) (xs : List Int) : ∀ j, (leadTo H xs j).length = xs.length
  | 0 => rfl
  | j + 1 => by rw [leadTo, subRow_length, leadTo_length H xs j]

set_option maxHeartbeats 4000000 in
theorem leader_any (p q : Option Addr) (n c d : Nat) (H : List (List Int)) (xs : List Int) (w : World) (h3 : n ≤ 3) (hx : Intss w p n H) (hv : Ints w q n xs) (hs : Sq n H) (hd : ∀ j, j < n → ent H j j ≠ 0) :
    Calls Try.prog 76 #[.slice p n c, .slice q n d] w (NewInts w n (leadTo H xs n)) := by
  have hl := Lib.hid hx.len
  have hl2 := Lib.hid hv.len
  have Hs := Lib.hid hs
  have Hd := Lib.hid hd
  clear hs hd
  go_enter Try.func76, Try.ntmps76
  go_wp2_with fail
  refine (copyInts_any _ _ _ _ _ (by omega) hv).mono ?_
  rintro e w1 ⟨p1, c1, rfl, ho1, hb1⟩
  go_wp2_with fail
  go_loopw [12] (fun i wr => ∃ j : Nat, j ≤ n ∧ i = .int .i64 j ∧ Own wr w.heap.size w1.heap.size p1 n c1 (leadTo H xs j) ∧ w1.heap.size ≤ wr.heap.size ∧ Below w.heap.size w wr) (fun i _ => n - (intOf i).toNat)
  case atStart => exact ⟨0, Nat.zero_le _, rfl, ho1, Nat.le_refl _, hb1⟩
  case round =>
    obtain ⟨j, hj, rfl, hown, hsw, hb⟩ := hrel
    by_cases hlt : j < n
    · generalize wr = W at *
      obtain ⟨b, o, q1, m1, d1, rfl, hc, hm1, hi⟩ := hx.cell j hlt
      have hm3 : m1 = n := by rw [← hi.len]; exact Hs.out.2 j hlt
      subst hm3
      obtain ⟨rb, ro, hq1, hce⟩ := hi.cell j hlt
      subst hq1
      rw [show nth (nthR H j) j = ent H j j from rfl] at hce
      have hou : Out w.heap.size w1.heap.size (some ⟨rb, ro, none⟩) := fun a ha => by
        injection ha with ha; subst ha
        exact .inl (World.block_lt_of_cell? w ⟨rb, ro + j, none⟩ hce)
      replace hc := belowCell hb hc
      replace hce := belowCell hb hce
      replace hi := hi.below hb
      rcases hown.form with ⟨_, h0, _⟩ | ⟨g, rfl, hg1, hg2, hg3, hg4, hg5⟩
      · omega
      have hco := hown.cell (k := j) hlt
      have Hdj := Lib.hid (Hd.out j hlt)
      have HN : Hid (leadTo H xs (j + 1) = subRow (leadTo H xs j) (floorW (nth (leadTo H xs j) j) (ent H j j)) (nthR H j)) := rfl
      generalize leadTo H xs j = X at *
      go_wp2
      refine wp_region_u 11 12 (fun w' => w'.cell? ⟨rb, ro + j, none⟩ = some (.int .i64 (ent H j j)) ∧ w'.cell? ⟨g, j, none⟩ = some (.int .i64 (nth X j))) (by kernel_rfl) rfl (by (try dsimp only); exact ⟨hce, hco⟩) (fun hHeld => ?_)
      first
        | (refine WalkU.take (i := 0) (v := ?_) rfl (by kernel_rfl) (by kernel_rfl) (by kernel_rfl) (by kernel_rfl) (fun _ _ _ h => h) (Or.inl ⟨by rfl, ?_⟩) hHeld ?_
           rotate_left
           · (intro w hSw; (try dsimp only at hSw); go_simp; try with_reducible rfl)
           try simp only [Act.put, List.setIfInBounds_toArray, List.set_cons_zero, List.set_cons_succ])
        | (refine WalkU.take (i := 0) (v := undef) rfl (by kernel_rfl) (by kernel_rfl) (by kernel_rfl) (by kernel_rfl) (fun _ _ _ h => h) (Or.inr ⟨by rfl, rfl⟩) hHeld ?_
           try simp only [Act.put, List.setIfInBounds_toArray, List.set_cons_zero, List.set_cons_succ])
        | (refine WalkU.one (i := 0) rfl (by kernel_rfl) (fun K hK => ?_)
           first
             | (first | (go_at_call 133; (with_reducible refine (down_any _ _ _ Hdj.out).mono ?_); rintro e w4 ⟨rfl, rfl⟩) | (go_at_call 132; (with_reducible refine (less_any w.heap.size w1.heap.size _ _ _ _ _ _ _ _ _ (by omega) hown.drew hi.drew hou).mono ?_); rintro e w5 ⟨rfl, ho5, hw5⟩))
             | (go_simp; (first | (go_at_call 133; (with_reducible refine (down_any _ _ _ Hdj.out).mono ?_); rintro e w4 ⟨rfl, rfl⟩) | (go_at_call 132; (with_reducible refine (less_any w.heap.size w1.heap.size _ _ _ _ _ _ _ _ _ (by omega) hown.drew hi.drew hou).mono ?_); rintro e w5 ⟨rfl, ho5, hw5⟩)))
             | go_simp
           refine hK.out _ _ ?_ (fun hHeld => ?_)
           · ((try dsimp only); exact ⟨hce, hco⟩)
           clear hK K
           try simp only [Act.put, List.setIfInBounds_toArray, List.set_cons_zero, List.set_cons_succ])
      first
        | (refine WalkU.take (i := 1) (v := ?_) rfl (by kernel_rfl) (by kernel_rfl) (by kernel_rfl) (by kernel_rfl) (fun _ _ _ h => h) (Or.inl ⟨by rfl, ?_⟩) hHeld ?_
           rotate_left
           · (intro w hSw; (try dsimp only at hSw); go_simp; try with_reducible rfl)
           try simp only [Act.put, List.setIfInBounds_toArray, List.set_cons_zero, List.set_cons_succ])
        | (refine WalkU.take (i := 1) (v := undef) rfl (by kernel_rfl) (by kernel_rfl) (by kernel_rfl) (by kernel_rfl) (fun _ _ _ h => h) (Or.inr ⟨by rfl, rfl⟩) hHeld ?_
           try simp only [Act.put, List.setIfInBounds_toArray, List.set_cons_zero, List.set_cons_succ])
        | (refine WalkU.one (i := 1) rfl (by kernel_rfl) (fun K hK => ?_)
           first
             | (first | (go_at_call 133; (with_reducible refine (down_any _ _ _ Hdj.out).mono ?_); rintro e w4 ⟨rfl, rfl⟩) | (go_at_call 132; (with_reducible refine (less_any w.heap.size w1.heap.size _ _ _ _ _ _ _ _ _ (by omega) hown.drew hi.drew hou).mono ?_); rintro e w5 ⟨rfl, ho5, hw5⟩))
             | (go_simp; (first | (go_at_call 133; (with_reducible refine (down_any _ _ _ Hdj.out).mono ?_); rintro e w4 ⟨rfl, rfl⟩) | (go_at_call 132; (with_reducible refine (less_any w.heap.size w1.heap.size _ _ _ _ _ _ _ _ _ (by omega) hown.drew hi.drew hou).mono ?_); rintro e w5 ⟨rfl, ho5, hw5⟩)))
             | go_simp
           refine hK.out _ _ ?_ (fun hHeld => ?_)
           · ((try dsimp only); exact ⟨hce, hco⟩)
           clear hK K
           try simp only [Act.put, List.setIfInBounds_toArray, List.set_cons_zero, List.set_cons_succ])
      first
        | (refine WalkU.take (i := 2) (v := ?_) rfl (by kernel_rfl) (by kernel_rfl) (by kernel_rfl) (by kernel_rfl) (fun _ _ _ h => h) (Or.inl ⟨by rfl, ?_⟩) hHeld ?_
           rotate_left
           · (intro w hSw; (try dsimp only at hSw); go_simp; try with_reducible rfl)
           try simp only [Act.put, List.setIfInBounds_toArray, List.set_cons_zero, List.set_cons_succ])
        | (refine WalkU.take (i := 2) (v := undef) rfl (by kernel_rfl) (by kernel_rfl) (by kernel_rfl) (by kernel_rfl) (fun _ _ _ h => h) (Or.inr ⟨by rfl, rfl⟩) hHeld ?_
           try simp only [Act.put, List.setIfInBounds_toArray, List.set_cons_zero, List.set_cons_succ])
        | (refine WalkU.one (i := 2) rfl (by kernel_rfl) (fun K hK => ?_)
           first
             | (first | (go_at_call 133; (with_reducible refine (down_any _ _ _ Hdj.out).mono ?_); rintro e w4 ⟨rfl, rfl⟩) | (go_at_call 132; (with_reducible refine (less_any w.heap.size w1.heap.size _ _ _ _ _ _ _ _ _ (by omega) hown.drew hi.drew hou).mono ?_); rintro e w5 ⟨rfl, ho5, hw5⟩))
             | (go_simp; (first | (go_at_call 133; (with_reducible refine (down_any _ _ _ Hdj.out).mono ?_); rintro e w4 ⟨rfl, rfl⟩) | (go_at_call 132; (with_reducible refine (less_any w.heap.size w1.heap.size _ _ _ _ _ _ _ _ _ (by omega) hown.drew hi.drew hou).mono ?_); rintro e w5 ⟨rfl, ho5, hw5⟩)))
             | go_simp
           refine hK.out _ _ ?_ (fun hHeld => ?_)
           · ((try dsimp only); exact ⟨hce, hco⟩)
           clear hK K
           try simp only [Act.put, List.setIfInBounds_toArray, List.set_cons_zero, List.set_cons_succ])
      first
        | (refine WalkU.take (i := 3) (v := ?_) rfl (by kernel_rfl) (by kernel_rfl) (by kernel_rfl) (by kernel_rfl) (fun _ _ _ h => h) (Or.inl ⟨by rfl, ?_⟩) hHeld ?_
           rotate_left
           · (intro w hSw; (try dsimp only at hSw); go_simp; try with_reducible rfl)
           try simp only [Act.put, List.setIfInBounds_toArray, List.set_cons_zero, List.set_cons_succ])
        | (refine WalkU.take (i := 3) (v := undef) rfl (by kernel_rfl) (by kernel_rfl) (by kernel_rfl) (by kernel_rfl) (fun _ _ _ h => h) (Or.inr ⟨by rfl, rfl⟩) hHeld ?_
           try simp only [Act.put, List.setIfInBounds_toArray, List.set_cons_zero, List.set_cons_succ])
        | (refine WalkU.one (i := 3) rfl (by kernel_rfl) (fun K hK => ?_)
           first
             | (first | (go_at_call 133; (with_reducible refine (down_any _ _ _ Hdj.out).mono ?_); rintro e w4 ⟨rfl, rfl⟩) | (go_at_call 132; (with_reducible refine (less_any w.heap.size w1.heap.size _ _ _ _ _ _ _ _ _ (by omega) hown.drew hi.drew hou).mono ?_); rintro e w5 ⟨rfl, ho5, hw5⟩))
             | (go_simp; (first | (go_at_call 133; (with_reducible refine (down_any _ _ _ Hdj.out).mono ?_); rintro e w4 ⟨rfl, rfl⟩) | (go_at_call 132; (with_reducible refine (less_any w.heap.size w1.heap.size _ _ _ _ _ _ _ _ _ (by omega) hown.drew hi.drew hou).mono ?_); rintro e w5 ⟨rfl, ho5, hw5⟩)))
             | go_simp
           refine hK.out _ _ ?_ (fun hHeld => ?_)
           · ((try dsimp only); exact ⟨hce, hco⟩)
           clear hK K
           try simp only [Act.put, List.setIfInBounds_toArray, List.set_cons_zero, List.set_cons_succ])
      first
        | (refine WalkU.take (i := 4) (v := ?_) rfl (by kernel_rfl) (by kernel_rfl) (by kernel_rfl) (by kernel_rfl) (fun _ _ _ h => h) (Or.inl ⟨by rfl, ?_⟩) hHeld ?_
           rotate_left
           · (intro w hSw; (try dsimp only at hSw); go_simp; try with_reducible rfl)
           try simp only [Act.put, List.setIfInBounds_toArray, List.set_cons_zero, List.set_cons_succ])
        | (refine WalkU.take (i := 4) (v := undef) rfl (by kernel_rfl) (by kernel_rfl) (by kernel_rfl) (by kernel_rfl) (fun _ _ _ h => h) (Or.inr ⟨by rfl, rfl⟩) hHeld ?_
           try simp only [Act.put, List.setIfInBounds_toArray, List.set_cons_zero, List.set_cons_succ])
        | (refine WalkU.one (i := 4) rfl (by kernel_rfl) (fun K hK => ?_)
           first
             | (first | (go_at_call 133; (with_reducible refine (down_any _ _ _ Hdj.out).mono ?_); rintro e w4 ⟨rfl, rfl⟩) | (go_at_call 132; (with_reducible refine (less_any w.heap.size w1.heap.size _ _ _ _ _ _ _ _ _ (by omega) hown.drew hi.drew hou).mono ?_); rintro e w5 ⟨rfl, ho5, hw5⟩))
             | (go_simp; (first | (go_at_call 133; (with_reducible refine (down_any _ _ _ Hdj.out).mono ?_); rintro e w4 ⟨rfl, rfl⟩) | (go_at_call 132; (with_reducible refine (less_any w.heap.size w1.heap.size _ _ _ _ _ _ _ _ _ (by omega) hown.drew hi.drew hou).mono ?_); rintro e w5 ⟨rfl, ho5, hw5⟩)))
             | go_simp
           refine hK.out _ _ ?_ (fun hHeld => ?_)
           · ((try dsimp only); exact ⟨hce, hco⟩)
           clear hK K
           try simp only [Act.put, List.setIfInBounds_toArray, List.set_cons_zero, List.set_cons_succ])
      first
        | (refine WalkU.take (i := 5) (v := ?_) rfl (by kernel_rfl) (by kernel_rfl) (by kernel_rfl) (by kernel_rfl) (fun _ _ _ h => h) (Or.inl ⟨by rfl, ?_⟩) hHeld ?_
           rotate_left
           · (intro w hSw; (try dsimp only at hSw); go_simp; try with_reducible rfl)
           try simp only [Act.put, List.setIfInBounds_toArray, List.set_cons_zero, List.set_cons_succ])
        | (refine WalkU.take (i := 5) (v := undef) rfl (by kernel_rfl) (by kernel_rfl) (by kernel_rfl) (by kernel_rfl) (fun _ _ _ h => h) (Or.inr ⟨by rfl, rfl⟩) hHeld ?_
           try simp only [Act.put, List.setIfInBounds_toArray, List.set_cons_zero, List.set_cons_succ])
        | (refine WalkU.one (i := 5) rfl (by kernel_rfl) (fun K hK => ?_)
           first
             | (first | (go_at_call 133; (with_reducible refine (down_any _ _ _ Hdj.out).mono ?_); rintro e w4 ⟨rfl, rfl⟩) | (go_at_call 132; (with_reducible refine (less_any w.heap.size w1.heap.size _ _ _ _ _ _ _ _ _ (by omega) hown.drew hi.drew hou).mono ?_); rintro e w5 ⟨rfl, ho5, hw5⟩))
             | (go_simp; (first | (go_at_call 133; (with_reducible refine (down_any _ _ _ Hdj.out).mono ?_); rintro e w4 ⟨rfl, rfl⟩) | (go_at_call 132; (with_reducible refine (less_any w.heap.size w1.heap.size _ _ _ _ _ _ _ _ _ (by omega) hown.drew hi.drew hou).mono ?_); rintro e w5 ⟨rfl, ho5, hw5⟩)))
             | go_simp
           refine hK.out _ _ ?_ (fun hHeld => ?_)
           · ((try dsimp only); exact ⟨hce, hco⟩)
           clear hK K
           try simp only [Act.put, List.setIfInBounds_toArray, List.set_cons_zero, List.set_cons_succ])
      first
        | (refine WalkU.take (i := 6) (v := ?_) rfl (by kernel_rfl) (by kernel_rfl) (by kernel_rfl) (by kernel_rfl) (fun _ _ _ h => h) (Or.inl ⟨by rfl, ?_⟩) hHeld ?_
           rotate_left
           · (intro w hSw; (try dsimp only at hSw); go_simp; try with_reducible rfl)
           try simp only [Act.put, List.setIfInBounds_toArray, List.set_cons_zero, List.set_cons_succ])
        | (refine WalkU.take (i := 6) (v := undef) rfl (by kernel_rfl) (by kernel_rfl) (by kernel_rfl) (by kernel_rfl) (fun _ _ _ h => h) (Or.inr ⟨by rfl, rfl⟩) hHeld ?_
           try simp only [Act.put, List.setIfInBounds_toArray, List.set_cons_zero, List.set_cons_succ])
        | (refine WalkU.one (i := 6) rfl (by kernel_rfl) (fun K hK => ?_)
           first
             | (first | (go_at_call 133; (with_reducible refine (down_any _ _ _ Hdj.out).mono ?_); rintro e w4 ⟨rfl, rfl⟩) | (go_at_call 132; (with_reducible refine (less_any w.heap.size w1.heap.size _ _ _ _ _ _ _ _ _ (by omega) hown.drew hi.drew hou).mono ?_); rintro e w5 ⟨rfl, ho5, hw5⟩))
             | (go_simp; (first | (go_at_call 133; (with_reducible refine (down_any _ _ _ Hdj.out).mono ?_); rintro e w4 ⟨rfl, rfl⟩) | (go_at_call 132; (with_reducible refine (less_any w.heap.size w1.heap.size _ _ _ _ _ _ _ _ _ (by omega) hown.drew hi.drew hou).mono ?_); rintro e w5 ⟨rfl, ho5, hw5⟩)))
             | go_simp
           refine hK.out _ _ ?_ (fun hHeld => ?_)
           · ((try dsimp only); exact ⟨hce, hco⟩)
           clear hK K
           try simp only [Act.put, List.setIfInBounds_toArray, List.set_cons_zero, List.set_cons_succ])
      first
        | (refine WalkU.take (i := 7) (v := ?_) rfl (by kernel_rfl) (by kernel_rfl) (by kernel_rfl) (by kernel_rfl) (fun _ _ _ h => h) (Or.inl ⟨by rfl, ?_⟩) hHeld ?_
           rotate_left
           · (intro w hSw; (try dsimp only at hSw); go_simp; try with_reducible rfl)
           try simp only [Act.put, List.setIfInBounds_toArray, List.set_cons_zero, List.set_cons_succ])
        | (refine WalkU.take (i := 7) (v := undef) rfl (by kernel_rfl) (by kernel_rfl) (by kernel_rfl) (by kernel_rfl) (fun _ _ _ h => h) (Or.inr ⟨by rfl, rfl⟩) hHeld ?_
           try simp only [Act.put, List.setIfInBounds_toArray, List.set_cons_zero, List.set_cons_succ])
        | (refine WalkU.one (i := 7) rfl (by kernel_rfl) (fun K hK => ?_)
           first
             | (first | (go_at_call 133; (with_reducible refine (down_any _ _ _ Hdj.out).mono ?_); rintro e w4 ⟨rfl, rfl⟩) | (go_at_call 132; (with_reducible refine (less_any w.heap.size w1.heap.size _ _ _ _ _ _ _ _ _ (by omega) hown.drew hi.drew hou).mono ?_); rintro e w5 ⟨rfl, ho5, hw5⟩))
             | (go_simp; (first | (go_at_call 133; (with_reducible refine (down_any _ _ _ Hdj.out).mono ?_); rintro e w4 ⟨rfl, rfl⟩) | (go_at_call 132; (with_reducible refine (less_any w.heap.size w1.heap.size _ _ _ _ _ _ _ _ _ (by omega) hown.drew hi.drew hou).mono ?_); rintro e w5 ⟨rfl, ho5, hw5⟩)))
             | go_simp
           refine hK.out _ _ ?_ (fun hHeld => ?_)
           · ((try dsimp only); exact ⟨hce, hco⟩)
           clear hK K
           try simp only [Act.put, List.setIfInBounds_toArray, List.set_cons_zero, List.set_cons_succ])
      first
        | (refine WalkU.take (i := 8) (v := ?_) rfl (by kernel_rfl) (by kernel_rfl) (by kernel_rfl) (by kernel_rfl) (fun _ _ _ h => h) (Or.inl ⟨by rfl, ?_⟩) hHeld ?_
           rotate_left
           · (intro w hSw; (try dsimp only at hSw); go_simp; try with_reducible rfl)
           try simp only [Act.put, List.setIfInBounds_toArray, List.set_cons_zero, List.set_cons_succ])
        | (refine WalkU.take (i := 8) (v := undef) rfl (by kernel_rfl) (by kernel_rfl) (by kernel_rfl) (by kernel_rfl) (fun _ _ _ h => h) (Or.inr ⟨by rfl, rfl⟩) hHeld ?_
           try simp only [Act.put, List.setIfInBounds_toArray, List.set_cons_zero, List.set_cons_succ])
        | (refine WalkU.one (i := 8) rfl (by kernel_rfl) (fun K hK => ?_)
           first
             | (first | (go_at_call 133; (with_reducible refine (down_any _ _ _ Hdj.out).mono ?_); rintro e w4 ⟨rfl, rfl⟩) | (go_at_call 132; (with_reducible refine (less_any w.heap.size w1.heap.size _ _ _ _ _ _ _ _ _ (by omega) hown.drew hi.drew hou).mono ?_); rintro e w5 ⟨rfl, ho5, hw5⟩))
             | (go_simp; (first | (go_at_call 133; (with_reducible refine (down_any _ _ _ Hdj.out).mono ?_); rintro e w4 ⟨rfl, rfl⟩) | (go_at_call 132; (with_reducible refine (less_any w.heap.size w1.heap.size _ _ _ _ _ _ _ _ _ (by omega) hown.drew hi.drew hou).mono ?_); rintro e w5 ⟨rfl, ho5, hw5⟩)))
             | go_simp
           refine hK.out _ _ ?_ (fun hHeld => ?_)
           · ((try dsimp only); exact ⟨hce, hco⟩)
           clear hK K
           try simp only [Act.put, List.setIfInBounds_toArray, List.set_cons_zero, List.set_cons_succ])
      first
        | (refine WalkU.take (i := 10) (v := ?_) rfl (by kernel_rfl) (by kernel_rfl) (by kernel_rfl) (by kernel_rfl) (fun _ _ _ h => h) (Or.inl ⟨by rfl, ?_⟩) hHeld ?_
           rotate_left
           · (intro w hSw; (try dsimp only at hSw); go_simp; try with_reducible rfl)
           try simp only [Act.put, List.setIfInBounds_toArray, List.set_cons_zero, List.set_cons_succ])
        | (refine WalkU.take (i := 10) (v := undef) rfl (by kernel_rfl) (by kernel_rfl) (by kernel_rfl) (by kernel_rfl) (fun _ _ _ h => h) (Or.inr ⟨by rfl, rfl⟩) hHeld ?_
           try simp only [Act.put, List.setIfInBounds_toArray, List.set_cons_zero, List.set_cons_succ])
        | (refine WalkU.one (i := 10) rfl (by kernel_rfl) (fun K hK => ?_)
           first
             | (first | (go_at_call 133; (with_reducible refine (down_any _ _ _ Hdj.out).mono ?_); rintro e w4 ⟨rfl, rfl⟩) | (go_at_call 132; (with_reducible refine (less_any w.heap.size w1.heap.size _ _ _ _ _ _ _ _ _ (by omega) hown.drew hi.drew hou).mono ?_); rintro e w5 ⟨rfl, ho5, hw5⟩))
             | (go_simp; (first | (go_at_call 133; (with_reducible refine (down_any _ _ _ Hdj.out).mono ?_); rintro e w4 ⟨rfl, rfl⟩) | (go_at_call 132; (with_reducible refine (less_any w.heap.size w1.heap.size _ _ _ _ _ _ _ _ _ (by omega) hown.drew hi.drew hou).mono ?_); rintro e w5 ⟨rfl, ho5, hw5⟩)))
             | go_simp
           refine hK.out _ _ ?_ (fun hHeld => ?_)
           · ((try dsimp only); exact ⟨hce, hco⟩)
           clear hK K
           try simp only [Act.put, List.setIfInBounds_toArray, List.set_cons_zero, List.set_cons_succ])
      first
        | (refine WalkU.take (i := 9) (v := ?_) rfl (by kernel_rfl) (by kernel_rfl) (by kernel_rfl) (by kernel_rfl) (fun _ _ _ h => h) (Or.inl ⟨by rfl, ?_⟩) hHeld ?_
           rotate_left
           · (intro w hSw; (try dsimp only at hSw); go_simp; try with_reducible rfl)
           try simp only [Act.put, List.setIfInBounds_toArray, List.set_cons_zero, List.set_cons_succ])
        | (refine WalkU.take (i := 9) (v := undef) rfl (by kernel_rfl) (by kernel_rfl) (by kernel_rfl) (by kernel_rfl) (fun _ _ _ h => h) (Or.inr ⟨by rfl, rfl⟩) hHeld ?_
           try simp only [Act.put, List.setIfInBounds_toArray, List.set_cons_zero, List.set_cons_succ])
        | (refine WalkU.one (i := 9) rfl (by kernel_rfl) (fun K hK => ?_)
           first
             | (first | (go_at_call 133; (with_reducible refine (down_any _ _ _ Hdj.out).mono ?_); rintro e w4 ⟨rfl, rfl⟩) | (go_at_call 132; (with_reducible refine (less_any w.heap.size w1.heap.size _ _ _ _ _ _ _ _ _ (by omega) hown.drew hi.drew hou).mono ?_); rintro e w5 ⟨rfl, ho5, hw5⟩))
             | (go_simp; (first | (go_at_call 133; (with_reducible refine (down_any _ _ _ Hdj.out).mono ?_); rintro e w4 ⟨rfl, rfl⟩) | (go_at_call 132; (with_reducible refine (less_any w.heap.size w1.heap.size _ _ _ _ _ _ _ _ _ (by omega) hown.drew hi.drew hou).mono ?_); rintro e w5 ⟨rfl, ho5, hw5⟩)))
             | go_simp
           refine hK.out _ _ ?_ (fun hHeld => ?_)
           · ((try dsimp only); exact ⟨hce, hco⟩)
           clear hK K
           try simp only [Act.put, List.setIfInBounds_toArray, List.set_cons_zero, List.set_cons_succ])
      first
        | (refine WalkU.last (i := 11) rfl rfl (by kernel_rfl) (by kernel_rfl) (fun K hK => ?_)
           first
             | (first | (go_at_call 133; (with_reducible refine (down_any _ _ _ Hdj.out).mono ?_); rintro e w4 ⟨rfl, rfl⟩) | (go_at_call 132; (with_reducible refine (less_any w.heap.size w1.heap.size _ _ _ _ _ _ _ _ _ (by omega) hown.drew hi.drew hou).mono ?_); rintro e w5 ⟨rfl, ho5, hw5⟩))
             | (go_simp; (first | (go_at_call 133; (with_reducible refine (down_any _ _ _ Hdj.out).mono ?_); rintro e w4 ⟨rfl, rfl⟩) | (go_at_call 132; (with_reducible refine (less_any w.heap.size w1.heap.size _ _ _ _ _ _ _ _ _ (by omega) hown.drew hi.drew hou).mono ?_); rintro e w5 ⟨rfl, ho5, hw5⟩)))
             | go_simp
           refine hK.out _ _ ?_
           clear hK K
           try simp only [Act.put, List.setIfInBounds_toArray, List.set_cons_zero, List.set_cons_succ])
      have hw6 := (Within.of_below (drewBelow W)).trans hw5
      go_wp2
      go_roundw
      case rel => exact ⟨j + 1, by omega, by go_num, by rw [HN.out]; exact ho5, Nat.le_trans hsw hw6.size, Below.mark hb hw6 (Nat.le_refl _)⟩
      case measure => simp [intOf]; omega
    · obtain rfl : j = n := by omega
      go_wp2
      go_ret
      exact ⟨_, _, rfl, hown.up, hb⟩

set_option maxHeartbeats 4000000 in
theorem l8Leader_any (p q : Option Addr) (n c d : Nat) (H : List (List Int)) (xs : List Int) (w : World) (h3 : n ≤ 3) (hx : Intss w p n H) (hv : Ints w q n xs) (hs : Sq n H) (hd : ∀ j, j < n → ent H j j ≠ 0) :
    Calls Try.prog 74 #[.slice p n c, .slice q n d] w (NewInts w n (leadTo H xs n)) := by
  have hl := Lib.hid hx.len
  have hl2 := Lib.hid hv.len
  have Hs := Lib.hid hs
  have Hd := Lib.hid hd
  clear hs hd
  have hbA := boxed w (.cells #[] 3)
  have hsA := hbA.size
  go_enter Try.func74, Try.ntmps74
  go_wp2_with (at_builtin; refine append_ints rfl _ _ rfl _ w.heap.size _ _ _ _ _ rfl (Own.empty w) _ _ _ _ rfl (hv.below hbA) (by omega) (by simp) ?_; intro p2 c2 w2 ho2 hg2; refine Hid.out ?_)
  refine Lib.hid ?_
  have hb2 : Below w.heap.size w w2 := hbA.trans (hg2.belowO (Own.empty w) (by simp))
  rw [List.nil_append] at ho2
  simp only [Nat.zero_add] at ho2 ⊢
  go_wp2_with fail
  go_loopw [5, 6] (fun v i wr => ∃ (j : Nat) (p' : Option Addr) (c' : Nat), j ≤ n ∧ i = .int .i64 j ∧ v = .slice p' n c' ∧ Own wr w.heap.size wr.heap.size p' n c' (leadTo H xs j) ∧ Below w.heap.size w wr) (fun _ i _ => n - (intOf i).toNat)
  case atStart => exact ⟨0, _, _, Nat.zero_le _, rfl, rfl, ho2, hb2⟩
  case round =>
    obtain ⟨j, p', c', hj, rfl, rfl, hown, hb⟩ := hrel
    by_cases hlt : j < n
    · generalize wr = W at *
      obtain ⟨b, o, q1, m1, d1, rfl, hc, hm1, hi⟩ := (hx.below hb).cell j hlt
      have hm3 : m1 = n := by rw [← hi.len]; exact Hs.out.2 j hlt
      subst hm3
      obtain ⟨rb, ro, hq1, hce⟩ := hi.cell j hlt
      subst hq1
      rw [show nth (nthR H j) j = ent H j j from rfl] at hce
      rcases hown.form with ⟨_, h0, _⟩ | ⟨g, rfl, hg1, hg2', hg3, hg4, hg5⟩
      · omega
      have hco := hown.cell (k := j) hlt
      have hio := hown.ints
      have Hdj := Lib.hid (Hd.out j hlt)
      have HL := Lib.hid (lessW_scale (t := floorW (nth (leadTo H xs j) j) (ent H j j)) (show (leadTo H xs j).length = (nthR H j).length by rw [leadTo_length, hl2.out, Hs.out.2 j hlt]))
      have HN : Hid (leadTo H xs (j + 1) = subRow (leadTo H xs j) (floorW (nth (leadTo H xs j) j) (ent H j j)) (nthR H j)) := rfl
      generalize leadTo H xs j = X at *
      go_wp2
      refine wp_region_u 19 20 (fun w' => w'.cell? ⟨b, o + j, none⟩ = some (.slice (some ⟨rb, ro, none⟩) m1 d1) ∧ w'.cell? ⟨rb, ro + j, none⟩ = some (.int .i64 (ent H j j)) ∧ w'.cell? ⟨g, j, none⟩ = some (.int .i64 (nth X j))) (by kernel_rfl) rfl (by (try dsimp only); exact ⟨hc, hce, hco⟩) (fun hHeld => ?_)
      first
        | (refine WalkU.take (i := 0) (v := ?_) rfl (by kernel_rfl) (by kernel_rfl) (by kernel_rfl) (by kernel_rfl) (fun _ _ _ h => h) (Or.inl ⟨by rfl, ?_⟩) hHeld ?_
           rotate_left
           · (intro w hSw; (try dsimp only at hSw); go_simp; try with_reducible rfl)
           try simp only [Act.put, List.setIfInBounds_toArray, List.set_cons_zero, List.set_cons_succ])
        | (refine WalkU.take (i := 0) (v := undef) rfl (by kernel_rfl) (by kernel_rfl) (by kernel_rfl) (by kernel_rfl) (fun _ _ _ h => h) (Or.inr ⟨by rfl, rfl⟩) hHeld ?_
           try simp only [Act.put, List.setIfInBounds_toArray, List.set_cons_zero, List.set_cons_succ])
        | (refine WalkU.one (i := 0) rfl (by kernel_rfl) (fun K hK => ?_)
           first
             | (first | (go_at_call 130; (with_reducible refine (l3Floor_any _ _ _ Hdj.out).mono ?_); rintro e w4 ⟨rfl, rfl⟩) | (go_at_call 129; (with_reducible refine (l2Scale_any _ _ _ _ _ _ (by omega) hi.drew).mono ?_); rintro e w5 ⟨p5, c5, rfl, ho5, hb5⟩; replace hc := belowCell hb5 hc; replace hce := belowCell hb5 hce; replace hco := belowCell hb5 hco) | (go_at_call 128; (with_reducible refine (l2Less_any _ _ _ _ _ _ _ _ (by omega) (hio.drew.below hb5) ho5.ints).mono ?_); rintro e w6 ⟨p6, c6, rfl, ho6, hb6⟩; replace hc := belowCell hb6 hc; replace hce := belowCell hb6 hce; replace hco := belowCell hb6 hco))
             | (go_simp; (first | (go_at_call 130; (with_reducible refine (l3Floor_any _ _ _ Hdj.out).mono ?_); rintro e w4 ⟨rfl, rfl⟩) | (go_at_call 129; (with_reducible refine (l2Scale_any _ _ _ _ _ _ (by omega) hi.drew).mono ?_); rintro e w5 ⟨p5, c5, rfl, ho5, hb5⟩; replace hc := belowCell hb5 hc; replace hce := belowCell hb5 hce; replace hco := belowCell hb5 hco) | (go_at_call 128; (with_reducible refine (l2Less_any _ _ _ _ _ _ _ _ (by omega) (hio.drew.below hb5) ho5.ints).mono ?_); rintro e w6 ⟨p6, c6, rfl, ho6, hb6⟩; replace hc := belowCell hb6 hc; replace hce := belowCell hb6 hce; replace hco := belowCell hb6 hco)))
             | go_simp
           refine hK.out _ _ ?_ (fun hHeld => ?_)
           · ((try dsimp only); exact ⟨hc, hce, hco⟩)
           clear hK K
           try simp only [Act.put, List.setIfInBounds_toArray, List.set_cons_zero, List.set_cons_succ])
      first
        | (refine WalkU.take (i := 1) (v := ?_) rfl (by kernel_rfl) (by kernel_rfl) (by kernel_rfl) (by kernel_rfl) (fun _ _ _ h => h) (Or.inl ⟨by rfl, ?_⟩) hHeld ?_
           rotate_left
           · (intro w hSw; (try dsimp only at hSw); go_simp; try with_reducible rfl)
           try simp only [Act.put, List.setIfInBounds_toArray, List.set_cons_zero, List.set_cons_succ])
        | (refine WalkU.take (i := 1) (v := undef) rfl (by kernel_rfl) (by kernel_rfl) (by kernel_rfl) (by kernel_rfl) (fun _ _ _ h => h) (Or.inr ⟨by rfl, rfl⟩) hHeld ?_
           try simp only [Act.put, List.setIfInBounds_toArray, List.set_cons_zero, List.set_cons_succ])
        | (refine WalkU.one (i := 1) rfl (by kernel_rfl) (fun K hK => ?_)
           first
             | (first | (go_at_call 130; (with_reducible refine (l3Floor_any _ _ _ Hdj.out).mono ?_); rintro e w4 ⟨rfl, rfl⟩) | (go_at_call 129; (with_reducible refine (l2Scale_any _ _ _ _ _ _ (by omega) hi.drew).mono ?_); rintro e w5 ⟨p5, c5, rfl, ho5, hb5⟩; replace hc := belowCell hb5 hc; replace hce := belowCell hb5 hce; replace hco := belowCell hb5 hco) | (go_at_call 128; (with_reducible refine (l2Less_any _ _ _ _ _ _ _ _ (by omega) (hio.drew.below hb5) ho5.ints).mono ?_); rintro e w6 ⟨p6, c6, rfl, ho6, hb6⟩; replace hc := belowCell hb6 hc; replace hce := belowCell hb6 hce; replace hco := belowCell hb6 hco))
             | (go_simp; (first | (go_at_call 130; (with_reducible refine (l3Floor_any _ _ _ Hdj.out).mono ?_); rintro e w4 ⟨rfl, rfl⟩) | (go_at_call 129; (with_reducible refine (l2Scale_any _ _ _ _ _ _ (by omega) hi.drew).mono ?_); rintro e w5 ⟨p5, c5, rfl, ho5, hb5⟩; replace hc := belowCell hb5 hc; replace hce := belowCell hb5 hce; replace hco := belowCell hb5 hco) | (go_at_call 128; (with_reducible refine (l2Less_any _ _ _ _ _ _ _ _ (by omega) (hio.drew.below hb5) ho5.ints).mono ?_); rintro e w6 ⟨p6, c6, rfl, ho6, hb6⟩; replace hc := belowCell hb6 hc; replace hce := belowCell hb6 hce; replace hco := belowCell hb6 hco)))
             | go_simp
           refine hK.out _ _ ?_ (fun hHeld => ?_)
           · ((try dsimp only); exact ⟨hc, hce, hco⟩)
           clear hK K
           try simp only [Act.put, List.setIfInBounds_toArray, List.set_cons_zero, List.set_cons_succ])
      first
        | (refine WalkU.take (i := 2) (v := ?_) rfl (by kernel_rfl) (by kernel_rfl) (by kernel_rfl) (by kernel_rfl) (fun _ _ _ h => h) (Or.inl ⟨by rfl, ?_⟩) hHeld ?_
           rotate_left
           · (intro w hSw; (try dsimp only at hSw); go_simp; try with_reducible rfl)
           try simp only [Act.put, List.setIfInBounds_toArray, List.set_cons_zero, List.set_cons_succ])
        | (refine WalkU.take (i := 2) (v := undef) rfl (by kernel_rfl) (by kernel_rfl) (by kernel_rfl) (by kernel_rfl) (fun _ _ _ h => h) (Or.inr ⟨by rfl, rfl⟩) hHeld ?_
           try simp only [Act.put, List.setIfInBounds_toArray, List.set_cons_zero, List.set_cons_succ])
        | (refine WalkU.one (i := 2) rfl (by kernel_rfl) (fun K hK => ?_)
           first
             | (first | (go_at_call 130; (with_reducible refine (l3Floor_any _ _ _ Hdj.out).mono ?_); rintro e w4 ⟨rfl, rfl⟩) | (go_at_call 129; (with_reducible refine (l2Scale_any _ _ _ _ _ _ (by omega) hi.drew).mono ?_); rintro e w5 ⟨p5, c5, rfl, ho5, hb5⟩; replace hc := belowCell hb5 hc; replace hce := belowCell hb5 hce; replace hco := belowCell hb5 hco) | (go_at_call 128; (with_reducible refine (l2Less_any _ _ _ _ _ _ _ _ (by omega) (hio.drew.below hb5) ho5.ints).mono ?_); rintro e w6 ⟨p6, c6, rfl, ho6, hb6⟩; replace hc := belowCell hb6 hc; replace hce := belowCell hb6 hce; replace hco := belowCell hb6 hco))
             | (go_simp; (first | (go_at_call 130; (with_reducible refine (l3Floor_any _ _ _ Hdj.out).mono ?_); rintro e w4 ⟨rfl, rfl⟩) | (go_at_call 129; (with_reducible refine (l2Scale_any _ _ _ _ _ _ (by omega) hi.drew).mono ?_); rintro e w5 ⟨p5, c5, rfl, ho5, hb5⟩; replace hc := belowCell hb5 hc; replace hce := belowCell hb5 hce; replace hco := belowCell hb5 hco) | (go_at_call 128; (with_reducible refine (l2Less_any _ _ _ _ _ _ _ _ (by omega) (hio.drew.below hb5) ho5.ints).mono ?_); rintro e w6 ⟨p6, c6, rfl, ho6, hb6⟩; replace hc := belowCell hb6 hc; replace hce := belowCell hb6 hce; replace hco := belowCell hb6 hco)))
             | go_simp
           refine hK.out _ _ ?_ (fun hHeld => ?_)
           · ((try dsimp only); exact ⟨hc, hce, hco⟩)
           clear hK K
           try simp only [Act.put, List.setIfInBounds_toArray, List.set_cons_zero, List.set_cons_succ])
      first
        | (refine WalkU.take (i := 3) (v := ?_) rfl (by kernel_rfl) (by kernel_rfl) (by kernel_rfl) (by kernel_rfl) (fun _ _ _ h => h) (Or.inl ⟨by rfl, ?_⟩) hHeld ?_
           rotate_left
           · (intro w hSw; (try dsimp only at hSw); go_simp; try with_reducible rfl)
           try simp only [Act.put, List.setIfInBounds_toArray, List.set_cons_zero, List.set_cons_succ])
        | (refine WalkU.take (i := 3) (v := undef) rfl (by kernel_rfl) (by kernel_rfl) (by kernel_rfl) (by kernel_rfl) (fun _ _ _ h => h) (Or.inr ⟨by rfl, rfl⟩) hHeld ?_
           try simp only [Act.put, List.setIfInBounds_toArray, List.set_cons_zero, List.set_cons_succ])
        | (refine WalkU.one (i := 3) rfl (by kernel_rfl) (fun K hK => ?_)
           first
             | (first | (go_at_call 130; (with_reducible refine (l3Floor_any _ _ _ Hdj.out).mono ?_); rintro e w4 ⟨rfl, rfl⟩) | (go_at_call 129; (with_reducible refine (l2Scale_any _ _ _ _ _ _ (by omega) hi.drew).mono ?_); rintro e w5 ⟨p5, c5, rfl, ho5, hb5⟩; replace hc := belowCell hb5 hc; replace hce := belowCell hb5 hce; replace hco := belowCell hb5 hco) | (go_at_call 128; (with_reducible refine (l2Less_any _ _ _ _ _ _ _ _ (by omega) (hio.drew.below hb5) ho5.ints).mono ?_); rintro e w6 ⟨p6, c6, rfl, ho6, hb6⟩; replace hc := belowCell hb6 hc; replace hce := belowCell hb6 hce; replace hco := belowCell hb6 hco))
             | (go_simp; (first | (go_at_call 130; (with_reducible refine (l3Floor_any _ _ _ Hdj.out).mono ?_); rintro e w4 ⟨rfl, rfl⟩) | (go_at_call 129; (with_reducible refine (l2Scale_any _ _ _ _ _ _ (by omega) hi.drew).mono ?_); rintro e w5 ⟨p5, c5, rfl, ho5, hb5⟩; replace hc := belowCell hb5 hc; replace hce := belowCell hb5 hce; replace hco := belowCell hb5 hco) | (go_at_call 128; (with_reducible refine (l2Less_any _ _ _ _ _ _ _ _ (by omega) (hio.drew.below hb5) ho5.ints).mono ?_); rintro e w6 ⟨p6, c6, rfl, ho6, hb6⟩; replace hc := belowCell hb6 hc; replace hce := belowCell hb6 hce; replace hco := belowCell hb6 hco)))
             | go_simp
           refine hK.out _ _ ?_ (fun hHeld => ?_)
           · ((try dsimp only); exact ⟨hc, hce, hco⟩)
           clear hK K
           try simp only [Act.put, List.setIfInBounds_toArray, List.set_cons_zero, List.set_cons_succ])
      first
        | (refine WalkU.take (i := 4) (v := ?_) rfl (by kernel_rfl) (by kernel_rfl) (by kernel_rfl) (by kernel_rfl) (fun _ _ _ h => h) (Or.inl ⟨by rfl, ?_⟩) hHeld ?_
           rotate_left
           · (intro w hSw; (try dsimp only at hSw); go_simp; try with_reducible rfl)
           try simp only [Act.put, List.setIfInBounds_toArray, List.set_cons_zero, List.set_cons_succ])
        | (refine WalkU.take (i := 4) (v := undef) rfl (by kernel_rfl) (by kernel_rfl) (by kernel_rfl) (by kernel_rfl) (fun _ _ _ h => h) (Or.inr ⟨by rfl, rfl⟩) hHeld ?_
           try simp only [Act.put, List.setIfInBounds_toArray, List.set_cons_zero, List.set_cons_succ])
        | (refine WalkU.one (i := 4) rfl (by kernel_rfl) (fun K hK => ?_)
           first
             | (first | (go_at_call 130; (with_reducible refine (l3Floor_any _ _ _ Hdj.out).mono ?_); rintro e w4 ⟨rfl, rfl⟩) | (go_at_call 129; (with_reducible refine (l2Scale_any _ _ _ _ _ _ (by omega) hi.drew).mono ?_); rintro e w5 ⟨p5, c5, rfl, ho5, hb5⟩; replace hc := belowCell hb5 hc; replace hce := belowCell hb5 hce; replace hco := belowCell hb5 hco) | (go_at_call 128; (with_reducible refine (l2Less_any _ _ _ _ _ _ _ _ (by omega) (hio.drew.below hb5) ho5.ints).mono ?_); rintro e w6 ⟨p6, c6, rfl, ho6, hb6⟩; replace hc := belowCell hb6 hc; replace hce := belowCell hb6 hce; replace hco := belowCell hb6 hco))
             | (go_simp; (first | (go_at_call 130; (with_reducible refine (l3Floor_any _ _ _ Hdj.out).mono ?_); rintro e w4 ⟨rfl, rfl⟩) | (go_at_call 129; (with_reducible refine (l2Scale_any _ _ _ _ _ _ (by omega) hi.drew).mono ?_); rintro e w5 ⟨p5, c5, rfl, ho5, hb5⟩; replace hc := belowCell hb5 hc; replace hce := belowCell hb5 hce; replace hco := belowCell hb5 hco) | (go_at_call 128; (with_reducible refine (l2Less_any _ _ _ _ _ _ _ _ (by omega) (hio.drew.below hb5) ho5.ints).mono ?_); rintro e w6 ⟨p6, c6, rfl, ho6, hb6⟩; replace hc := belowCell hb6 hc; replace hce := belowCell hb6 hce; replace hco := belowCell hb6 hco)))
             | go_simp
           refine hK.out _ _ ?_ (fun hHeld => ?_)
           · ((try dsimp only); exact ⟨hc, hce, hco⟩)
           clear hK K
           try simp only [Act.put, List.setIfInBounds_toArray, List.set_cons_zero, List.set_cons_succ])
      first
        | (refine WalkU.take (i := 5) (v := ?_) rfl (by kernel_rfl) (by kernel_rfl) (by kernel_rfl) (by kernel_rfl) (fun _ _ _ h => h) (Or.inl ⟨by rfl, ?_⟩) hHeld ?_
           rotate_left
           · (intro w hSw; (try dsimp only at hSw); go_simp; try with_reducible rfl)
           try simp only [Act.put, List.setIfInBounds_toArray, List.set_cons_zero, List.set_cons_succ])
        | (refine WalkU.take (i := 5) (v := undef) rfl (by kernel_rfl) (by kernel_rfl) (by kernel_rfl) (by kernel_rfl) (fun _ _ _ h => h) (Or.inr ⟨by rfl, rfl⟩) hHeld ?_
           try simp only [Act.put, List.setIfInBounds_toArray, List.set_cons_zero, List.set_cons_succ])
        | (refine WalkU.one (i := 5) rfl (by kernel_rfl) (fun K hK => ?_)
           first
             | (first | (go_at_call 130; (with_reducible refine (l3Floor_any _ _ _ Hdj.out).mono ?_); rintro e w4 ⟨rfl, rfl⟩) | (go_at_call 129; (with_reducible refine (l2Scale_any _ _ _ _ _ _ (by omega) hi.drew).mono ?_); rintro e w5 ⟨p5, c5, rfl, ho5, hb5⟩; replace hc := belowCell hb5 hc; replace hce := belowCell hb5 hce; replace hco := belowCell hb5 hco) | (go_at_call 128; (with_reducible refine (l2Less_any _ _ _ _ _ _ _ _ (by omega) (hio.drew.below hb5) ho5.ints).mono ?_); rintro e w6 ⟨p6, c6, rfl, ho6, hb6⟩; replace hc := belowCell hb6 hc; replace hce := belowCell hb6 hce; replace hco := belowCell hb6 hco))
             | (go_simp; (first | (go_at_call 130; (with_reducible refine (l3Floor_any _ _ _ Hdj.out).mono ?_); rintro e w4 ⟨rfl, rfl⟩) | (go_at_call 129; (with_reducible refine (l2Scale_any _ _ _ _ _ _ (by omega) hi.drew).mono ?_); rintro e w5 ⟨p5, c5, rfl, ho5, hb5⟩; replace hc := belowCell hb5 hc; replace hce := belowCell hb5 hce; replace hco := belowCell hb5 hco) | (go_at_call 128; (with_reducible refine (l2Less_any _ _ _ _ _ _ _ _ (by omega) (hio.drew.below hb5) ho5.ints).mono ?_); rintro e w6 ⟨p6, c6, rfl, ho6, hb6⟩; replace hc := belowCell hb6 hc; replace hce := belowCell hb6 hce; replace hco := belowCell hb6 hco)))
             | go_simp
           refine hK.out _ _ ?_ (fun hHeld => ?_)
           · ((try dsimp only); exact ⟨hc, hce, hco⟩)
           clear hK K
           try simp only [Act.put, List.setIfInBounds_toArray, List.set_cons_zero, List.set_cons_succ])
      first
        | (refine WalkU.take (i := 6) (v := ?_) rfl (by kernel_rfl) (by kernel_rfl) (by kernel_rfl) (by kernel_rfl) (fun _ _ _ h => h) (Or.inl ⟨by rfl, ?_⟩) hHeld ?_
           rotate_left
           · (intro w hSw; (try dsimp only at hSw); go_simp; try with_reducible rfl)
           try simp only [Act.put, List.setIfInBounds_toArray, List.set_cons_zero, List.set_cons_succ])
        | (refine WalkU.take (i := 6) (v := undef) rfl (by kernel_rfl) (by kernel_rfl) (by kernel_rfl) (by kernel_rfl) (fun _ _ _ h => h) (Or.inr ⟨by rfl, rfl⟩) hHeld ?_
           try simp only [Act.put, List.setIfInBounds_toArray, List.set_cons_zero, List.set_cons_succ])
        | (refine WalkU.one (i := 6) rfl (by kernel_rfl) (fun K hK => ?_)
           first
             | (first | (go_at_call 130; (with_reducible refine (l3Floor_any _ _ _ Hdj.out).mono ?_); rintro e w4 ⟨rfl, rfl⟩) | (go_at_call 129; (with_reducible refine (l2Scale_any _ _ _ _ _ _ (by omega) hi.drew).mono ?_); rintro e w5 ⟨p5, c5, rfl, ho5, hb5⟩; replace hc := belowCell hb5 hc; replace hce := belowCell hb5 hce; replace hco := belowCell hb5 hco) | (go_at_call 128; (with_reducible refine (l2Less_any _ _ _ _ _ _ _ _ (by omega) (hio.drew.below hb5) ho5.ints).mono ?_); rintro e w6 ⟨p6, c6, rfl, ho6, hb6⟩; replace hc := belowCell hb6 hc; replace hce := belowCell hb6 hce; replace hco := belowCell hb6 hco))
             | (go_simp; (first | (go_at_call 130; (with_reducible refine (l3Floor_any _ _ _ Hdj.out).mono ?_); rintro e w4 ⟨rfl, rfl⟩) | (go_at_call 129; (with_reducible refine (l2Scale_any _ _ _ _ _ _ (by omega) hi.drew).mono ?_); rintro e w5 ⟨p5, c5, rfl, ho5, hb5⟩; replace hc := belowCell hb5 hc; replace hce := belowCell hb5 hce; replace hco := belowCell hb5 hco) | (go_at_call 128; (with_reducible refine (l2Less_any _ _ _ _ _ _ _ _ (by omega) (hio.drew.below hb5) ho5.ints).mono ?_); rintro e w6 ⟨p6, c6, rfl, ho6, hb6⟩; replace hc := belowCell hb6 hc; replace hce := belowCell hb6 hce; replace hco := belowCell hb6 hco)))
             | go_simp
           refine hK.out _ _ ?_ (fun hHeld => ?_)
           · ((try dsimp only); exact ⟨hc, hce, hco⟩)
           clear hK K
           try simp only [Act.put, List.setIfInBounds_toArray, List.set_cons_zero, List.set_cons_succ])
      first
        | (refine WalkU.take (i := 7) (v := ?_) rfl (by kernel_rfl) (by kernel_rfl) (by kernel_rfl) (by kernel_rfl) (fun _ _ _ h => h) (Or.inl ⟨by rfl, ?_⟩) hHeld ?_
           rotate_left
           · (intro w hSw; (try dsimp only at hSw); go_simp; try with_reducible rfl)
           try simp only [Act.put, List.setIfInBounds_toArray, List.set_cons_zero, List.set_cons_succ])
        | (refine WalkU.take (i := 7) (v := undef) rfl (by kernel_rfl) (by kernel_rfl) (by kernel_rfl) (by kernel_rfl) (fun _ _ _ h => h) (Or.inr ⟨by rfl, rfl⟩) hHeld ?_
           try simp only [Act.put, List.setIfInBounds_toArray, List.set_cons_zero, List.set_cons_succ])
        | (refine WalkU.one (i := 7) rfl (by kernel_rfl) (fun K hK => ?_)
           first
             | (first | (go_at_call 130; (with_reducible refine (l3Floor_any _ _ _ Hdj.out).mono ?_); rintro e w4 ⟨rfl, rfl⟩) | (go_at_call 129; (with_reducible refine (l2Scale_any _ _ _ _ _ _ (by omega) hi.drew).mono ?_); rintro e w5 ⟨p5, c5, rfl, ho5, hb5⟩; replace hc := belowCell hb5 hc; replace hce := belowCell hb5 hce; replace hco := belowCell hb5 hco) | (go_at_call 128; (with_reducible refine (l2Less_any _ _ _ _ _ _ _ _ (by omega) (hio.drew.below hb5) ho5.ints).mono ?_); rintro e w6 ⟨p6, c6, rfl, ho6, hb6⟩; replace hc := belowCell hb6 hc; replace hce := belowCell hb6 hce; replace hco := belowCell hb6 hco))
             | (go_simp; (first | (go_at_call 130; (with_reducible refine (l3Floor_any _ _ _ Hdj.out).mono ?_); rintro e w4 ⟨rfl, rfl⟩) | (go_at_call 129; (with_reducible refine (l2Scale_any _ _ _ _ _ _ (by omega) hi.drew).mono ?_); rintro e w5 ⟨p5, c5, rfl, ho5, hb5⟩; replace hc := belowCell hb5 hc; replace hce := belowCell hb5 hce; replace hco := belowCell hb5 hco) | (go_at_call 128; (with_reducible refine (l2Less_any _ _ _ _ _ _ _ _ (by omega) (hio.drew.below hb5) ho5.ints).mono ?_); rintro e w6 ⟨p6, c6, rfl, ho6, hb6⟩; replace hc := belowCell hb6 hc; replace hce := belowCell hb6 hce; replace hco := belowCell hb6 hco)))
             | go_simp
           refine hK.out _ _ ?_ (fun hHeld => ?_)
           · ((try dsimp only); exact ⟨hc, hce, hco⟩)
           clear hK K
           try simp only [Act.put, List.setIfInBounds_toArray, List.set_cons_zero, List.set_cons_succ])
      first
        | (refine WalkU.take (i := 8) (v := ?_) rfl (by kernel_rfl) (by kernel_rfl) (by kernel_rfl) (by kernel_rfl) (fun _ _ _ h => h) (Or.inl ⟨by rfl, ?_⟩) hHeld ?_
           rotate_left
           · (intro w hSw; (try dsimp only at hSw); go_simp; try with_reducible rfl)
           try simp only [Act.put, List.setIfInBounds_toArray, List.set_cons_zero, List.set_cons_succ])
        | (refine WalkU.take (i := 8) (v := undef) rfl (by kernel_rfl) (by kernel_rfl) (by kernel_rfl) (by kernel_rfl) (fun _ _ _ h => h) (Or.inr ⟨by rfl, rfl⟩) hHeld ?_
           try simp only [Act.put, List.setIfInBounds_toArray, List.set_cons_zero, List.set_cons_succ])
        | (refine WalkU.one (i := 8) rfl (by kernel_rfl) (fun K hK => ?_)
           first
             | (first | (go_at_call 130; (with_reducible refine (l3Floor_any _ _ _ Hdj.out).mono ?_); rintro e w4 ⟨rfl, rfl⟩) | (go_at_call 129; (with_reducible refine (l2Scale_any _ _ _ _ _ _ (by omega) hi.drew).mono ?_); rintro e w5 ⟨p5, c5, rfl, ho5, hb5⟩; replace hc := belowCell hb5 hc; replace hce := belowCell hb5 hce; replace hco := belowCell hb5 hco) | (go_at_call 128; (with_reducible refine (l2Less_any _ _ _ _ _ _ _ _ (by omega) (hio.drew.below hb5) ho5.ints).mono ?_); rintro e w6 ⟨p6, c6, rfl, ho6, hb6⟩; replace hc := belowCell hb6 hc; replace hce := belowCell hb6 hce; replace hco := belowCell hb6 hco))
             | (go_simp; (first | (go_at_call 130; (with_reducible refine (l3Floor_any _ _ _ Hdj.out).mono ?_); rintro e w4 ⟨rfl, rfl⟩) | (go_at_call 129; (with_reducible refine (l2Scale_any _ _ _ _ _ _ (by omega) hi.drew).mono ?_); rintro e w5 ⟨p5, c5, rfl, ho5, hb5⟩; replace hc := belowCell hb5 hc; replace hce := belowCell hb5 hce; replace hco := belowCell hb5 hco) | (go_at_call 128; (with_reducible refine (l2Less_any _ _ _ _ _ _ _ _ (by omega) (hio.drew.below hb5) ho5.ints).mono ?_); rintro e w6 ⟨p6, c6, rfl, ho6, hb6⟩; replace hc := belowCell hb6 hc; replace hce := belowCell hb6 hce; replace hco := belowCell hb6 hco)))
             | go_simp
           refine hK.out _ _ ?_ (fun hHeld => ?_)
           · ((try dsimp only); exact ⟨hc, hce, hco⟩)
           clear hK K
           try simp only [Act.put, List.setIfInBounds_toArray, List.set_cons_zero, List.set_cons_succ])
      first
        | (refine WalkU.take (i := 9) (v := ?_) rfl (by kernel_rfl) (by kernel_rfl) (by kernel_rfl) (by kernel_rfl) (fun _ _ _ h => h) (Or.inl ⟨by rfl, ?_⟩) hHeld ?_
           rotate_left
           · (intro w hSw; (try dsimp only at hSw); go_simp; try with_reducible rfl)
           try simp only [Act.put, List.setIfInBounds_toArray, List.set_cons_zero, List.set_cons_succ])
        | (refine WalkU.take (i := 9) (v := undef) rfl (by kernel_rfl) (by kernel_rfl) (by kernel_rfl) (by kernel_rfl) (fun _ _ _ h => h) (Or.inr ⟨by rfl, rfl⟩) hHeld ?_
           try simp only [Act.put, List.setIfInBounds_toArray, List.set_cons_zero, List.set_cons_succ])
        | (refine WalkU.one (i := 9) rfl (by kernel_rfl) (fun K hK => ?_)
           first
             | (first | (go_at_call 130; (with_reducible refine (l3Floor_any _ _ _ Hdj.out).mono ?_); rintro e w4 ⟨rfl, rfl⟩) | (go_at_call 129; (with_reducible refine (l2Scale_any _ _ _ _ _ _ (by omega) hi.drew).mono ?_); rintro e w5 ⟨p5, c5, rfl, ho5, hb5⟩; replace hc := belowCell hb5 hc; replace hce := belowCell hb5 hce; replace hco := belowCell hb5 hco) | (go_at_call 128; (with_reducible refine (l2Less_any _ _ _ _ _ _ _ _ (by omega) (hio.drew.below hb5) ho5.ints).mono ?_); rintro e w6 ⟨p6, c6, rfl, ho6, hb6⟩; replace hc := belowCell hb6 hc; replace hce := belowCell hb6 hce; replace hco := belowCell hb6 hco))
             | (go_simp; (first | (go_at_call 130; (with_reducible refine (l3Floor_any _ _ _ Hdj.out).mono ?_); rintro e w4 ⟨rfl, rfl⟩) | (go_at_call 129; (with_reducible refine (l2Scale_any _ _ _ _ _ _ (by omega) hi.drew).mono ?_); rintro e w5 ⟨p5, c5, rfl, ho5, hb5⟩; replace hc := belowCell hb5 hc; replace hce := belowCell hb5 hce; replace hco := belowCell hb5 hco) | (go_at_call 128; (with_reducible refine (l2Less_any _ _ _ _ _ _ _ _ (by omega) (hio.drew.below hb5) ho5.ints).mono ?_); rintro e w6 ⟨p6, c6, rfl, ho6, hb6⟩; replace hc := belowCell hb6 hc; replace hce := belowCell hb6 hce; replace hco := belowCell hb6 hco)))
             | go_simp
           refine hK.out _ _ ?_ (fun hHeld => ?_)
           · ((try dsimp only); exact ⟨hc, hce, hco⟩)
           clear hK K
           try simp only [Act.put, List.setIfInBounds_toArray, List.set_cons_zero, List.set_cons_succ])
      first
        | (refine WalkU.take (i := 10) (v := ?_) rfl (by kernel_rfl) (by kernel_rfl) (by kernel_rfl) (by kernel_rfl) (fun _ _ _ h => h) (Or.inl ⟨by rfl, ?_⟩) hHeld ?_
           rotate_left
           · (intro w hSw; (try dsimp only at hSw); go_simp; try with_reducible rfl)
           try simp only [Act.put, List.setIfInBounds_toArray, List.set_cons_zero, List.set_cons_succ])
        | (refine WalkU.take (i := 10) (v := undef) rfl (by kernel_rfl) (by kernel_rfl) (by kernel_rfl) (by kernel_rfl) (fun _ _ _ h => h) (Or.inr ⟨by rfl, rfl⟩) hHeld ?_
           try simp only [Act.put, List.setIfInBounds_toArray, List.set_cons_zero, List.set_cons_succ])
        | (refine WalkU.one (i := 10) rfl (by kernel_rfl) (fun K hK => ?_)
           first
             | (first | (go_at_call 130; (with_reducible refine (l3Floor_any _ _ _ Hdj.out).mono ?_); rintro e w4 ⟨rfl, rfl⟩) | (go_at_call 129; (with_reducible refine (l2Scale_any _ _ _ _ _ _ (by omega) hi.drew).mono ?_); rintro e w5 ⟨p5, c5, rfl, ho5, hb5⟩; replace hc := belowCell hb5 hc; replace hce := belowCell hb5 hce; replace hco := belowCell hb5 hco) | (go_at_call 128; (with_reducible refine (l2Less_any _ _ _ _ _ _ _ _ (by omega) (hio.drew.below hb5) ho5.ints).mono ?_); rintro e w6 ⟨p6, c6, rfl, ho6, hb6⟩; replace hc := belowCell hb6 hc; replace hce := belowCell hb6 hce; replace hco := belowCell hb6 hco))
             | (go_simp; (first | (go_at_call 130; (with_reducible refine (l3Floor_any _ _ _ Hdj.out).mono ?_); rintro e w4 ⟨rfl, rfl⟩) | (go_at_call 129; (with_reducible refine (l2Scale_any _ _ _ _ _ _ (by omega) hi.drew).mono ?_); rintro e w5 ⟨p5, c5, rfl, ho5, hb5⟩; replace hc := belowCell hb5 hc; replace hce := belowCell hb5 hce; replace hco := belowCell hb5 hco) | (go_at_call 128; (with_reducible refine (l2Less_any _ _ _ _ _ _ _ _ (by omega) (hio.drew.below hb5) ho5.ints).mono ?_); rintro e w6 ⟨p6, c6, rfl, ho6, hb6⟩; replace hc := belowCell hb6 hc; replace hce := belowCell hb6 hce; replace hco := belowCell hb6 hco)))
             | go_simp
           refine hK.out _ _ ?_ (fun hHeld => ?_)
           · ((try dsimp only); exact ⟨hc, hce, hco⟩)
           clear hK K
           try simp only [Act.put, List.setIfInBounds_toArray, List.set_cons_zero, List.set_cons_succ])
      first
        | (refine WalkU.take (i := 11) (v := ?_) rfl (by kernel_rfl) (by kernel_rfl) (by kernel_rfl) (by kernel_rfl) (fun _ _ _ h => h) (Or.inl ⟨by rfl, ?_⟩) hHeld ?_
           rotate_left
           · (intro w hSw; (try dsimp only at hSw); go_simp; try with_reducible rfl)
           try simp only [Act.put, List.setIfInBounds_toArray, List.set_cons_zero, List.set_cons_succ])
        | (refine WalkU.take (i := 11) (v := undef) rfl (by kernel_rfl) (by kernel_rfl) (by kernel_rfl) (by kernel_rfl) (fun _ _ _ h => h) (Or.inr ⟨by rfl, rfl⟩) hHeld ?_
           try simp only [Act.put, List.setIfInBounds_toArray, List.set_cons_zero, List.set_cons_succ])
        | (refine WalkU.one (i := 11) rfl (by kernel_rfl) (fun K hK => ?_)
           first
             | (first | (go_at_call 130; (with_reducible refine (l3Floor_any _ _ _ Hdj.out).mono ?_); rintro e w4 ⟨rfl, rfl⟩) | (go_at_call 129; (with_reducible refine (l2Scale_any _ _ _ _ _ _ (by omega) hi.drew).mono ?_); rintro e w5 ⟨p5, c5, rfl, ho5, hb5⟩; replace hc := belowCell hb5 hc; replace hce := belowCell hb5 hce; replace hco := belowCell hb5 hco) | (go_at_call 128; (with_reducible refine (l2Less_any _ _ _ _ _ _ _ _ (by omega) (hio.drew.below hb5) ho5.ints).mono ?_); rintro e w6 ⟨p6, c6, rfl, ho6, hb6⟩; replace hc := belowCell hb6 hc; replace hce := belowCell hb6 hce; replace hco := belowCell hb6 hco))
             | (go_simp; (first | (go_at_call 130; (with_reducible refine (l3Floor_any _ _ _ Hdj.out).mono ?_); rintro e w4 ⟨rfl, rfl⟩) | (go_at_call 129; (with_reducible refine (l2Scale_any _ _ _ _ _ _ (by omega) hi.drew).mono ?_); rintro e w5 ⟨p5, c5, rfl, ho5, hb5⟩; replace hc := belowCell hb5 hc; replace hce := belowCell hb5 hce; replace hco := belowCell hb5 hco) | (go_at_call 128; (with_reducible refine (l2Less_any _ _ _ _ _ _ _ _ (by omega) (hio.drew.below hb5) ho5.ints).mono ?_); rintro e w6 ⟨p6, c6, rfl, ho6, hb6⟩; replace hc := belowCell hb6 hc; replace hce := belowCell hb6 hce; replace hco := belowCell hb6 hco)))
             | go_simp
           refine hK.out _ _ ?_ (fun hHeld => ?_)
           · ((try dsimp only); exact ⟨hc, hce, hco⟩)
           clear hK K
           try simp only [Act.put, List.setIfInBounds_toArray, List.set_cons_zero, List.set_cons_succ])
      first
        | (refine WalkU.take (i := 12) (v := ?_) rfl (by kernel_rfl) (by kernel_rfl) (by kernel_rfl) (by kernel_rfl) (fun _ _ _ h => h) (Or.inl ⟨by rfl, ?_⟩) hHeld ?_
           rotate_left
           · (intro w hSw; (try dsimp only at hSw); go_simp; try with_reducible rfl)
           try simp only [Act.put, List.setIfInBounds_toArray, List.set_cons_zero, List.set_cons_succ])
        | (refine WalkU.take (i := 12) (v := undef) rfl (by kernel_rfl) (by kernel_rfl) (by kernel_rfl) (by kernel_rfl) (fun _ _ _ h => h) (Or.inr ⟨by rfl, rfl⟩) hHeld ?_
           try simp only [Act.put, List.setIfInBounds_toArray, List.set_cons_zero, List.set_cons_succ])
        | (refine WalkU.one (i := 12) rfl (by kernel_rfl) (fun K hK => ?_)
           first
             | (first | (go_at_call 130; (with_reducible refine (l3Floor_any _ _ _ Hdj.out).mono ?_); rintro e w4 ⟨rfl, rfl⟩) | (go_at_call 129; (with_reducible refine (l2Scale_any _ _ _ _ _ _ (by omega) hi.drew).mono ?_); rintro e w5 ⟨p5, c5, rfl, ho5, hb5⟩; replace hc := belowCell hb5 hc; replace hce := belowCell hb5 hce; replace hco := belowCell hb5 hco) | (go_at_call 128; (with_reducible refine (l2Less_any _ _ _ _ _ _ _ _ (by omega) (hio.drew.below hb5) ho5.ints).mono ?_); rintro e w6 ⟨p6, c6, rfl, ho6, hb6⟩; replace hc := belowCell hb6 hc; replace hce := belowCell hb6 hce; replace hco := belowCell hb6 hco))
             | (go_simp; (first | (go_at_call 130; (with_reducible refine (l3Floor_any _ _ _ Hdj.out).mono ?_); rintro e w4 ⟨rfl, rfl⟩) | (go_at_call 129; (with_reducible refine (l2Scale_any _ _ _ _ _ _ (by omega) hi.drew).mono ?_); rintro e w5 ⟨p5, c5, rfl, ho5, hb5⟩; replace hc := belowCell hb5 hc; replace hce := belowCell hb5 hce; replace hco := belowCell hb5 hco) | (go_at_call 128; (with_reducible refine (l2Less_any _ _ _ _ _ _ _ _ (by omega) (hio.drew.below hb5) ho5.ints).mono ?_); rintro e w6 ⟨p6, c6, rfl, ho6, hb6⟩; replace hc := belowCell hb6 hc; replace hce := belowCell hb6 hce; replace hco := belowCell hb6 hco)))
             | go_simp
           refine hK.out _ _ ?_ (fun hHeld => ?_)
           · ((try dsimp only); exact ⟨hc, hce, hco⟩)
           clear hK K
           try simp only [Act.put, List.setIfInBounds_toArray, List.set_cons_zero, List.set_cons_succ])
      first
        | (refine WalkU.take (i := 13) (v := ?_) rfl (by kernel_rfl) (by kernel_rfl) (by kernel_rfl) (by kernel_rfl) (fun _ _ _ h => h) (Or.inl ⟨by rfl, ?_⟩) hHeld ?_
           rotate_left
           · (intro w hSw; (try dsimp only at hSw); go_simp; try with_reducible rfl)
           try simp only [Act.put, List.setIfInBounds_toArray, List.set_cons_zero, List.set_cons_succ])
        | (refine WalkU.take (i := 13) (v := undef) rfl (by kernel_rfl) (by kernel_rfl) (by kernel_rfl) (by kernel_rfl) (fun _ _ _ h => h) (Or.inr ⟨by rfl, rfl⟩) hHeld ?_
           try simp only [Act.put, List.setIfInBounds_toArray, List.set_cons_zero, List.set_cons_succ])
        | (refine WalkU.one (i := 13) rfl (by kernel_rfl) (fun K hK => ?_)
           first
             | (first | (go_at_call 130; (with_reducible refine (l3Floor_any _ _ _ Hdj.out).mono ?_); rintro e w4 ⟨rfl, rfl⟩) | (go_at_call 129; (with_reducible refine (l2Scale_any _ _ _ _ _ _ (by omega) hi.drew).mono ?_); rintro e w5 ⟨p5, c5, rfl, ho5, hb5⟩; replace hc := belowCell hb5 hc; replace hce := belowCell hb5 hce; replace hco := belowCell hb5 hco) | (go_at_call 128; (with_reducible refine (l2Less_any _ _ _ _ _ _ _ _ (by omega) (hio.drew.below hb5) ho5.ints).mono ?_); rintro e w6 ⟨p6, c6, rfl, ho6, hb6⟩; replace hc := belowCell hb6 hc; replace hce := belowCell hb6 hce; replace hco := belowCell hb6 hco))
             | (go_simp; (first | (go_at_call 130; (with_reducible refine (l3Floor_any _ _ _ Hdj.out).mono ?_); rintro e w4 ⟨rfl, rfl⟩) | (go_at_call 129; (with_reducible refine (l2Scale_any _ _ _ _ _ _ (by omega) hi.drew).mono ?_); rintro e w5 ⟨p5, c5, rfl, ho5, hb5⟩; replace hc := belowCell hb5 hc; replace hce := belowCell hb5 hce; replace hco := belowCell hb5 hco) | (go_at_call 128; (with_reducible refine (l2Less_any _ _ _ _ _ _ _ _ (by omega) (hio.drew.below hb5) ho5.ints).mono ?_); rintro e w6 ⟨p6, c6, rfl, ho6, hb6⟩; replace hc := belowCell hb6 hc; replace hce := belowCell hb6 hce; replace hco := belowCell hb6 hco)))
             | go_simp
           refine hK.out _ _ ?_ (fun hHeld => ?_)
           · ((try dsimp only); exact ⟨hc, hce, hco⟩)
           clear hK K
           try simp only [Act.put, List.setIfInBounds_toArray, List.set_cons_zero, List.set_cons_succ])
      first
        | (refine WalkU.take (i := 14) (v := ?_) rfl (by kernel_rfl) (by kernel_rfl) (by kernel_rfl) (by kernel_rfl) (fun _ _ _ h => h) (Or.inl ⟨by rfl, ?_⟩) hHeld ?_
           rotate_left
           · (intro w hSw; (try dsimp only at hSw); go_simp; try with_reducible rfl)
           try simp only [Act.put, List.setIfInBounds_toArray, List.set_cons_zero, List.set_cons_succ])
        | (refine WalkU.take (i := 14) (v := undef) rfl (by kernel_rfl) (by kernel_rfl) (by kernel_rfl) (by kernel_rfl) (fun _ _ _ h => h) (Or.inr ⟨by rfl, rfl⟩) hHeld ?_
           try simp only [Act.put, List.setIfInBounds_toArray, List.set_cons_zero, List.set_cons_succ])
        | (refine WalkU.one (i := 14) rfl (by kernel_rfl) (fun K hK => ?_)
           first
             | (first | (go_at_call 130; (with_reducible refine (l3Floor_any _ _ _ Hdj.out).mono ?_); rintro e w4 ⟨rfl, rfl⟩) | (go_at_call 129; (with_reducible refine (l2Scale_any _ _ _ _ _ _ (by omega) hi.drew).mono ?_); rintro e w5 ⟨p5, c5, rfl, ho5, hb5⟩; replace hc := belowCell hb5 hc; replace hce := belowCell hb5 hce; replace hco := belowCell hb5 hco) | (go_at_call 128; (with_reducible refine (l2Less_any _ _ _ _ _ _ _ _ (by omega) (hio.drew.below hb5) ho5.ints).mono ?_); rintro e w6 ⟨p6, c6, rfl, ho6, hb6⟩; replace hc := belowCell hb6 hc; replace hce := belowCell hb6 hce; replace hco := belowCell hb6 hco))
             | (go_simp; (first | (go_at_call 130; (with_reducible refine (l3Floor_any _ _ _ Hdj.out).mono ?_); rintro e w4 ⟨rfl, rfl⟩) | (go_at_call 129; (with_reducible refine (l2Scale_any _ _ _ _ _ _ (by omega) hi.drew).mono ?_); rintro e w5 ⟨p5, c5, rfl, ho5, hb5⟩; replace hc := belowCell hb5 hc; replace hce := belowCell hb5 hce; replace hco := belowCell hb5 hco) | (go_at_call 128; (with_reducible refine (l2Less_any _ _ _ _ _ _ _ _ (by omega) (hio.drew.below hb5) ho5.ints).mono ?_); rintro e w6 ⟨p6, c6, rfl, ho6, hb6⟩; replace hc := belowCell hb6 hc; replace hce := belowCell hb6 hce; replace hco := belowCell hb6 hco)))
             | go_simp
           refine hK.out _ _ ?_ (fun hHeld => ?_)
           · ((try dsimp only); exact ⟨hc, hce, hco⟩)
           clear hK K
           try simp only [Act.put, List.setIfInBounds_toArray, List.set_cons_zero, List.set_cons_succ])
      first
        | (refine WalkU.take (i := 15) (v := ?_) rfl (by kernel_rfl) (by kernel_rfl) (by kernel_rfl) (by kernel_rfl) (fun _ _ _ h => h) (Or.inl ⟨by rfl, ?_⟩) hHeld ?_
           rotate_left
           · (intro w hSw; (try dsimp only at hSw); go_simp; try with_reducible rfl)
           try simp only [Act.put, List.setIfInBounds_toArray, List.set_cons_zero, List.set_cons_succ])
        | (refine WalkU.take (i := 15) (v := undef) rfl (by kernel_rfl) (by kernel_rfl) (by kernel_rfl) (by kernel_rfl) (fun _ _ _ h => h) (Or.inr ⟨by rfl, rfl⟩) hHeld ?_
           try simp only [Act.put, List.setIfInBounds_toArray, List.set_cons_zero, List.set_cons_succ])
        | (refine WalkU.one (i := 15) rfl (by kernel_rfl) (fun K hK => ?_)
           first
             | (first | (go_at_call 130; (with_reducible refine (l3Floor_any _ _ _ Hdj.out).mono ?_); rintro e w4 ⟨rfl, rfl⟩) | (go_at_call 129; (with_reducible refine (l2Scale_any _ _ _ _ _ _ (by omega) hi.drew).mono ?_); rintro e w5 ⟨p5, c5, rfl, ho5, hb5⟩; replace hc := belowCell hb5 hc; replace hce := belowCell hb5 hce; replace hco := belowCell hb5 hco) | (go_at_call 128; (with_reducible refine (l2Less_any _ _ _ _ _ _ _ _ (by omega) (hio.drew.below hb5) ho5.ints).mono ?_); rintro e w6 ⟨p6, c6, rfl, ho6, hb6⟩; replace hc := belowCell hb6 hc; replace hce := belowCell hb6 hce; replace hco := belowCell hb6 hco))
             | (go_simp; (first | (go_at_call 130; (with_reducible refine (l3Floor_any _ _ _ Hdj.out).mono ?_); rintro e w4 ⟨rfl, rfl⟩) | (go_at_call 129; (with_reducible refine (l2Scale_any _ _ _ _ _ _ (by omega) hi.drew).mono ?_); rintro e w5 ⟨p5, c5, rfl, ho5, hb5⟩; replace hc := belowCell hb5 hc; replace hce := belowCell hb5 hce; replace hco := belowCell hb5 hco) | (go_at_call 128; (with_reducible refine (l2Less_any _ _ _ _ _ _ _ _ (by omega) (hio.drew.below hb5) ho5.ints).mono ?_); rintro e w6 ⟨p6, c6, rfl, ho6, hb6⟩; replace hc := belowCell hb6 hc; replace hce := belowCell hb6 hce; replace hco := belowCell hb6 hco)))
             | go_simp
           refine hK.out _ _ ?_ (fun hHeld => ?_)
           · ((try dsimp only); exact ⟨hc, hce, hco⟩)
           clear hK K
           try simp only [Act.put, List.setIfInBounds_toArray, List.set_cons_zero, List.set_cons_succ])
      first
        | (refine WalkU.take (i := 16) (v := ?_) rfl (by kernel_rfl) (by kernel_rfl) (by kernel_rfl) (by kernel_rfl) (fun _ _ _ h => h) (Or.inl ⟨by rfl, ?_⟩) hHeld ?_
           rotate_left
           · (intro w hSw; (try dsimp only at hSw); go_simp; try with_reducible rfl)
           try simp only [Act.put, List.setIfInBounds_toArray, List.set_cons_zero, List.set_cons_succ])
        | (refine WalkU.take (i := 16) (v := undef) rfl (by kernel_rfl) (by kernel_rfl) (by kernel_rfl) (by kernel_rfl) (fun _ _ _ h => h) (Or.inr ⟨by rfl, rfl⟩) hHeld ?_
           try simp only [Act.put, List.setIfInBounds_toArray, List.set_cons_zero, List.set_cons_succ])
        | (refine WalkU.one (i := 16) rfl (by kernel_rfl) (fun K hK => ?_)
           first
             | (first | (go_at_call 130; (with_reducible refine (l3Floor_any _ _ _ Hdj.out).mono ?_); rintro e w4 ⟨rfl, rfl⟩) | (go_at_call 129; (with_reducible refine (l2Scale_any _ _ _ _ _ _ (by omega) hi.drew).mono ?_); rintro e w5 ⟨p5, c5, rfl, ho5, hb5⟩; replace hc := belowCell hb5 hc; replace hce := belowCell hb5 hce; replace hco := belowCell hb5 hco) | (go_at_call 128; (with_reducible refine (l2Less_any _ _ _ _ _ _ _ _ (by omega) (hio.drew.below hb5) ho5.ints).mono ?_); rintro e w6 ⟨p6, c6, rfl, ho6, hb6⟩; replace hc := belowCell hb6 hc; replace hce := belowCell hb6 hce; replace hco := belowCell hb6 hco))
             | (go_simp; (first | (go_at_call 130; (with_reducible refine (l3Floor_any _ _ _ Hdj.out).mono ?_); rintro e w4 ⟨rfl, rfl⟩) | (go_at_call 129; (with_reducible refine (l2Scale_any _ _ _ _ _ _ (by omega) hi.drew).mono ?_); rintro e w5 ⟨p5, c5, rfl, ho5, hb5⟩; replace hc := belowCell hb5 hc; replace hce := belowCell hb5 hce; replace hco := belowCell hb5 hco) | (go_at_call 128; (with_reducible refine (l2Less_any _ _ _ _ _ _ _ _ (by omega) (hio.drew.below hb5) ho5.ints).mono ?_); rintro e w6 ⟨p6, c6, rfl, ho6, hb6⟩; replace hc := belowCell hb6 hc; replace hce := belowCell hb6 hce; replace hco := belowCell hb6 hco)))
             | go_simp
           refine hK.out _ _ ?_ (fun hHeld => ?_)
           · ((try dsimp only); exact ⟨hc, hce, hco⟩)
           clear hK K
           try simp only [Act.put, List.setIfInBounds_toArray, List.set_cons_zero, List.set_cons_succ])
      first
        | (refine WalkU.take (i := 17) (v := ?_) rfl (by kernel_rfl) (by kernel_rfl) (by kernel_rfl) (by kernel_rfl) (fun _ _ _ h => h) (Or.inl ⟨by rfl, ?_⟩) hHeld ?_
           rotate_left
           · (intro w hSw; (try dsimp only at hSw); go_simp; try with_reducible rfl)
           try simp only [Act.put, List.setIfInBounds_toArray, List.set_cons_zero, List.set_cons_succ])
        | (refine WalkU.take (i := 17) (v := undef) rfl (by kernel_rfl) (by kernel_rfl) (by kernel_rfl) (by kernel_rfl) (fun _ _ _ h => h) (Or.inr ⟨by rfl, rfl⟩) hHeld ?_
           try simp only [Act.put, List.setIfInBounds_toArray, List.set_cons_zero, List.set_cons_succ])
        | (refine WalkU.one (i := 17) rfl (by kernel_rfl) (fun K hK => ?_)
           first
             | (first | (go_at_call 130; (with_reducible refine (l3Floor_any _ _ _ Hdj.out).mono ?_); rintro e w4 ⟨rfl, rfl⟩) | (go_at_call 129; (with_reducible refine (l2Scale_any _ _ _ _ _ _ (by omega) hi.drew).mono ?_); rintro e w5 ⟨p5, c5, rfl, ho5, hb5⟩; replace hc := belowCell hb5 hc; replace hce := belowCell hb5 hce; replace hco := belowCell hb5 hco) | (go_at_call 128; (with_reducible refine (l2Less_any _ _ _ _ _ _ _ _ (by omega) (hio.drew.below hb5) ho5.ints).mono ?_); rintro e w6 ⟨p6, c6, rfl, ho6, hb6⟩; replace hc := belowCell hb6 hc; replace hce := belowCell hb6 hce; replace hco := belowCell hb6 hco))
             | (go_simp; (first | (go_at_call 130; (with_reducible refine (l3Floor_any _ _ _ Hdj.out).mono ?_); rintro e w4 ⟨rfl, rfl⟩) | (go_at_call 129; (with_reducible refine (l2Scale_any _ _ _ _ _ _ (by omega) hi.drew).mono ?_); rintro e w5 ⟨p5, c5, rfl, ho5, hb5⟩; replace hc := belowCell hb5 hc; replace hce := belowCell hb5 hce; replace hco := belowCell hb5 hco) | (go_at_call 128; (with_reducible refine (l2Less_any _ _ _ _ _ _ _ _ (by omega) (hio.drew.below hb5) ho5.ints).mono ?_); rintro e w6 ⟨p6, c6, rfl, ho6, hb6⟩; replace hc := belowCell hb6 hc; replace hce := belowCell hb6 hce; replace hco := belowCell hb6 hco)))
             | go_simp
           refine hK.out _ _ ?_ (fun hHeld => ?_)
           · ((try dsimp only); exact ⟨hc, hce, hco⟩)
           clear hK K
           try simp only [Act.put, List.setIfInBounds_toArray, List.set_cons_zero, List.set_cons_succ])
      first
        | (refine WalkU.take (i := 18) (v := ?_) rfl (by kernel_rfl) (by kernel_rfl) (by kernel_rfl) (by kernel_rfl) (fun _ _ _ h => h) (Or.inl ⟨by rfl, ?_⟩) hHeld ?_
           rotate_left
           · (intro w hSw; (try dsimp only at hSw); go_simp; try with_reducible rfl)
           try simp only [Act.put, List.setIfInBounds_toArray, List.set_cons_zero, List.set_cons_succ])
        | (refine WalkU.take (i := 18) (v := undef) rfl (by kernel_rfl) (by kernel_rfl) (by kernel_rfl) (by kernel_rfl) (fun _ _ _ h => h) (Or.inr ⟨by rfl, rfl⟩) hHeld ?_
           try simp only [Act.put, List.setIfInBounds_toArray, List.set_cons_zero, List.set_cons_succ])
        | (refine WalkU.one (i := 18) rfl (by kernel_rfl) (fun K hK => ?_)
           first
             | (first | (go_at_call 130; (with_reducible refine (l3Floor_any _ _ _ Hdj.out).mono ?_); rintro e w4 ⟨rfl, rfl⟩) | (go_at_call 129; (with_reducible refine (l2Scale_any _ _ _ _ _ _ (by omega) hi.drew).mono ?_); rintro e w5 ⟨p5, c5, rfl, ho5, hb5⟩; replace hc := belowCell hb5 hc; replace hce := belowCell hb5 hce; replace hco := belowCell hb5 hco) | (go_at_call 128; (with_reducible refine (l2Less_any _ _ _ _ _ _ _ _ (by omega) (hio.drew.below hb5) ho5.ints).mono ?_); rintro e w6 ⟨p6, c6, rfl, ho6, hb6⟩; replace hc := belowCell hb6 hc; replace hce := belowCell hb6 hce; replace hco := belowCell hb6 hco))
             | (go_simp; (first | (go_at_call 130; (with_reducible refine (l3Floor_any _ _ _ Hdj.out).mono ?_); rintro e w4 ⟨rfl, rfl⟩) | (go_at_call 129; (with_reducible refine (l2Scale_any _ _ _ _ _ _ (by omega) hi.drew).mono ?_); rintro e w5 ⟨p5, c5, rfl, ho5, hb5⟩; replace hc := belowCell hb5 hc; replace hce := belowCell hb5 hce; replace hco := belowCell hb5 hco) | (go_at_call 128; (with_reducible refine (l2Less_any _ _ _ _ _ _ _ _ (by omega) (hio.drew.below hb5) ho5.ints).mono ?_); rintro e w6 ⟨p6, c6, rfl, ho6, hb6⟩; replace hc := belowCell hb6 hc; replace hce := belowCell hb6 hce; replace hco := belowCell hb6 hco)))
             | go_simp
           refine hK.out _ _ ?_ (fun hHeld => ?_)
           · ((try dsimp only); exact ⟨hc, hce, hco⟩)
           clear hK K
           try simp only [Act.put, List.setIfInBounds_toArray, List.set_cons_zero, List.set_cons_succ])
      first
        | (refine WalkU.last (i := 19) rfl rfl (by kernel_rfl) (by kernel_rfl) (fun K hK => ?_)
           first
             | (first | (go_at_call 130; (with_reducible refine (l3Floor_any _ _ _ Hdj.out).mono ?_); rintro e w4 ⟨rfl, rfl⟩) | (go_at_call 129; (with_reducible refine (l2Scale_any _ _ _ _ _ _ (by omega) hi.drew).mono ?_); rintro e w5 ⟨p5, c5, rfl, ho5, hb5⟩; replace hc := belowCell hb5 hc; replace hce := belowCell hb5 hce; replace hco := belowCell hb5 hco) | (go_at_call 128; (with_reducible refine (l2Less_any _ _ _ _ _ _ _ _ (by omega) (hio.drew.below hb5) ho5.ints).mono ?_); rintro e w6 ⟨p6, c6, rfl, ho6, hb6⟩; replace hc := belowCell hb6 hc; replace hce := belowCell hb6 hce; replace hco := belowCell hb6 hco))
             | (go_simp; (first | (go_at_call 130; (with_reducible refine (l3Floor_any _ _ _ Hdj.out).mono ?_); rintro e w4 ⟨rfl, rfl⟩) | (go_at_call 129; (with_reducible refine (l2Scale_any _ _ _ _ _ _ (by omega) hi.drew).mono ?_); rintro e w5 ⟨p5, c5, rfl, ho5, hb5⟩; replace hc := belowCell hb5 hc; replace hce := belowCell hb5 hce; replace hco := belowCell hb5 hco) | (go_at_call 128; (with_reducible refine (l2Less_any _ _ _ _ _ _ _ _ (by omega) (hio.drew.below hb5) ho5.ints).mono ?_); rintro e w6 ⟨p6, c6, rfl, ho6, hb6⟩; replace hc := belowCell hb6 hc; replace hce := belowCell hb6 hce; replace hco := belowCell hb6 hco)))
             | go_simp
           refine hK.out _ _ ?_
           clear hK K
           try simp only [Act.put, List.setIfInBounds_toArray, List.set_cons_zero, List.set_cons_succ])
      have hbd := (drewBelow W).trans hb5
      have hb7 := Below.step hbd hb6
      rw [HL.out] at ho6
      go_wp2
      go_roundw
      case rel => exact ⟨j + 1, _, _, by omega, by go_num, rfl, by rw [HN.out]; exact ho6.widen (Nat.le_trans hb.size hbd.size) (Nat.le_refl _), Below.step hb hb7⟩
      case measure => simp [intOf]; omega
    · obtain rfl : j = n := by omega
      go_wp2
      go_ret
      exact ⟨_, _, rfl, hown, hb⟩

end Go.Proofs.Ytbggcpkkjkggcaa
