/- The reference's draws of regions: what a great law reads. Conditions: sizes. -/
import Derived.Test.YtpfklkmmhdpphadGreatDoorRDraw2
import Derived.Test.YtpfklkmmhdpphadGreatDoorMDraw2
import Derived.Deep.RegionHeld3
namespace Go.Proofs.YtpfklkmmhdpphadGreatDoor
open Go.RowKit
set_option linter.unusedVariables false
set_option linter.unusedSimpArgs false
set_option maxRecDepth 100000

attribute [local go_sem ↓] Go.wp_at_zero Go.wp_at_succ

/-- A region that is read. -/
def ReadR (w : World) (e : Ending) (w' : World) : Prop :=
  ∃ (z : Int) (q : Option Addr) (k d : Nat) (hs : List Pr), e = .returned (.agg #[.int .i64 z, .slice q k d]) ∧ OwnPM 36 w' w.heap.size w'.heap.size q k d hs ∧ 0 ≤ z ∧ z ≤ 4 ∧ k ≤ 6 ∧ Hid (∀ j, j < k → (nrm hs j).length ≤ 3) ∧ Below w.heap.size w w'
/-- A region and a row that are read. -/
def ReadRV (w : World) (e : Ending) (w' : World) : Prop :=
  ∃ (z : Int) (q : Option Addr) (k d : Nat) (hs : List Pr) (q' : Option Addr) (m d' : Nat) (ys : List Int), e = .returned (.tuple #[.agg #[.int .i64 z, .slice q k d], .slice q' m d']) ∧ OwnPM 36 w' w.heap.size w'.heap.size q k d hs ∧ 0 ≤ z ∧ z ≤ 4 ∧ k ≤ 6 ∧ Hid (∀ j, j < k → (nrm hs j).length ≤ 3) ∧ Own w' w.heap.size w'.heap.size q' m d' ys ∧ m ≤ 5 ∧ Below w.heap.size w w'

set_option maxHeartbeats 4000000 in
theorem drawHasPoint_any (p : Option Addr) (n c : Nat) (xs : List Int) (w : World) (hn : n ≤ 1048576) (hx : BytesZ w p n xs) :
    Calls Tryz.prog 16 #[.slice p n c] w (ReadRV w) := by
  have hB := boxed w (.cells #[.int .i64 0, .slice none 0 0] 26)
  have kr := Box2.new w (.int .i64 0) (.slice none 0 0) 26
  have hs0 : (w.alloc (.cells #[.int .i64 0, .slice none 0 0] 26)).heap.size = w.heap.size + 1 := by simp
  have hx0 := hx.below hB
  go_enter Tryz.func16, Tryz.ntmps16
  go_wp2_with fail
  generalize w.alloc (.cells #[.int .i64 0, .slice none 0 0] 26) = W0 at *
  refine (l1New_any _ _ _ _ _ hn hx0).mono ?_
  rintro e w1 ⟨g, rfl, hg, hC, hb1⟩
  have hgl := hC.lt
  have kr1 := kr.below hb1
  have hs1 := hb1.size
  have hT1 := Below.step hB hb1
  go_wp2_with fail
  refine (l4Bent_any _ _ _ _ _ _ hn hC).mono ?_
  rintro e w2 ⟨z, q, k, d, hs, rfl, hown, hz0, hz1, hk, hln, hD⟩
  have kr2 := kr1.within hD.2 (.inl (by omega))
  have hT := hD.frame hT1 (by omega)
  have hs2 := hD.2.size
  have hBR := boxed w2 (.cells #[.int .i64 z, .slice q k d] 26)
  have kR := Box2.new w2 (.int .i64 z) (.slice q k d) 26
  have hownV := hown.below hBR
  have krV := kr2.below hBR
  have hDV := hD.1.below hBR
  have hTV := Below.step hT hBR
  have hsV : (w2.alloc (.cells #[.int .i64 z, .slice q k d] 26)).heap.size = w2.heap.size + 1 := by simp
  have hsV := Nat.le_of_eq hsV.symm
  go_wp2_with fail
  generalize w2.alloc (.cells #[.int .i64 z, .slice q k d] 26) = V at *
  generalize w2.heap.size = R at *
  have kRd := kR.drew
  have krd := krV.drew
  have hownd := hownV.below (drewBelow V)
  have hDd := hDV.below (drewBelow V)
  have hTd := Below.step hTV (drewBelow V)
  have a0 := kR.c0
  have a1 := kR.c1
  clear kr kr1 kr2 hown hD hT hT1 hBR hB hC
  go_region_held3 (fun w' => w'.cell? ⟨R, 0, none⟩ = some (.int .i64 z) ∧ w'.cell? ⟨R, 1, none⟩ = some (.slice q k d)) (first | exact ⟨a0, a1⟩ | exact ⟨cell_other (cell_other a0 (by dsimp only; omega)) (by dsimp only; omega), cell_other (cell_other a1 (by dsimp only; omega)) (by dsimp only; omega)⟩) (first | (go_simp; go_at_call 37; refine (l1Once_any _ _ _ _ _ _ _ hn hDd (by omega) (by omega)).mono ?_; rintro e w4 ⟨t, rfl, hD4⟩; have kR4 := kRd.within hD4.2 (.inr (by omega)); have kr4 := krd.within hD4.2 (.inl (by omega)); have hown4 := hownd.within hD4.2 (.inr (by omega)); have hT4 := hD4.frame hTd (by omega); obtain ⟨b, hb0, hb1, hb⟩ := l1Bit_some t; obtain ⟨m', hm', hm5⟩ : ∃ m' : Nat, max 1 (z + b) = (m' : Int) ∧ m' ≤ 5 := ⟨(max 1 (z + b)).toNat, by omega, by omega⟩; have hmax : ∀ W : World, Calls Tryz.prog 39 #[.int .i64 1, .int .i64 (IntKind.i64.wrap (z + b))] W fun e w' => e = .returned (.int .i64 (m' : Int)) ∧ W = w' := (fun W => by rw [wrapEq, wrap64_id (by omega) (by omega), ← hm']; exact l1Max_any _ _ _); clear hm'; replace a0 := kR4.c0; replace a1 := kR4.c1; have hs4 := hD4.2.size) | (go_simp; go_at_call 55; with_reducible refine (hb _).mono ?_; rintro e w' ⟨rfl, rfl⟩) | (go_simp; go_at_call 39; with_reducible refine (hmax _).mono ?_; rintro e w' ⟨rfl, rfl⟩) | (go_simp; go_at_call 54; refine (l2Draw_any _ _ _ _ m' _ _ _ hn hD4.1 (by omega) (by omega) (by omega)).mono ?_; rintro e w5 ⟨q5, d5, ys, rfl, ho5, _, hD5⟩; have kR5 := kR4.within hD5.2 (.inr (by omega)); have kr5 := kr4.within hD5.2 (.inl (by omega)); replace a0 := kR5.c0; replace a1 := kR5.c1; have r0 := kr5.c0; have r1 := kr5.c1; have f0 := kr5.fr 0; have f1 := kr5.fr 1))
  all_goals
    rw [World.size_drew] at hs4
    have hown5 := hown4.within hD5.2 (.inr (by omega))
    have hT5 := hD5.frame hT4 (by omega)
    have hs5 := hD5.2.size
    have kf := (kr5.set0 (.int .i64 z)).set1 (.slice q k d)
    have kf0 := kf.c0
    have kf1 := kf.c1
    go_wp2_with fail
    refine bodyPost_ret (v := .tuple #[.agg #[.int .i64 z, .slice q k d], .slice q5 m' d5]) (by simp [results, Tryz.results16, go_sem, kf0, kf1]) rfl ?_
    exact ⟨_, _, _, _, _, _, _, _, _, rfl, ((hown5.setBelow (a := ⟨_, _, none⟩) (by dsimp only; omega) _).setBelow (a := ⟨_, _, none⟩) (by dsimp only; omega) _).up.widen (by omega) (Nat.le_refl _), hz0, hz1, hk, hln, ((ho5.setBelow (a := ⟨_, _, none⟩) (by dsimp only; omega) _).setBelow (a := ⟨_, _, none⟩) (by dsimp only; omega) _).up.widen (by omega) (Nat.le_refl _), hm5, (hT5.setCell (p := ⟨_, _, none⟩) (by dsimp only; omega) _).setCell (p := ⟨_, _, none⟩) (by dsimp only; omega) _⟩

end Go.Proofs.YtpfklkmmhdpphadGreatDoor
