/- The reference's draw of a slice of a region. Conditions: sizes. -/
import Derived.Test.YtpfklkmmhdpphacRDraw3
namespace Go.Proofs.Ytpfklkmmhdpphac
open Go.RowKit
set_option linter.unusedVariables false
set_option linter.unusedSimpArgs false
set_option maxRecDepth 100000

attribute [local go_sem ↓] Go.wp_at_zero Go.wp_at_succ

/-- A region and two numbers. -/
def ReadRII (w : World) (e : Ending) (w' : World) : Prop :=
  ∃ (z : Int) (q : Option Addr) (k d : Nat) (hs : List Pr) (i j : Int), e = .returned (.tuple #[.agg #[.int .i64 z, .slice q k d], .int .i64 i, .int .i64 j]) ∧ OwnPM 48 w' w.heap.size w'.heap.size q k d hs ∧ 0 ≤ z ∧ z ≤ 4 ∧ k ≤ 6 ∧ Hid (∀ j, j < k → (nrm hs j).length ≤ 3) ∧ Below w.heap.size w w'

set_option maxHeartbeats 4000000 in
theorem drawSlice_any (p : Option Addr) (n c : Nat) (xs : List Int) (w : World) (hn : n ≤ 1048576) (hx : BytesZ w p n xs) :
    Calls Try.prog 12 #[.slice p n c] w (ReadRII w) := by
  have hB := boxed w (.cells #[.int .i64 0, .slice none 0 0] 26)
  have kr := Box2.new w (.int .i64 0) (.slice none 0 0) 26
  have hs0 : (w.alloc (.cells #[.int .i64 0, .slice none 0 0] 26)).heap.size = w.heap.size + 1 := by simp
  have hx0 := hx.below hB
  go_enter Try.func12, Try.ntmps12
  go_wp2_with fail
  generalize w.alloc (.cells #[.int .i64 0, .slice none 0 0] 26) = W0 at *
  refine (l1New_any _ _ _ _ _ hn hx0).mono ?_
  rintro e w1 ⟨g, rfl, hg, hC, hb1⟩
  have hgl := hC.lt
  have kr1 := kr.below hb1
  have hs1 := hb1.size
  have hT1 := Below.step hB hb1
  go_wp2_with fail
  refine (l4Bent_any _ _ _ _ _ _ hn hC).mono ?_
  rintro e w2 ⟨z, q, k, d, hs, rfl, hown, hz0, hz1, hk, hln, hD⟩
  have kr2 := kr1.within hD.2 (.inl (by omega))
  have hT := hD.frame hT1 (by omega)
  have hs2 := hD.2.size
  have hBR := boxed w2 (.cells #[.int .i64 z, .slice q k d] 26)
  have kR := Box2.new w2 (.int .i64 z) (.slice q k d) 26
  have hownV := hown.below hBR
  have krV := kr2.below hBR
  have hDV := hD.1.below hBR
  have hTV := Below.step hT hBR
  have hsV : (w2.alloc (.cells #[.int .i64 z, .slice q k d] 26)).heap.size = w2.heap.size + 1 := by simp
  have hsV := Nat.le_of_eq hsV.symm
  go_wp2_with fail
  generalize w2.alloc (.cells #[.int .i64 z, .slice q k d] 26) = V0 at *
  generalize w2.heap.size = R at *
  clear kr kr1 kr2 hown hD hT hT1 hBR hB hC
  refine (l1Below_any _ _ _ _ _ _ _ hn hDV (by omega) (by omega)).mono ?_
  rintro e w3 ⟨x, rfl, hx0', hx1', hD3⟩
  have hT3 := hD3.frame hTV (by omega)
  have kR3 := kR.within hD3.2 (.inr (by omega))
  have kr3 := krV.within hD3.2 (.inl (by omega))
  have hown3 := hownV.within hD3.2 (.inr (by omega))
  have hs3 := hD3.2.size
  go_wp2_with fail
  refine (l1Once_any _ _ _ _ _ _ _ hn hD3.1 (by omega) (by omega)).mono ?_
  rintro e V ⟨t, rfl, hD4⟩
  have hT4 := hD4.frame hT3 (by omega)
  have kR4 := kR3.within hD4.2 (.inr (by omega))
  have kr4 := kr3.within hD4.2 (.inl (by omega))
  have hown4 := hown3.within hD4.2 (.inr (by omega))
  have hs4 := hD4.2.size
  obtain ⟨b, hb0, hb1', hb⟩ := l1Bit_some t
  clear kR kR3 kr3 krV hown3 hownV hD3 hTV hT3
  go_wp2_with (go_at_call 33; (with_reducible refine (hb _).mono ?_); rintro e w' ⟨rfl, rfl⟩)
  have hBL := boxed V (.cells #[.int .i64 0, .int .i64 1, .int .i64 (-1), .int .i64 2, .int .i64 3, .int .i64 6, .int .i64 7, .int .i64 (-7)] 3)
  have hi : Ints (V.alloc (.cells #[.int .i64 0, .int .i64 1, .int .i64 (-1), .int .i64 2, .int .i64 3, .int .i64 6, .int .i64 7, .int .i64 (-7)] 3)) (some ⟨V.heap.size, 0, none⟩) 8 [0, 1, -1, 2, 3, 6, 7, -7] := ⟨rfl, fun k hk => ⟨_, _, rfl, by
    rw [Nat.zero_add]
    match k, hk with
    | 0, _ => exact (cellsNew _ _ _ _).trans rfl
    | 1, _ => exact (cellsNew _ _ _ _).trans rfl
    | 2, _ => exact (cellsNew _ _ _ _).trans rfl
    | 3, _ => exact (cellsNew _ _ _ _).trans rfl
    | 4, _ => exact (cellsNew _ _ _ _).trans rfl
    | 5, _ => exact (cellsNew _ _ _ _).trans rfl
    | 6, _ => exact (cellsNew _ _ _ _).trans rfl
    | 7, _ => exact (cellsNew _ _ _ _).trans rfl⟩⟩
  have hi2 := hi.drew
  have hCd := (hD4.1.below hBL).below (drewBelow _)
  have kRd := (kR4.below hBL).drew
  have krd := (kr4.below hBL).drew
  have hownd := (hown4.below hBL).below (drewBelow _)
  have hTd := Below.step (Below.step hT4 hBL) (drewBelow _)
  have hsd := hBL.size
  have hgV := hD4.1.lt
  have a0 := kR4.c0
  have a1 := kR4.c1
  have c0 := kRd.c0
  have c1 := kRd.c1
  go_region_held3 (fun w' => w'.cell? ⟨R, 0, none⟩ = some (.int .i64 z) ∧ w'.cell? ⟨R, 1, none⟩ = some (.slice q k d)) (first | exact ⟨a0, a1⟩ | exact ⟨c0, c1⟩ | exact ⟨cell_other (cell_other c0 (by dsimp only; omega)) (by dsimp only; omega), cell_other (cell_other c1 (by dsimp only; omega)) (by dsimp only; omega)⟩) (first | (go_simp; go_at_call 35; refine (l1PickInt_any g V.heap.size _ _ _ 8 8 _ ([0, 1, -1, 2, 3, 6, 7, -7]) _ hn hCd (by omega) (by omega) hi2 (by omega)).mono ?_; rintro e w5 ⟨j, hj, rfl, hD5⟩; have kR5 := kRd.within hD5.2 (.inr (by omega)); have kr5 := krd.within hD5.2 (.inl (by omega)); replace c0 := kR5.c0; replace c1 := kR5.c1; have r0 := kr5.c0; have r1 := kr5.c1; have f0 := kr5.fr 0; have f1 := kr5.fr 1; generalize nth [0, 1, -1, 2, 3, 6, 7, -7] j = u at *))
  all_goals
    have hs5 := hD5.2.size
    rw [World.size_drew] at hs5
    have hown5 := hownd.within hD5.2 (.inr (by omega))
    have hT5 := hD5.frame hTd (by omega)
    have kf := (kr5.set0 (.int .i64 z)).set1 (.slice q k d)
    have kf0 := kf.c0
    have kf1 := kf.c1
    go_wp2_with fail
    refine bodyPost_ret (v := .tuple #[.agg #[.int .i64 z, .slice q k d], .int .i64 (x - b), .int .i64 u]) (by simp [results, Try.results12, go_sem, kf0, kf1]) rfl ?_
    exact ⟨_, _, _, _, _, _, _, rfl, ((hown5.setBelow (a := ⟨_, _, none⟩) (by dsimp only; omega) _).setBelow (a := ⟨_, _, none⟩) (by dsimp only; omega) _).up.widen (by omega) (Nat.le_refl _), hz0, hz1, hk, hln, (hT5.setCell (p := ⟨_, _, none⟩) (by dsimp only; omega) _).setCell (p := ⟨_, _, none⟩) (by dsimp only; omega) _⟩

end Go.Proofs.Ytpfklkmmhdpphac
