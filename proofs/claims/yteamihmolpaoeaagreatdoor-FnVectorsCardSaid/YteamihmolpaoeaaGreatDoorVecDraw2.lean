/- The reference's draws of vectors, bent. Conditions: sizes. -/
import Derived.Test.YteamihmolpaoeaaGreatDoorVecDraw
namespace Go.Proofs.YteamihmolpaoeaaGreatDoor
open Go.RowKit
set_option linter.unusedVariables false
set_option linter.unusedSimpArgs false
set_option maxRecDepth 100000

theorem l2Draw_i (g : Nat) (p : Option Addr) (n c m : Nat) (xs : List Int) (mi size : Int) (w : World) (hmi : mi = (m : Int)) (hn : n ≤ 1048576) (hx : Cur w g p n c xs) (hm : m ≤ 1000) (hs1 : 0 ≤ size) (hs2 : size ≤ 100000) :
    Calls Tryz.prog 46 #[.pointer (some ⟨g, 0, none⟩), .int .i64 mi, .int .i64 size] w fun e w' => ∃ q d ys, e = .returned (.slice q m d) ∧ Own w' w.heap.size w'.heap.size q m d ys ∧ (∀ j, j < m → -size ≤ nth ys j ∧ nth ys j ≤ size) ∧ Drawn1 w g p n c xs w' := by
  rw [hmi]; exact l2Draw_any _ _ _ _ _ _ _ _ hn hx hm hs1 hs2

theorem Own.some_S {w : World} {lo hi : Nat} {p : Option Addr} {n c : Nat} {xs : List Int} (h : Own w lo hi p n c xs) (hn : 1 ≤ n) : ∃ g, p = some ⟨g, 0, none⟩ := by
  rcases h.row.2 with ⟨hv, h0⟩ | ⟨g, cap, cur, hv, _⟩
  · omega
  · injection hv with h1 h2 h3
    exact ⟨g, h1⟩

def bentL : List Int := [1000, 1001, -1000, -1001, -9223372036854775808, 9223372036854775807]
/-- A row that was drawn, of five numbers at most. -/
def BentRow (w : World) (g : Nat) (p : Option Addr) (n c : Nat) (xs : List Int) (e : Ending) (w' : World) : Prop :=
  ∃ q m d ys, e = .returned (.slice q m d) ∧ Own w' w.heap.size w'.heap.size q m d ys ∧ m ≤ 5 ∧ Drawn1 w g p n c xs w'

set_option maxHeartbeats 2000000 in
theorem l2Bent_any (g : Nat) (p : Option Addr) (n c : Nat) (xs : List Int) (w : World) (hn : n ≤ 1048576) (hx : Cur w g p n c xs) :
    Calls Tryz.prog 31 #[.pointer (some ⟨g, 0, none⟩)] w (BentRow w g p n c xs) := by
  have hgl := hx.lt
  go_enter Tryz.func31, Tryz.ntmps31
  go_wp2_with fail
  refine (l1Below_any _ _ _ _ _ _ _ hn hx (by omega) (by omega)).mono ?_
  rintro e w1 ⟨x, rfl, hx0, hx1, hD⟩
  obtain ⟨k, rfl⟩ : ∃ k : Nat, x = (k : Int) := ⟨x.toNat, by omega⟩
  have hk : k < 3 := by omega
  go_wp2_with fail
  refine (l2Draw_i _ _ _ _ (k + 1) _ _ _ _ (by omega) hn hD.1 (by omega) (by omega) (by omega)).mono ?_
  rintro e w2 ⟨q, d, ys, rfl, hown, _, hD2⟩
  have hD3 := hD.step hD2
  have hs1 := hD.2.size
  have hown2 := (hown.widen (lo' := w.heap.size) hs1 (Nat.le_refl _))
  clear hown
  obtain ⟨b, rfl⟩ := hown2.some_S (by omega)
  go_wp2_with fail
  refine (l1Below_any _ _ _ _ _ _ _ hn hD3.1 (by omega) (by omega)).mono ?_
  rintro e w3 ⟨y, rfl, hy0, hy1, hD4⟩
  have hD5 := hD3.step hD4
  have hbl := (hown2.lt _ rfl).1
  have hown3 := (hown2.within hD4.2 (.inr (by omega))).up
  clear hown2 hD3 hD2 hD4
  by_cases e0 : y = 0
  · subst e0
    go_wp2_with fail
    have hB := boxed w3 (.cells #[.int .i64 1000, .int .i64 1001, .int .i64 (-1000), .int .i64 (-1001), .int .i64 (-9223372036854775808), .int .i64 9223372036854775807] 3)
    have hi : Ints (w3.alloc (.cells #[.int .i64 1000, .int .i64 1001, .int .i64 (-1000), .int .i64 (-1001), .int .i64 (-9223372036854775808), .int .i64 9223372036854775807] 3)) (some ⟨w3.heap.size, 0, none⟩) 6 bentL := ⟨rfl, fun k hk => ⟨_, _, rfl, by
      rw [Nat.zero_add]
      match k, hk with
      | 0, _ => exact (cellsNew _ _ _ _).trans rfl
      | 1, _ => exact (cellsNew _ _ _ _).trans rfl
      | 2, _ => exact (cellsNew _ _ _ _).trans rfl
      | 3, _ => exact (cellsNew _ _ _ _).trans rfl
      | 4, _ => exact (cellsNew _ _ _ _).trans rfl
      | 5, _ => exact (cellsNew _ _ _ _).trans rfl⟩⟩
    have hgl3 := hD5.1.lt
    have hD6 := hD5.step (Drawn1.new hD5.1 hB)
    have hown4 := hown3.below hB
    refine (l1PickInt_any g w3.heap.size _ _ _ 6 6 _ bentL _ hn hD6.1 (by omega) (by omega) hi (by omega)).mono ?_
    clear hi
    rintro e w5 ⟨j, hj, rfl, hD7⟩
    have hD8 := hD6.step hD7
    have hown5 := (hown4.within hD7.2 (.inr (by omega))).up
    have hc0 := hown5.cell (k := 0) (by omega)
    have hf0 := hown5.frozen 0
    generalize nth bentL j = u at *
    generalize nth ys 0 = u0 at *
    clear hown3 hown4
    go_wp2_with fail
    go_ret
    exact ⟨_, k + 1, _, _, rfl, (hown5.set 0 u).up, by omega, hD8.low ((Below.refl w.heap.size w5).setCell hbl _) (Nat.le_refl _) hgl⟩
  · have hy2 : (y == 0) = false := by simpa using e0
    by_cases e1 : y = 1
    · subst e1
      have hi : Ints (w3.alloc (.cells #[.int .i64 1, .int .i64 2] 3)) (some ⟨w3.heap.size, 0, none⟩) 2 [1, 2] := ⟨rfl, fun k hk => ⟨_, _, rfl, by
        rw [Nat.zero_add]
        match k, hk with
        | 0, _ => exact (cellsNew _ _ _ _).trans rfl
        | 1, _ => exact (cellsNew _ _ _ _).trans rfl⟩⟩
      have hs3 := hD5.2.size
      go_wp2_with (at_builtin; refine append_ints rfl _ _ rfl _ w.heap.size _ _ _ _ _ rfl (hown3.alloc _) _ _ _ _ rfl hi (by omega) (by simp; omega) ?_; intro p' c' w6 hown6 hg6)
      have hb6 : Below w.heap.size w3 w6 := ((Below.refl _ _).alloc hs3 _).trans (hg6.below (by simp; omega) fun a ha => (hown3.lt a ha).1)
      go_ret
      exact ⟨_, k + 1 + 2, _, _, rfl, hown6, by omega, hD5.low hb6 (Nat.le_refl _) hgl⟩
    · have hy3 : (y == 1) = false := by simpa using e1
      by_cases e2 : y = 2
      · subst e2
        go_wp2_with fail
        go_ret
        have hs3 := hD5.2.size
        exact ⟨_, 0, _, [], rfl, (Own.empty w3).widen hs3 (by simp), by omega, hD5.step (Drawn1.new hD5.1 (boxed _ _))⟩
      · have hy4 : (y == 2) = false := by simpa using e2
        go_wp2_with fail
        go_ret
        exact ⟨_, k + 1, _, _, rfl, hown3, by omega, hD5⟩

end Go.Proofs.YteamihmolpaoeaaGreatDoor
