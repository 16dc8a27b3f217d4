/- The reference's draws of fractions, bent. Conditions: sizes. -/
import Derived.Test.YtpfklkmmhdpphaaGreatDoorRDraw2
namespace Go.Proofs.YtpfklkmmhdpphaaGreatDoor
open Go.RowKit
set_option linter.unusedVariables false
set_option linter.unusedSimpArgs false
set_option maxRecDepth 100000

attribute [local go_sem ↓] Go.wp_at_zero Go.wp_at_succ

/-- A fraction that was drawn, bent. -/
def BentQ (w : World) (g : Nat) (p : Option Addr) (n c : Nat) (xs : List Int) (m : Nat) (e : Ending) (w' : World) : Prop :=
  ∃ (q : Option Addr) (d : Nat) (ys : List Int) (a : Int), e = .returned (.agg #[.slice q m d, .int .i64 a]) ∧ Own w' w.heap.size w'.heap.size q m d ys ∧ -1 ≤ a ∧ a ≤ 100001 ∧ Hid (∀ j, j < m → -10000001 ≤ nth ys j ∧ nth ys j ≤ 10000001) ∧ Drawn1 w g p n c xs w'

theorem nth_set0 {xs : List Int} {v : Int} (h : 0 < xs.length) : nth (xs.set 0 v) 0 = v := by
  cases xs with
  | nil => simp at h
  | cons x r => rfl
theorem nth_set1 {xs : List Int} {v : Int} {j : Nat} (h : ¬ j = 0) : nth (xs.set 0 v) j = nth xs j := by
  cases xs with
  | nil => rfl
  | cons x r =>
    cases j with
    | zero => exact absurd rfl h
    | succ j => rfl
set_option maxHeartbeats 8000000 in
theorem l6Bent_any (g : Nat) (p : Option Addr) (n c m : Nat) (xs : List Int) (mi : Int) (w : World) (hmi : mi = (m : Int)) (hn : n ≤ 1048576) (hx : Cur w g p n c xs) (hm3 : m ≤ 3) :
    Calls Tryz.prog 38 #[.pointer (some ⟨g, 0, none⟩), .int .i64 mi] w (BentQ w g p n c xs m) := by
  subst hmi
  have hgl := hx.lt
  have hB := boxed w (.cells #[.slice none 0 0, .int .i64 0] 32)
  have kr := Box2.new w (.slice none 0 0) (.int .i64 0) 32
  have hD0 := Drawn1.new hx hB
  have hs0 : (w.alloc (.cells #[.slice none 0 0, .int .i64 0] 32)).heap.size = w.heap.size + 1 := by simp
  go_enter Tryz.func38, Tryz.ntmps38
  go_wp2_with fail
  generalize w.alloc (.cells #[.slice none 0 0, .int .i64 0] 32) = W0 at *
  refine (l2Draw_any _ _ _ _ _ _ _ _ hn hD0.1 (by omega) (by omega) (by omega)).mono ?_
  rintro e w1 ⟨q, d, ys, rfl, hown, hys, hD1⟩
  have hys := Lib.hid (fun j hj => ⟨by have := hys j hj; omega, by have := hys j hj; omega⟩ : ∀ j, j < m → -10000001 ≤ nth ys j ∧ nth ys j ≤ 10000001)
  have hD2 := hD0.step hD1
  have kr1 := kr.within hD1.2 (.inr (by omega))
  have hs1 := hD1.2.size
  go_wp2_with fail
  refine (l1Below_any _ _ _ _ _ _ _ hn hD2.1 (by omega) (by omega)).mono ?_
  rintro e w2 ⟨x, rfl, hx0, hx1, hD3⟩
  obtain ⟨a, ha⟩ : ∃ a : Int, 1 + x = a := ⟨_, rfl⟩
  have hD4 := hD2.step hD3
  have kr2 := kr1.within hD3.2 (.inr (by omega))
  have hs2 := hD3.2.size
  have hown2 := (hown.within hD3.2 (.inr (by omega))).widen (lo' := w.heap.size + 1) (by omega) (Nat.le_refl _)
  have hw1 : IntKind.i64.wrap (1 + x) = a := by rw [wrapEq, ha]; exact wrap64_id (by omega) (by omega)
  have ha0 : 1 ≤ a := by omega
  have ha4 : a ≤ 4 := by omega
  have Ha := Lib.hid ha
  clear ha
  have hBR := boxed w2 (.cells #[.slice q m d, .int .i64 a] 32)
  have kR := Box2.new w2 (.slice q m d) (.int .i64 a) 32
  have hown3 := hown2.below hBR
  have kr3 := kr2.below hBR
  have hD5 := hD4.step (Drawn1.new hD4.1 hBR)
  have hs3 : w2.heap.size + 1 ≤ (w2.alloc (.cells #[.slice q m d, .int .i64 a] 32)).heap.size := by simp
  clear hown hown2 kr1 kr2 hD2 hD3 hD4 hBR hD1
  go_wp2_with fail
  generalize w2.alloc (.cells #[.slice q m d, .int .i64 a] 32) = W3 at *
  refine (l1Once_any _ _ _ _ _ _ _ hn hD5.1 (by omega) (by omega)).mono ?_
  rintro e V ⟨t, rfl, hD6⟩
  have hD7 := hD5.step hD6
  generalize hR : w2.heap.size = R at *
  have kR4 := kR.within hD6.2 (.inr (by omega))
  have kr4 := kr3.within hD6.2 (.inr (by omega))
  have hown4 := hown3.within hD6.2 (.inr (by omega))
  have hs4 := hD6.2.size
  clear hD5 hD6 kR kr3 hown3 hR
  cases t
  · go_wp2_with fail
    refine (l1Once_any _ _ _ _ _ _ _ hn hD7.1 (by omega) (by omega)).mono ?_
    rintro e V8 ⟨t2, rfl, hD8⟩
    have hD9 := hD7.step hD8
    have kR9 := kR4.within hD8.2 (.inr (by omega))
    have kr9 := kr4.within hD8.2 (.inr (by omega))
    have hown9 := hown4.within hD8.2 (.inr (by omega))
    have hs9 := hD8.2.size
    cases t2
    ·
      have r0 := kr9.c0
      have r1 := kr9.c1
      have f0 := kr9.fr 0
      have f1 := kr9.fr 1
      have o0 := kR9.c0
      have o1 := kR9.c1
      have kf := (kr9.set0 (.slice q m d)).set1 (.int .i64 a)
      have kf0 := kf.c0
      have kf1 := kf.c1
      go_wp2_with fail
      refine bodyPost_ret (v := .agg #[.slice q m d, .int .i64 a]) (by simp [results, Tryz.results38, go_sem, kf0, kf1]) rfl ?_
      exact ⟨_, _, ys, a, rfl, ((hown9.setBelow (a := ⟨_, _, none⟩) (by dsimp only; omega) _).setBelow (a := ⟨_, _, none⟩) (by dsimp only; omega) _).up.widen (by omega) (Nat.le_refl _), by omega, by omega, hys,
        hD9.low (((Below.refl w.heap.size V8).setCell (p := ⟨_, _, none⟩) (by dsimp only; omega) _).setCell (p := ⟨_, _, none⟩) (by dsimp only; omega) _) (Nat.le_refl _) hgl⟩
    · by_cases hm0 : m = 0
      ·
        have hd0 : decide ((0 : Int) < (m : Int)) = false := by simp; omega
        have hd0n : decide (0 < m) = false := by simp; omega
        have Hm0 := Lib.hid hm0
        clear hm0
        have r0 := kr9.c0
        have r1 := kr9.c1
        have f0 := kr9.fr 0
        have f1 := kr9.fr 1
        have o0 := kR9.c0
        have o1 := kR9.c1
        have kf := (kr9.set0 (.slice q m d)).set1 (.int .i64 a)
        have kf0 := kf.c0
        have kf1 := kf.c1
        go_wp2_with fail
        refine bodyPost_ret (v := .agg #[.slice q m d, .int .i64 a]) (by simp [results, Tryz.results38, go_sem, kf0, kf1]) rfl ?_
        exact ⟨_, _, ys, a, rfl, ((hown9.setBelow (a := ⟨_, _, none⟩) (by dsimp only; omega) _).setBelow (a := ⟨_, _, none⟩) (by dsimp only; omega) _).up.widen (by omega) (Nat.le_refl _), by omega, by omega, hys,
          hD9.low (((Below.refl w.heap.size V8).setCell (p := ⟨_, _, none⟩) (by dsimp only; omega) _).setCell (p := ⟨_, _, none⟩) (by dsimp only; omega) _) (Nat.le_refl _) hgl⟩
      ·
        have hd0 : decide ((0 : Int) < (m : Int)) = true := by simp; omega
        obtain ⟨ga, rfl⟩ := hown9.some_S (by omega)
        have hBL := boxed V8 (.cells #[.int .i64 10000000, .int .i64 10000001, .int .i64 (-10000001)] 3)
        have hi : Ints (V8.alloc (.cells #[.int .i64 10000000, .int .i64 10000001, .int .i64 (-10000001)] 3)) (some ⟨V8.heap.size, 0, none⟩) 3 [10000000, 10000001, -10000001] := ⟨rfl, fun k hk => ⟨_, _, rfl, by
          rw [Nat.zero_add]
          match k, hk with
          | 0, _ => exact (cellsNew _ _ _ _).trans rfl
          | 1, _ => exact (cellsNew _ _ _ _).trans rfl
          | 2, _ => exact (cellsNew _ _ _ _).trans rfl⟩⟩
        have HS : Hid (∀ j, j < 3 → -10000001 ≤ nth [10000000, 10000001, -10000001] j ∧ nth [10000000, 10000001, -10000001] j ≤ 10000001) := Lib.hid fun j hj => by
          match j, hj with
          | 0, _ => decide
          | 1, _ => decide
          | 2, _ => decide
        have hi2 := hi.drew
        have hD10 := (hD9.step (Drawn1.new hD9.1 hBL)).step (Drawn1.new (hD9.1.below hBL) (drewBelow _))
        have hown10 : Own (V8.alloc (.cells #[.int .i64 10000000, .int .i64 10000001, .int .i64 (-10000001)] 3)).drew _ _ _ _ _ _ := (hown9.below hBL).below (drewBelow _)
        have kR10 := (kR9.below hBL).drew
        have kr10 := (kr9.below hBL).drew
        have hgV := hD9.1.lt
        have hs10 := hBL.size
        have kc0 := kR9.c0
        have kc0' := kR10.c0
        have hga := hown9.lt _ rfl
        dsimp only at hga
        have z2 : (0 : Int) < (m : Int) := by omega
        have z2n : 0 < m := by omega
        go_wp2_with fail
        go_region_law (first | (go_simp; go_at_call 57; refine (l1PickInt_any g V8.heap.size _ _ _ 3 3 _ ([10000000, 10000001, -10000001]) _ hn hD10.1 (by omega) (by omega) hi2 (by omega)).mono ?_; rintro e w5 ⟨j, hj, rfl, hD11⟩; have hown11 := hown10.within hD11.2 (.inr (by omega)); have kR11 := kR10.within hD11.2 (.inr (by omega)); have kr11 := kr10.within hD11.2 (.inr (by omega)); have kc3 := kR11.c0; have hx6 := hown11.cell (k := 0) (by omega); have hf6 := hown11.frozen 0; have hu := HS.out j hj; generalize nth [10000000, 10000001, -10000001] j = u2 at *))
        all_goals
          have hD12 := hD10.step hD11
          have hs11 := hD11.2.size
          rw [World.size_drew] at hs11
          have hown12 := hown11.set 0 u2
          have kR12 := kR11.other (a := ⟨ga, 0, none⟩) (.int .i64 u2) (by dsimp only; omega)
          have kr12 := kr11.other (a := ⟨ga, 0, none⟩) (.int .i64 u2) (by dsimp only; omega)
          have hD13 := hD12.low ((Below.refl w.heap.size w5).setCell (p := ⟨ga, 0, none⟩) (by dsimp only; omega) (.int .i64 u2)) (Nat.le_refl _) hgl
          have hs12 : (w5.setCell ⟨ga, 0, none⟩ (.int .i64 u2)).heap.size = w5.heap.size := by simp [World.setCell]
          have hlen := Lib.hid hown9.len
          have hys := Lib.hid (fun j hj => by
            by_cases ej : j = 0
            · rw [ej, nth_set0 (by rw [hlen.out]; omega)]; exact hu
            · rw [nth_set1 ej]; exact hys.out j hj : ∀ j, j < m → -10000001 ≤ nth (ys.set 0 u2) j ∧ nth (ys.set 0 u2) j ≤ 10000001)
          clear hi hi2 HS hown10 kR10 kr10 hD11 hD12 hown11 kR11 kr11 hx6 hf6 kc0 kc0' kc3
          go_upto_region 6 with fail
          generalize w5.setCell ⟨ga, 0, none⟩ (.int .i64 u2) = V13 at *
          have r0 := kr12.c0
          have r1 := kr12.c1
          have f0 := kr12.fr 0
          have f1 := kr12.fr 1
          have o0 := kR12.c0
          have o1 := kR12.c1
          have kf := (kr12.set0 (.slice (some ⟨ga, 0, none⟩) m d)).set1 (.int .i64 a)
          have kf0 := kf.c0
          have kf1 := kf.c1
          go_wp2_with fail
          refine bodyPost_ret (v := .agg #[.slice (some ⟨ga, 0, none⟩) m d, .int .i64 a]) (by simp [results, Tryz.results38, go_sem, kf0, kf1]) rfl ?_
          exact ⟨_, _, _, a, rfl, ((hown12.setBelow (a := ⟨_, _, none⟩) (by dsimp only; omega) _).setBelow (a := ⟨_, _, none⟩) (by dsimp only; omega) _).up.widen (by omega) (Nat.le_refl _), by omega, by omega, hys,
            hD13.low (((Below.refl w.heap.size V13).setCell (p := ⟨_, _, none⟩) (by dsimp only; omega) _).setCell (p := ⟨_, _, none⟩) (by dsimp only; omega) _) (Nat.le_refl _) hgl⟩
  · have hBL := boxed V (.cells #[.int .i64 0, .int .i64 (-1), .int .i64 100000, .int .i64 100001] 3)
    have hi : Ints (V.alloc (.cells #[.int .i64 0, .int .i64 (-1), .int .i64 100000, .int .i64 100001] 3)) (some ⟨V.heap.size, 0, none⟩) 4 [0, -1, 100000, 100001] := ⟨rfl, fun k hk => ⟨_, _, rfl, by
      rw [Nat.zero_add]
      match k, hk with
      | 0, _ => exact (cellsNew _ _ _ _).trans rfl
      | 1, _ => exact (cellsNew _ _ _ _).trans rfl
      | 2, _ => exact (cellsNew _ _ _ _).trans rfl
      | 3, _ => exact (cellsNew _ _ _ _).trans rfl⟩⟩
    have HS : Hid (∀ j, j < 4 → -1 ≤ nth [0, -1, 100000, 100001] j ∧ nth [0, -1, 100000, 100001] j ≤ 100001) := Lib.hid fun j hj => by
      match j, hj with
      | 0, _ => decide
      | 1, _ => decide
      | 2, _ => decide
      | 3, _ => decide
    have hD8 := hD7.step (Drawn1.new hD7.1 hBL)
    have hown5 := hown4.below hBL
    have kR5 := kR4.below hBL
    have kr5 := kr4.below hBL
    have hgV := hD7.1.lt
    go_wp2_with fail
    refine (l1PickInt_any g V.heap.size _ _ _ 4 4 _ ([0, -1, 100000, 100001]) _ hn hD8.1 (by omega) (by omega) hi (by omega)).mono ?_
    rintro e w5 ⟨j, hj, rfl, hD9⟩
    have hu := HS.out j hj
    have hD10 := hD8.step hD9
    have hown6 := hown5.within hD9.2 (.inr (by omega))
    have kR6 := kR5.within hD9.2 (.inr (by omega))
    have kr6 := kr5.within hD9.2 (.inr (by omega))
    generalize nth [0, -1, 100000, 100001] j = u at *
    have hs6 := hD9.2.size
    have hs5 := hBL.size
    have kc1 := kR6.c1
    have kf1 := kR6.fr 1
    have hown7 := hown6.within ((Within.refl R (R + 1) w5).setCell (p := ⟨R, 1, none⟩) (Nat.le_refl _) (Nat.lt_succ_self _) (.int .i64 u)) (.inl (by omega))
    have kR7 := kR6.set1 (.int .i64 u)
    have kr7 := kr6.other (a := ⟨R, 1, none⟩) (.int .i64 u) (by dsimp only; omega)
    have hD11 := hD10.low ((Below.refl w.heap.size w5).setCell (p := ⟨R, 1, none⟩) (by dsimp only; omega) (.int .i64 u)) (Nat.le_refl _) hgl
    have hs7 : (w5.setCell ⟨R, 1, none⟩ (.int .i64 u)).heap.size = w5.heap.size := by simp [World.setCell]
    clear hi HS hD8 hown5 kR5 kr5 hD9 hD10
    go_upto_region 4 with fail
    clear kc1 kf1 hown6 kR6 kr6
    generalize w5.setCell ⟨R, 1, none⟩ (.int .i64 u) = V7 at *
    go_wp2_with fail
    refine (l1Once_any _ _ _ _ _ _ _ hn hD11.1 (by omega) (by omega)).mono ?_
    rintro e V8 ⟨t2, rfl, hD8⟩
    have hD9 := hD11.step hD8
    have kR9 := kR7.within hD8.2 (.inr (by omega))
    have kr9 := kr7.within hD8.2 (.inr (by omega))
    have hown9 := hown7.within hD8.2 (.inr (by omega))
    have hs9 := hD8.2.size
    cases t2
    ·
      have r0 := kr9.c0
      have r1 := kr9.c1
      have f0 := kr9.fr 0
      have f1 := kr9.fr 1
      have o0 := kR9.c0
      have o1 := kR9.c1
      have kf := (kr9.set0 (.slice q m d)).set1 (.int .i64 u)
      have kf0 := kf.c0
      have kf1 := kf.c1
      go_wp2_with fail
      refine bodyPost_ret (v := .agg #[.slice q m d, .int .i64 u]) (by simp [results, Tryz.results38, go_sem, kf0, kf1]) rfl ?_
      exact ⟨_, _, ys, u, rfl, ((hown9.setBelow (a := ⟨_, _, none⟩) (by dsimp only; omega) _).setBelow (a := ⟨_, _, none⟩) (by dsimp only; omega) _).up.widen (by omega) (Nat.le_refl _), by omega, by omega, hys,
        hD9.low (((Below.refl w.heap.size V8).setCell (p := ⟨_, _, none⟩) (by dsimp only; omega) _).setCell (p := ⟨_, _, none⟩) (by dsimp only; omega) _) (Nat.le_refl _) hgl⟩
    · by_cases hm0 : m = 0
      ·
        have hd0 : decide ((0 : Int) < (m : Int)) = false := by simp; omega
        have hd0n : decide (0 < m) = false := by simp; omega
        have Hm0 := Lib.hid hm0
        clear hm0
        have r0 := kr9.c0
        have r1 := kr9.c1
        have f0 := kr9.fr 0
        have f1 := kr9.fr 1
        have o0 := kR9.c0
        have o1 := kR9.c1
        have kf := (kr9.set0 (.slice q m d)).set1 (.int .i64 u)
        have kf0 := kf.c0
        have kf1 := kf.c1
        go_wp2_with fail
        refine bodyPost_ret (v := .agg #[.slice q m d, .int .i64 u]) (by simp [results, Tryz.results38, go_sem, kf0, kf1]) rfl ?_
        exact ⟨_, _, ys, u, rfl, ((hown9.setBelow (a := ⟨_, _, none⟩) (by dsimp only; omega) _).setBelow (a := ⟨_, _, none⟩) (by dsimp only; omega) _).up.widen (by omega) (Nat.le_refl _), by omega, by omega, hys,
          hD9.low (((Below.refl w.heap.size V8).setCell (p := ⟨_, _, none⟩) (by dsimp only; omega) _).setCell (p := ⟨_, _, none⟩) (by dsimp only; omega) _) (Nat.le_refl _) hgl⟩
      ·
        have hd0 : decide ((0 : Int) < (m : Int)) = true := by simp; omega
        obtain ⟨ga, rfl⟩ := hown9.some_S (by omega)
        have hBL := boxed V8 (.cells #[.int .i64 10000000, .int .i64 10000001, .int .i64 (-10000001)] 3)
        have hi : Ints (V8.alloc (.cells #[.int .i64 10000000, .int .i64 10000001, .int .i64 (-10000001)] 3)) (some ⟨V8.heap.size, 0, none⟩) 3 [10000000, 10000001, -10000001] := ⟨rfl, fun k hk => ⟨_, _, rfl, by
          rw [Nat.zero_add]
          match k, hk with
          | 0, _ => exact (cellsNew _ _ _ _).trans rfl
          | 1, _ => exact (cellsNew _ _ _ _).trans rfl
          | 2, _ => exact (cellsNew _ _ _ _).trans rfl⟩⟩
        have HS : Hid (∀ j, j < 3 → -10000001 ≤ nth [10000000, 10000001, -10000001] j ∧ nth [10000000, 10000001, -10000001] j ≤ 10000001) := Lib.hid fun j hj => by
          match j, hj with
          | 0, _ => decide
          | 1, _ => decide
          | 2, _ => decide
        have hi2 := hi.drew
        have hD10 := (hD9.step (Drawn1.new hD9.1 hBL)).step (Drawn1.new (hD9.1.below hBL) (drewBelow _))
        have hown10 : Own (V8.alloc (.cells #[.int .i64 10000000, .int .i64 10000001, .int .i64 (-10000001)] 3)).drew _ _ _ _ _ _ := (hown9.below hBL).below (drewBelow _)
        have kR10 := (kR9.below hBL).drew
        have kr10 := (kr9.below hBL).drew
        have hgV := hD9.1.lt
        have hs10 := hBL.size
        have kc0 := kR9.c0
        have kc0' := kR10.c0
        have hga := hown9.lt _ rfl
        dsimp only at hga
        have z2 : (0 : Int) < (m : Int) := by omega
        have z2n : 0 < m := by omega
        go_wp2_with fail
        go_region_law (first | (go_simp; go_at_call 57; refine (l1PickInt_any g V8.heap.size _ _ _ 3 3 _ ([10000000, 10000001, -10000001]) _ hn hD10.1 (by omega) (by omega) hi2 (by omega)).mono ?_; rintro e w5 ⟨j, hj, rfl, hD11⟩; have hown11 := hown10.within hD11.2 (.inr (by omega)); have kR11 := kR10.within hD11.2 (.inr (by omega)); have kr11 := kr10.within hD11.2 (.inr (by omega)); have kc3 := kR11.c0; have hx6 := hown11.cell (k := 0) (by omega); have hf6 := hown11.frozen 0; have hu := HS.out j hj; generalize nth [10000000, 10000001, -10000001] j = u2 at *))
        all_goals
          have hD12 := hD10.step hD11
          have hs11 := hD11.2.size
          rw [World.size_drew] at hs11
          have hown12 := hown11.set 0 u2
          have kR12 := kR11.other (a := ⟨ga, 0, none⟩) (.int .i64 u2) (by dsimp only; omega)
          have kr12 := kr11.other (a := ⟨ga, 0, none⟩) (.int .i64 u2) (by dsimp only; omega)
          have hD13 := hD12.low ((Below.refl w.heap.size w5).setCell (p := ⟨ga, 0, none⟩) (by dsimp only; omega) (.int .i64 u2)) (Nat.le_refl _) hgl
          have hs12 : (w5.setCell ⟨ga, 0, none⟩ (.int .i64 u2)).heap.size = w5.heap.size := by simp [World.setCell]
          have hlen := Lib.hid hown9.len
          have hys := Lib.hid (fun j hj => by
            by_cases ej : j = 0
            · rw [ej, nth_set0 (by rw [hlen.out]; omega)]; exact hu
            · rw [nth_set1 ej]; exact hys.out j hj : ∀ j, j < m → -10000001 ≤ nth (ys.set 0 u2) j ∧ nth (ys.set 0 u2) j ≤ 10000001)
          clear hi hi2 HS hown10 kR10 kr10 hD11 hD12 hown11 kR11 kr11 hx6 hf6 kc0 kc0' kc3
          go_upto_region 6 with fail
          generalize w5.setCell ⟨ga, 0, none⟩ (.int .i64 u2) = V13 at *
          have r0 := kr12.c0
          have r1 := kr12.c1
          have f0 := kr12.fr 0
          have f1 := kr12.fr 1
          have o0 := kR12.c0
          have o1 := kR12.c1
          have kf := (kr12.set0 (.slice (some ⟨ga, 0, none⟩) m d)).set1 (.int .i64 u)
          have kf0 := kf.c0
          have kf1 := kf.c1
          go_wp2_with fail
          refine bodyPost_ret (v := .agg #[.slice (some ⟨ga, 0, none⟩) m d, .int .i64 u]) (by simp [results, Tryz.results38, go_sem, kf0, kf1]) rfl ?_
          exact ⟨_, _, _, u, rfl, ((hown12.setBelow (a := ⟨_, _, none⟩) (by dsimp only; omega) _).setBelow (a := ⟨_, _, none⟩) (by dsimp only; omega) _).up.widen (by omega) (Nat.le_refl _), by omega, by omega, hys,
            hD13.low (((Below.refl w.heap.size V13).setCell (p := ⟨_, _, none⟩) (by dsimp only; omega) _).setCell (p := ⟨_, _, none⟩) (by dsimp only; omega) _) (Nat.le_refl _) hgl⟩

end Go.Proofs.YtpfklkmmhdpphaaGreatDoor
