/- The reference's draws of regions, bent. Conditions: sizes. -/
import Derived.Test.YtpfklkmmhdpphadGreatDoorRDraw
namespace Go.Proofs.YtpfklkmmhdpphadGreatDoor
open Go.RowKit
set_option linter.unusedVariables false
set_option linter.unusedSimpArgs false
set_option maxRecDepth 100000

attribute [local go_sem ↓] Go.wp_at_zero Go.wp_at_succ

/-- A region that was drawn, bent. -/
def BentR (w : World) (g : Nat) (p : Option Addr) (n c : Nat) (xs : List Int) (e : Ending) (w' : World) : Prop :=
  ∃ (z : Int) (q : Option Addr) (k d : Nat) (hs : List Pr), e = .returned (.agg #[.int .i64 z, .slice q k d]) ∧ OwnPM 36 w' w.heap.size w'.heap.size q k d hs ∧ 0 ≤ z ∧ z ≤ 4 ∧ k ≤ 6 ∧ Hid (∀ j, j < k → (nrm hs j).length ≤ 3) ∧ Drawn1 w g p n c xs w'

theorem lens_set {hs : List Pr} {k i : Nat} {x : Pr} (hl : hs.length = k) (h : ∀ j, j < k → (nrm hs j).length ≤ 3) (hx : x.1.length ≤ 3) : ∀ j, j < k → (nrm (hs.set i x) j).length ≤ 3 := fun j hj => by
  unfold nrm
  rw [prAt_set (by omega)]
  split
  · exact hx
  · exact h j hj

set_option maxHeartbeats 8000000 in
theorem l4Bent_any (g : Nat) (p : Option Addr) (n c : Nat) (xs : List Int) (w : World) (hn : n ≤ 1048576) (hx : Cur w g p n c xs) :
    Calls Tryz.prog 36 #[.pointer (some ⟨g, 0, none⟩)] w (BentR w g p n c xs) := by
  have hgl := hx.lt
  have hB := boxed w (.cells #[.int .i64 0, .slice none 0 0] 26)
  have kr := Box2.new w (.int .i64 0) (.slice none 0 0) 26
  have hD0 := Drawn1.new hx hB
  have hs0 : (w.alloc (.cells #[.int .i64 0, .slice none 0 0] 26)).heap.size = w.heap.size + 1 := by simp
  go_enter Tryz.func36, Tryz.ntmps36
  go_wp2_with fail
  generalize w.alloc (.cells #[.int .i64 0, .slice none 0 0] 26) = W0 at *
  refine (l1Below_any _ _ _ _ _ _ _ hn hD0.1 (by omega) (by omega)).mono ?_
  rintro e w1 ⟨x, rfl, hx0, hx1, hD1⟩
  obtain ⟨m, hm⟩ : ∃ m : Nat, 1 + x = (m : Int) := ⟨(1 + x).toNat, by omega⟩
  have hm1 : 1 ≤ m := by omega
  have hm3 : m ≤ 3 := by omega
  have hD2 := hD0.step hD1
  have kr1 := kr.within hD1.2 (.inr (by omega))
  have hs1 := hD1.2.size
  clear hD0 hD1 kr
  go_wp2_with fail
  refine (l4Draw_any _ _ _ _ m _ _ _ rfl hn hD2.1 hm1 hm3).mono ?_
  rintro e w2 ⟨q, k, d, hs, rfl, ⟨rows, hown⟩, hk1, hk6, hlens, hD3⟩
  have hm' := Lib.hid hm
  clear hm
  have hD4 := hD2.step hD3
  have kr2 := kr1.within hD3.2 (.inr (by omega))
  have hs2 := hD3.2.size
  have hown2 := hown.widen (lo' := w.heap.size + 1) (by omega) (Nat.le_refl _)
  have hBR := boxed w2 (.cells #[.int .i64 m, .slice q k d] 26)
  have kR := Box2.new w2 (.int .i64 m) (.slice q k d) 26
  have hown3 := hown2.below hBR
  have kr3 := kr2.below hBR
  have hD5 := hD4.step (Drawn1.new hD4.1 hBR)
  have hs3 : w2.heap.size + 1 ≤ (w2.alloc (.cells #[.int .i64 m, .slice q k d] 26)).heap.size := by simp
  clear hown hown2 kr1 kr2 hD2 hD3 hD4 hBR
  go_wp2_with fail
  generalize w2.alloc (.cells #[.int .i64 m, .slice q k d] 26) = W3 at *
  refine (l1Below_any _ _ _ _ _ _ _ hn hD5.1 (by omega) (by omega)).mono ?_
  rintro e V ⟨y, rfl, hy0, hy1, hD6⟩
  have hD7 := hD5.step hD6
  generalize hR : w2.heap.size = R at *
  have kR4 := kR.within hD6.2 (.inr (by omega))
  have kr4 := kr3.within hD6.2 (.inr (by omega))
  have hown4 := hown3.within hD6.2 (.inr (by omega))
  have hs4 := hD6.2.size
  clear hD5 hD6 kR kr3 hown3 hR
  have hcnt := Lib.hid hown4.count
  have hlen := Lib.hid hown4.len
  obtain ⟨gq, rfl, hgq1, hgq2, ch0, ch1, fq⟩ := hown4.rowAt 0 (by omega) (by rw [hcnt.out]; omega)
  have hln : Hid (∀ j, j < k → (nrm hs j).length ≤ 3) := Lib.hid fun j hj => by have := hlens.out j hj; omega
  have hl0 := hlens.out 0 (by omega)
  have hin0 := hown4.inner 0 (by rw [hcnt.out]; omega)
  obtain ⟨⟨qa, ma, da⟩, hra⟩ : ∃ r, rows[0]'(by rw [hcnt.out]; omega) = r := ⟨_, rfl⟩
  rw [hra] at hin0 ch0
  dsimp only at hin0 ch0
  rw [Nat.zero_mul] at ch0 ch1
  obtain rfl : m = ma := by rw [← hin0.len]; exact hl0.symm
  obtain ⟨ga, rfl⟩ := hin0.some_S (by omega)
  have hra := Lib.hid hra
  by_cases e0 : y = 0
  · subst e0
    have hBL := boxed V (.cells #[.int .i64 0, .int .i64 4, .int .i64 2] 3)
    have hi : Ints (V.alloc (.cells #[.int .i64 0, .int .i64 4, .int .i64 2] 3)) (some ⟨V.heap.size, 0, none⟩) 3 [0, 4, 2] := ⟨rfl, fun k hk => ⟨_, _, rfl, by
      rw [Nat.zero_add]
      match k, hk with
      | 0, _ => exact (cellsNew _ _ _ _).trans rfl
      | 1, _ => exact (cellsNew _ _ _ _).trans rfl
      | 2, _ => exact (cellsNew _ _ _ _).trans rfl⟩⟩
    have HS : Hid (∀ j, j < 3 → 0 ≤ nth [0, 4, 2] j ∧ nth [0, 4, 2] j ≤ 4) := Lib.hid fun j hj => by
      match j, hj with
      | 0, _ => decide
      | 1, _ => decide
      | 2, _ => decide
    have hD8 := hD7.step (Drawn1.new hD7.1 hBL)
    have hown5 := hown4.below hBL
    have kR5 := kR4.below hBL
    have kr5 := kr4.below hBL
    have hgV := hD7.1.lt
    go_wp2_with fail
    refine (l1PickInt_any g V.heap.size _ _ _ 3 3 _ ([0, 4, 2]) _ hn hD8.1 (by omega) (by omega) hi (by omega)).mono ?_
    rintro e w5 ⟨j, hj, rfl, hD9⟩
    have hu := HS.out j hj
    have hD10 := hD8.step hD9
    have hown6 := hown5.within hD9.2 (.inr (by omega))
    have kR6 := kR5.within hD9.2 (.inr (by omega))
    have kr6 := kr5.within hD9.2 (.inr (by omega))
    generalize nth [0, 4, 2] j = u at *
    have hs6 := hD9.2.size
    have hs5 := hBL.size
    have kc0 := kR6.c0
    have kf0 := kR6.fr 0
    have hown7 := hown6.within ((Within.refl R (R + 1) w5).setCell (p := ⟨R, 0, none⟩) (Nat.le_refl _) (Nat.lt_succ_self _) (.int .i64 u)) (.inl (Nat.le_refl _))
    have kR7 := kR6.set0 (.int .i64 u)
    have kr7 := kr6.other (a := ⟨R, 0, none⟩) (.int .i64 u) (by dsimp only; omega)
    have hD11 := hD10.low ((Below.refl w.heap.size w5).setCell (p := ⟨R, 0, none⟩) (by dsimp only; omega) (.int .i64 u)) (Nat.le_refl _) hgl
    have hs7 : (w5.setCell ⟨R, 0, none⟩ (.int .i64 u)).heap.size = w5.heap.size := by simp [World.setCell]
    clear hi HS hD8 hown5 kR5 kr5 hD9 hD10
    go_upto_region 11 with fail
    clear kc0 kf0 hown6 kR6 kr6
    generalize w5.setCell ⟨R, 0, none⟩ (.int .i64 u) = V7 at *
    have r0 := kr7.c0
    have r1 := kr7.c1
    have f0 := kr7.fr 0
    have f1 := kr7.fr 1
    have o0 := kR7.c0
    have o1 := kR7.c1
    have kf := (kr7.set0 (.int .i64 u)).set1 (.slice (some ⟨gq, 0, none⟩) k d)
    have kf0 := kf.c0
    have kf1 := kf.c1
    go_wp2_with fail
    refine bodyPost_ret (v := .agg #[.int .i64 u, .slice (some ⟨gq, 0, none⟩) k d]) (by simp [results, Tryz.results36, go_sem, kf0, kf1]) rfl ?_
    exact ⟨u, _, k, _, hs, rfl, ⟨_, ((hown7.setBelow (a := ⟨_, _, none⟩) (by dsimp only; omega) _).setBelow (a := ⟨_, _, none⟩) (by dsimp only; omega) _).up.widen (by omega) (Nat.le_refl _)⟩, by omega, by omega, by omega, hln,
      hD11.low (((Below.refl w.heap.size V7).setCell (p := ⟨_, _, none⟩) (by dsimp only; omega) _).setCell (p := ⟨_, _, none⟩) (by dsimp only; omega) _) (Nat.le_refl _) hgl⟩
  · have hy2 : (y == 0) = false := by simpa using e0
    by_cases e1 : y = 1
    · subst e1
      have hBL := boxed V (.cells #[.int .i64 200, .int .i64 201, .int .i64 (-201), .int .i64 (-200)] 3)
      have hi : Ints (V.alloc (.cells #[.int .i64 200, .int .i64 201, .int .i64 (-201), .int .i64 (-200)] 3)) (some ⟨V.heap.size, 0, none⟩) 4 [200, 201, -201, -200] := ⟨rfl, fun k hk => ⟨_, _, rfl, by
        rw [Nat.zero_add]
        match k, hk with
        | 0, _ => exact (cellsNew _ _ _ _).trans rfl
        | 1, _ => exact (cellsNew _ _ _ _).trans rfl
        | 2, _ => exact (cellsNew _ _ _ _).trans rfl
        | 3, _ => exact (cellsNew _ _ _ _).trans rfl⟩⟩
      have hi2 := hi.drew
      have hD8 := (hD7.step (Drawn1.new hD7.1 hBL)).step (Drawn1.new (hD7.1.below hBL) (drewBelow _))
      have hown5 := (hown4.below hBL).drew
      have kR5 := (kR4.below hBL).drew
      have kr5 := (kr4.below hBL).drew
      have hgV := hD7.1.lt
      have hs5 := hBL.size
      have kc1 := kR4.c1
      have kc2 := kR5.c1
      have z1 : (0 : Int) < (k : Int) := by omega
      have z1n : 0 < k := by omega
      have ch2 : V.cell? ⟨gq, 1, none⟩ = some (.int .i64 (bnd hs 0)) := ch1
      have ch3 : (V.alloc (.cells #[.int .i64 200, .int .i64 201, .int .i64 (-201), .int .i64 (-200)] 3)).drew.cell? ⟨gq, 1, none⟩ = some (.int .i64 (bnd hs 0)) := Below.cells hBL ch2
      generalize bnd hs 0 = b0 at *
      go_wp2_with fail
      go_region_law (first | (go_simp; go_at_call 69; refine (l1PickInt_any g V.heap.size _ _ _ 4 4 _ ([200, 201, -201, -200]) _ hn hD8.1 (by omega) (by omega) hi2 (by omega)).mono ?_; rintro e w5 ⟨j, hj, rfl, hD9⟩; have hown6 := hown5.within hD9.2 (.inr (by omega)); have kR6 := kR5.within hD9.2 (.inr (by omega)); have kr6 := kr5.within hD9.2 (.inr (by omega)); have kc3 := kR6.c1; have hfq := hown6.outer.frozen 1; have ch6 := hD9.2.cells2 ch3 (.inr (by dsimp only; omega)); generalize nth [200, 201, -201, -200] j = u at *))
      all_goals
        have hD10 := hD8.step hD9
        have hs6 := hD9.2.size
        rw [World.size_drew] at hs6
        have hown7 : OwnP 36 (w5.setCell ⟨gq, 1, none⟩ (.int .i64 u)) (w.heap.size + 1) R (some ⟨gq, 0, none⟩) k d rows (hs.set 0 (nrm hs 0, u)) := hown6.setB halfNe 0 (by omega) u
        have kR7 := kR6.other (a := ⟨gq, 1, none⟩) (.int .i64 u) (by dsimp only; omega)
        have kr7 := kr6.other (a := ⟨gq, 1, none⟩) (.int .i64 u) (by dsimp only; omega)
        have hD11 := hD10.low ((Below.refl w.heap.size w5).setCell (p := ⟨gq, 1, none⟩) (by dsimp only; omega) (.int .i64 u)) (Nat.le_refl _) hgl
        have hs7 : (w5.setCell ⟨gq, 1, none⟩ (.int .i64 u)).heap.size = w5.heap.size := by simp [World.setCell]
        have hln7 := Lib.hid (lens_set (i := 0) (x := (nrm hs 0, u)) (hlen.out.symm.trans hcnt.out) hln.out (hln.out 0 (by omega)))
        clear hi hi2 hD8 hown5 kR5 kr5 hD9 hD10 hown6 kR6 kr6 ch6
        go_upto_region 11 with fail
        generalize w5.setCell ⟨gq, 1, none⟩ (.int .i64 u) = V7 at *
        have r0 := kr7.c0
        have r1 := kr7.c1
        have f0 := kr7.fr 0
        have f1 := kr7.fr 1
        have o0 := kR7.c0
        have o1 := kR7.c1
        have kf := (kr7.set0 (.int .i64 (m : Int))).set1 (.slice (some ⟨gq, 0, none⟩) k d)
        have kf0 := kf.c0
        have kf1 := kf.c1
        go_wp2_with fail
        refine bodyPost_ret (v := .agg #[.int .i64 (m : Int), .slice (some ⟨gq, 0, none⟩) k d]) (by simp [results, Tryz.results36, go_sem, kf0, kf1]) rfl ?_
        exact ⟨(m : Int), _, k, _, _, rfl, ⟨_, ((hown7.setBelow (a := ⟨_, _, none⟩) (by dsimp only; omega) _).setBelow (a := ⟨_, _, none⟩) (by dsimp only; omega) _).up.widen (by omega) (Nat.le_refl _)⟩, by omega, by omega, by omega, hln7,
          hD11.low (((Below.refl w.heap.size V7).setCell (p := ⟨_, _, none⟩) (by dsimp only; omega) _).setCell (p := ⟨_, _, none⟩) (by dsimp only; omega) _) (Nat.le_refl _) hgl⟩
    · have hy3 : (y == 1) = false := by simpa using e1
      by_cases e2 : y = 2
      · subst e2
        have hBL := boxed V (.cells #[.int .i64 20, .int .i64 21, .int .i64 (-21), .int .i64 0] 3)
        have hi : Ints (V.alloc (.cells #[.int .i64 20, .int .i64 21, .int .i64 (-21), .int .i64 0] 3)) (some ⟨V.heap.size, 0, none⟩) 4 [20, 21, -21, 0] := ⟨rfl, fun k hk => ⟨_, _, rfl, by
          rw [Nat.zero_add]
          match k, hk with
          | 0, _ => exact (cellsNew _ _ _ _).trans rfl
          | 1, _ => exact (cellsNew _ _ _ _).trans rfl
          | 2, _ => exact (cellsNew _ _ _ _).trans rfl
          | 3, _ => exact (cellsNew _ _ _ _).trans rfl⟩⟩
        have hi2 := hi.drew
        have hD8 := (hD7.step (Drawn1.new hD7.1 hBL)).step (Drawn1.new (hD7.1.below hBL) (drewBelow _))
        have hown5 := (hown4.below hBL).drew
        have kR5 := (kR4.below hBL).drew
        have kr5 := (kr4.below hBL).drew
        have hgV := hD7.1.lt
        have hs5 := hBL.size
        have kc1 := kR4.c1
        have kc2 := kR5.c1
        have z1 : (0 : Int) < (k : Int) := by omega
        have z1n : 0 < k := by omega
        have z2 : (0 : Int) < (m : Int) := by omega
        have z2n : 0 < m := by omega
        have ch2 := Below.cells hBL ch0
        have ch3 : (V.alloc (.cells #[.int .i64 20, .int .i64 21, .int .i64 (-21), .int .i64 0] 3)).drew.cell? ⟨gq, 0, none⟩ = some (.slice (some ⟨ga, 0, none⟩) m da) := ch2
        obtain ⟨lo', hi', ho, hset⟩ := hown5.mark halfNe 0 (by rw [hcnt.out]; omega)
        simp only [hra.out] at ho hset
        have hoL := ho.lt _ rfl
        dsimp only at hoL
        have hga := hin0.lt _ rfl
        dsimp only at hga
        go_wp2_with fail
        go_region_law (first | (go_simp; go_at_call 69; refine (l1PickInt_any g V.heap.size _ _ _ 4 4 _ ([20, 21, -21, 0]) _ hn hD8.1 (by omega) (by omega) hi2 (by omega)).mono ?_; rintro e w5 ⟨j, hj, rfl, hD9⟩; have hown6 := hown5.within hD9.2 (.inr (by omega)); have kR6 := kR5.within hD9.2 (.inr (by omega)); have kr6 := kr5.within hD9.2 (.inr (by omega)); have kc3 := kR6.c1; have ch6 := hD9.2.cells2 ch3 (.inr (by dsimp only; omega)); have hin6 := (((hin0.below hBL).drew).within hD9.2 (.inr (by omega))); have hx6 := hin6.cell (k := 0) (by omega); have hf6 := hin6.frozen 0; generalize nth [20, 21, -21, 0] j = u at *))
        all_goals
          have hD10 := hD8.step hD9
          have hs6 := hD9.2.size
          rw [World.size_drew] at hs6
          obtain ⟨lo6, hi6, ho6, hset6⟩ := hown6.mark halfNe 0 (by rw [hcnt.out]; omega)
          simp only [hra.out] at ho6 hset6
          have ho6L := ho6.lt _ rfl
          have hown7 := (hset6 (w5.setCell ⟨ga, 0, none⟩ (.int .i64 u)) _ (ho6.set 0 u) ((Within.refl lo6 hi6 w5).setCell (p := ⟨ga, 0, none⟩) ho6L.1 ho6L.2.1 _)).1
          have kR7 := kR6.other (a := ⟨ga, 0, none⟩) (.int .i64 u) (by dsimp only; omega)
          have kr7 := kr6.other (a := ⟨ga, 0, none⟩) (.int .i64 u) (by dsimp only; omega)
          have hD11 := hD10.low ((Below.refl w.heap.size w5).setCell (p := ⟨ga, 0, none⟩) (by dsimp only; omega) (.int .i64 u)) (Nat.le_refl _) hgl
          have hs7 : (w5.setCell ⟨ga, 0, none⟩ (.int .i64 u)).heap.size = w5.heap.size := by simp [World.setCell]
          have hln7 := Lib.hid (lens_set (i := 0) (x := ((nrm hs 0).set 0 u, bnd hs 0)) (hlen.out.symm.trans hcnt.out) hln.out (by simpa using hln.out 0 (by omega)))
          clear hi hi2 hD8 hown5 kR5 kr5 hD9 hD10 hown6 kR6 kr6 hset hset6 ho ho6 ho6L hoL
          go_upto_region 11 with fail
          generalize w5.setCell ⟨ga, 0, none⟩ (.int .i64 u) = V7 at *
          have r0 := kr7.c0
          have r1 := kr7.c1
          have f0 := kr7.fr 0
          have f1 := kr7.fr 1
          have o0 := kR7.c0
          have o1 := kR7.c1
          have kf := (kr7.set0 (.int .i64 (m : Int))).set1 (.slice (some ⟨gq, 0, none⟩) k d)
          have kf0 := kf.c0
          have kf1 := kf.c1
          go_wp2_with fail
          refine bodyPost_ret (v := .agg #[.int .i64 (m : Int), .slice (some ⟨gq, 0, none⟩) k d]) (by simp [results, Tryz.results36, go_sem, kf0, kf1]) rfl ?_
          exact ⟨(m : Int), _, k, _, _, rfl, ⟨_, ((hown7.setBelow (a := ⟨_, _, none⟩) (by dsimp only; omega) _).setBelow (a := ⟨_, _, none⟩) (by dsimp only; omega) _).up.widen (by omega) (Nat.le_refl _)⟩, by omega, by omega, by omega, hln7,
            hD11.low (((Below.refl w.heap.size V7).setCell (p := ⟨_, _, none⟩) (by dsimp only; omega) _).setCell (p := ⟨_, _, none⟩) (by dsimp only; omega) _) (Nat.le_refl _) hgl⟩
      · have hy4 : (y == 2) = false := by simpa using e2
        by_cases e3 : y = 3
        · subst e3
          have hBL := boxed V (.cells #[] 36)
          have hE := (OwnP.empty 36 V).widen (lo' := w.heap.size + 1) (by omega) (Nat.le_refl _)
          have kR5 := kR4.below hBL
          have kr5 := kr4.below hBL
          have kf1 := kR5.fr 1
          have kc1 := kR5.c1
          have hs5 : (V.alloc (.cells #[] 36)).heap.size = V.heap.size + 1 := by simp
          have hRV := kR4.lt
          have kR7 := kR5.set1 (.slice (some ⟨V.heap.size, 0, none⟩) 0 0)
          have kr7 := kr5.other (a := ⟨R, 1, none⟩) (.slice (some ⟨V.heap.size, 0, none⟩) 0 0) (by dsimp only; omega)
          have hD8 := hD7.step (Drawn1.new hD7.1 hBL)
          have hD11 := hD8.low ((Below.refl w.heap.size (V.alloc (.cells #[] 36))).setCell (p := ⟨R, 1, none⟩) (by dsimp only; omega) (.slice (some ⟨V.heap.size, 0, none⟩) 0 0)) (Nat.le_refl _) hgl
          have hs7 : ((V.alloc (.cells #[] 36)).setCell ⟨R, 1, none⟩ (.slice (some ⟨V.heap.size, 0, none⟩) 0 0)).heap.size = V.heap.size + 1 := by simp [World.setCell]
          have hown8 : OwnP 36 ((V.alloc (.cells #[] 36)).setCell ⟨R, 1, none⟩ (.slice (some ⟨V.heap.size, 0, none⟩) 0 0)) (R + 1) (V.heap.size + 1) (some ⟨V.heap.size, 0, none⟩) 0 0 [] [] :=
            ((OwnP.empty 36 V).widen (lo' := R + 1) (by omega) (Nat.le_refl _)).setBelow (a := ⟨R, 1, none⟩) (by dsimp only; omega) _
          clear hE
          have hcm : (V.alloc (.cells #[] 36)).setCell ⟨R, 1, none⟩ (.slice (some ⟨V.heap.size, 0, none⟩) 0 0) = (V.setCell ⟨R, 1, none⟩ (.slice (some ⟨V.heap.size, 0, none⟩) 0 0)).alloc (.cells #[] 36) := by
            first | simp [go_sem, hRV] | (have h0 := hRV; simp [World.setCell, World.alloc, Array.modify, hRV])
          rw [hcm] at hown8 kR7 kr7 hD11 hs7
          clear hcm
          go_upto_region 11 with fail
          clear kf1 kc1 kR5 kr5 hD8
          generalize (V.setCell ⟨R, 1, none⟩ (.slice (some ⟨V.heap.size, 0, none⟩) 0 0)).alloc (.cells #[] 36) = V7 at *
          have r0 := kr7.c0
          have r1 := kr7.c1
          have f0 := kr7.fr 0
          have f1 := kr7.fr 1
          have o0 := kR7.c0
          have o1 := kR7.c1
          have kf := (kr7.set0 (.int .i64 (m : Int))).set1 (.slice (some ⟨V.heap.size, 0, none⟩) 0 0)
          have kf0 := kf.c0
          have kf1 := kf.c1
          go_wp2_with fail
          refine bodyPost_ret (v := .agg #[.int .i64 (m : Int), .slice (some ⟨V.heap.size, 0, none⟩) 0 0]) (by simp [results, Tryz.results36, go_sem, kf0, kf1]) rfl ?_
          exact ⟨(m : Int), _, 0, _, [], rfl, ⟨_, ((hown8.setBelow (a := ⟨_, _, none⟩) (by dsimp only; omega) _).setBelow (a := ⟨_, _, none⟩) (by dsimp only; omega) _).up.widen (by omega) (Nat.le_refl _)⟩, by omega, by omega, by omega, Lib.hid fun j hj => absurd hj (by omega),
            hD11.low (((Below.refl w.heap.size V7).setCell (p := ⟨_, _, none⟩) (by dsimp only; omega) _).setCell (p := ⟨_, _, none⟩) (by dsimp only; omega) _) (Nat.le_refl _) hgl⟩
        · have hy5 : (y == 3) = false := by simpa using e3
          have r0 := kr4.c0
          have r1 := kr4.c1
          have f0 := kr4.fr 0
          have f1 := kr4.fr 1
          have o0 := kR4.c0
          have o1 := kR4.c1
          have kf := (kr4.set0 (.int .i64 (m : Int))).set1 (.slice (some ⟨gq, 0, none⟩) k d)
          have kf0 := kf.c0
          have kf1 := kf.c1
          go_wp2_with fail
          refine bodyPost_ret (v := .agg #[.int .i64 (m : Int), .slice (some ⟨gq, 0, none⟩) k d]) (by simp [results, Tryz.results36, go_sem, kf0, kf1]) rfl ?_
          exact ⟨(m : Int), _, k, _, hs, rfl, ⟨_, ((hown4.setBelow (a := ⟨_, _, none⟩) (by dsimp only; omega) _).setBelow (a := ⟨_, _, none⟩) (by dsimp only; omega) _).up.widen (by omega) (Nat.le_refl _)⟩, by omega, by omega, by omega, hln,
            hD7.low (((Below.refl w.heap.size V).setCell (p := ⟨_, _, none⟩) (by dsimp only; omega) _).setCell (p := ⟨_, _, none⟩) (by dsimp only; omega) _) (Nat.le_refl _) hgl⟩

end Go.Proofs.YtpfklkmmhdpphadGreatDoor
