/- The reference's draw of two regions to be met. Conditions: sizes. -/
import Derived.Test.YtpfklkmmhdpphadGreatDoorRDraw6
import Derived.Test.YtpfklkmmhdpphadGreatDoorAnyU
namespace Go.Proofs.YtpfklkmmhdpphadGreatDoor
open Go.RowKit
set_option linter.unusedVariables false
set_option linter.unusedSimpArgs false
set_option maxRecDepth 100000

attribute [local go_sem ↓] Go.wp_at_zero Go.wp_at_succ

/-- The first pair is written anew, with a row of its own. -/
theorem OwnP.put0 {E : TypeId} (hE : E ≠ 3) {w : World} {lo hi g : Nat} {n c : Nat} {rows : List Row} {hs : List Pr} (h : OwnP E w lo hi (some ⟨g, 0, none⟩) n c rows hs) (h0 : 0 < n)
    {lo' hi' : Nat} {q : Option Addr} {m d : Nat} {ys : List Int} (b : Int) (hq : Own w lo' hi' q m d ys) (hd : hi ≤ lo') (hl' : lo ≤ lo') (hh : hi ≤ hi') :
    OwnP E ((w.setCell ⟨g, 0, none⟩ (.slice q m d)).setCell ⟨g, 1, none⟩ (.int .i64 b)) lo hi' (some ⟨g, 0, none⟩) n c (rows.set 0 (q, m, d)) (hs.set 0 (ys, b)) := by
  have hc := h.count
  have hl := h.len
  have hg := h.outer.lt _ rfl
  dsimp only at hg
  have o1 : OwnV (w.setCell ⟨g, 0, none⟩ (.slice q m d)) E 2 lo hi (some ⟨g, 0, none⟩) n c ((pcells rows hs).set 0 (.slice q m d)) := ⟨(h.outer.row.stored (g := g) (cap := c) 0 (.slice q m d)).1, h.outer.top⟩
  have o2 : OwnV ((w.setCell ⟨g, 0, none⟩ (.slice q m d)).setCell ⟨g, 1, none⟩ (.int .i64 b)) E 2 lo hi (some ⟨g, 0, none⟩) n c (((pcells rows hs).set 0 (.slice q m d)).set 1 (.int .i64 b)) := ⟨(o1.row.stored (g := g) (cap := c) 1 (.int .i64 b)).1, o1.top⟩
  have inn : ∀ k (hk : k < rows.length), Own ((w.setCell ⟨g, 0, none⟩ (.slice q m d)).setCell ⟨g, 1, none⟩ (.int .i64 b)) lo hi rows[k].1 rows[k].2.1 rows[k].2.2 (nrm hs k) := fun k hk => by
    have i1 := (h.inner k hk).kept (q := some ⟨g, 0, none⟩) (set_grown w g 0 (.slice q m d)) (h.outer.ne (h.inner k hk).v hE)
    exact i1.kept (q := some ⟨g, 0, none⟩) (set_grown _ g 1 (.int .i64 b)) (o1.ne i1.v hE)
  have hq2 := (hq.setBelow (a := ⟨g, 0, none⟩) (by dsimp only; omega) (.slice q m d)).setBelow (a := ⟨g, 1, none⟩) (by dsimp only; omega) (.int .i64 b)
  have apart0 : ∀ j (hj : j < rows.length), blk q ≠ blk rows[j].1 ∨ q = none := fun j hj => hq.apart (h.inner j hj) (.inr hd)
  obtain ⟨r0, rs, rfl⟩ : ∃ r rs, rows = r :: rs := by
    cases rows with
    | nil => simp at hc; omega
    | cons r rs => exact ⟨r, rs, rfl⟩
  obtain ⟨x0, xr, rfl⟩ : ∃ x xr, hs = x :: xr := by
    cases hs with
    | nil => simp at hl
    | cons x xr => exact ⟨x, xr, rfl⟩
  refine ⟨?_, by simpa using hl, fun k hk => ?_, ?_⟩
  · have e : pcells ((r0 :: rs).set 0 (q, m, d)) ((x0 :: xr).set 0 (ys, b)) = ((pcells (r0 :: rs) (x0 :: xr)).set 0 (.slice q m d)).set 1 (.int .i64 b) := rfl
    rw [e]
    exact o2.widen (Nat.le_refl _) hh
  · cases k with
    | zero => exact hq2.widen hl' (Nat.le_refl _)
    | succ k => exact (inn (k + 1) (by simpa using hk)).widen (Nat.le_refl _) hh
  · have hp := h.apart
    rw [List.set_cons_zero]
    rw [List.pairwise_cons] at hp ⊢
    refine ⟨fun s hs => ?_, hp.2⟩
    obtain ⟨j, hj, rfl⟩ := List.getElem_of_mem hs
    exact apart0 (j + 1) (by simpa using hj)

theorem l1MinR_any (a b : Int) (w : World) :
    Calls Tryz.prog 40 #[.int .i64 a, .int .i64 b] w fun e w' => e = .returned (.int .i64 (min a b)) ∧ w = w' := by
  by_cases h : a < b
  all_goals
    go_enter Tryz.func40, Tryz.ntmps40
    go_wp2
    go_ret
    exact ⟨ret_int (by omega), rfl⟩

set_option maxHeartbeats 8000000 in
theorem drawMeet_any (p : Option Addr) (n c : Nat) (xs : List Int) (w : World) (hn : n ≤ 1048576) (hx : BytesZ w p n xs) :
    Calls Tryz.prog 8 #[.slice p n c] w (ReadRR w) := by
  have hB1 := boxed w (.cells #[.int .i64 0, .slice none 0 0] 26)
  have hB2 := boxed (w.alloc (.cells #[.int .i64 0, .slice none 0 0] 26)) (.cells #[.int .i64 0, .slice none 0 0] 26)
  have hB := Below.step hB1 hB2
  have kr := (Box2.new w (.int .i64 0) (.slice none 0 0) 26).below hB2
  have ks := Box2.new (w.alloc (.cells #[.int .i64 0, .slice none 0 0] 26)) (.int .i64 0) (.slice none 0 0) 26
  have hs0 : ((w.alloc (.cells #[.int .i64 0, .slice none 0 0] 26)).alloc (.cells #[.int .i64 0, .slice none 0 0] 26)).heap.size = w.heap.size + 2 := by simp
  have hss : (w.alloc (.cells #[.int .i64 0, .slice none 0 0] 26)).heap.size = w.heap.size + 1 := by simp
  rw [hss] at ks
  have hx0 := hx.below hB
  clear hB1 hB2 hss
  go_enter Tryz.func8, Tryz.ntmps8
  go_wp2_with fail
  generalize (w.alloc (.cells #[.int .i64 0, .slice none 0 0] 26)).alloc (.cells #[.int .i64 0, .slice none 0 0] 26) = W0 at *
  refine (l1New_any _ _ _ _ _ hn hx0).mono ?_
  rintro e w1 ⟨g, rfl, hg, hC, hb1⟩
  have hgl := hC.lt
  have kr1 := kr.below hb1
  have ks1 := ks.below hb1
  have hs1 := hb1.size
  go_wp2_with fail
  refine (l4Bent_any _ _ _ _ _ _ hn hC).mono ?_
  rintro e w2 ⟨z, q, k, d, hs, rfl, hown, hz0, hz1, hk, hln, hD⟩
  have kr2 := kr1.within hD.2 (.inl (by omega))
  have ks2 := ks1.within hD.2 (.inl (by omega))
  have hT := hD.frame (Below.step hB hb1) (by omega)
  have hs2 := hD.2.size
  have hBR := boxed w2 (.cells #[.int .i64 z, .slice q k d] 26)
  have kR := Box2.new w2 (.int .i64 z) (.slice q k d) 26
  have hownV := hown.below hBR
  have krV := kr2.below hBR
  have ksV := ks2.below hBR
  have hDV := hD.1.below hBR
  have hTV := Below.step hT hBR
  have hsV : (w2.alloc (.cells #[.int .i64 z, .slice q k d] 26)).heap.size = w2.heap.size + 1 := by simp
  have hsV := Nat.le_of_eq hsV.symm
  clear kr1 ks1 kr2 ks2 hT hown hBR hD hC kr ks
  go_wp2_with fail
  generalize w2.alloc (.cells #[.int .i64 z, .slice q k d] 26) = V at *
  generalize w2.heap.size = R at *
  refine (l1Once_any _ _ _ _ _ _ _ hn hDV (by omega) (by omega)).mono ?_
  rintro e V4 ⟨t, rfl, hD4⟩
  have kr4 := krV.within hD4.2 (.inl (by omega))
  have ks4 := ksV.within hD4.2 (.inl (by omega))
  have kR4 := kR.within hD4.2 (.inr (by omega))
  have hown4 := hownV.within hD4.2 (.inr (by omega))
  have hT4 := hD4.frame hTV (by omega)
  have hs4 := hD4.2.size
  clear krV ksV kR hownV hTV
  cases t
  · obtain ⟨u1, hu1⟩ : ∃ u1 : Int, u1 = min 3 z := ⟨_, rfl⟩
    obtain ⟨m, hm⟩ : ∃ m : Nat, max 1 u1 = (m : Int) := ⟨(max 1 u1).toNat, by omega⟩
    have hm1 : 1 ≤ m := by omega
    have hm3 : m ≤ 3 := by omega
    have hmin : ∀ W : World, Calls Tryz.prog 40 #[.int .i64 3, .int .i64 z] W fun e w' => e = .returned (.int .i64 u1) ∧ W = w' := fun W => by rw [hu1]; exact l1MinR_any _ _ _
    have hmax : ∀ W : World, Calls Tryz.prog 39 #[.int .i64 1, .int .i64 u1] W fun e w' => e = .returned (.int .i64 (m : Int)) ∧ W = w' := fun W => by rw [← hm]; exact l1Max_any _ _ _
    clear hu1 hm
    have a0 := kR4.c0
    go_wp2_with (first | (go_at_call 40; (with_reducible refine (hmin _).mono ?_); rintro e w' ⟨rfl, rfl⟩) | (go_at_call 39; (with_reducible refine (hmax _).mono ?_); rintro e w' ⟨rfl, rfl⟩))
    clear hmin hmax a0
    refine (l4Draw_any _ _ _ _ m _ _ _ rfl hn hD4.1 hm1 hm3).mono ?_
    rintro e V5 ⟨q2, k2, d2, us, rfl, ⟨rows2, hown2⟩, hk1, hk62, hlens2, hD5⟩
    have kr5 := kr4.within hD5.2 (.inl (by omega))
    have ks5 := ks4.within hD5.2 (.inl (by omega))
    have kR5 := kR4.within hD5.2 (.inr (by omega))
    have hown5 := hown4.within hD5.2 (.inr (by omega))
    have hT5 := hD5.frame hT4 (by omega)
    have hs5 := hD5.2.size
    have hBS := boxed V5 (.cells #[.int .i64 m, .slice q2 k2 d2] 26)
    have kS := Box2.new V5 (.int .i64 m) (.slice q2 k2 d2) 26
    have kr6 := kr5.below hBS
    have ks6 := ks5.below hBS
    have kR6 := kR5.below hBS
    have hown6 := hown5.below hBS
    have hown26 := hown2.below hBS
    have hT6 := Below.step hT5 hBS
    have hD6 := hD5.1.below hBS
    have hs6 := hBS.size
    have a0 := kR6.c0
    have a1 := kR6.c1
    have s0 := kS.c0
    have s1 := kS.c1
    clear kr4 ks4 kR4 hown4 hT4 kr5 ks5 kR5 hown5 hT5 hown2 hBS hD4 hD5
    go_wp2_with fail
    generalize V5.alloc (.cells #[.int .i64 m, .slice q2 k2 d2] 26) = V at *
    generalize hB6 : V5.heap.size = B6 at *
    by_cases hk0 : k = 0
    · have hd0 : decide ((0 : Int) < (k : Int)) = false := decide_eq_false (by omega)
      have hd0n : decide (0 < k) = false := decide_eq_false (by omega)
      have Hk0 := Lib.hid hk0
      clear hk0
      refine wp_region_u 18 19 (fun w' => w'.cell? ⟨R, 0, none⟩ = some (.int .i64 z) ∧ w'.cell? ⟨R, 1, none⟩ = some (.slice q k d) ∧ w'.cell? ⟨B6, 0, none⟩ = some (.int .i64 m) ∧ w'.cell? ⟨B6, 1, none⟩ = some (.slice q2 k2 d2)) (by kernel_rfl) rfl (by (try dsimp only); exact ⟨a0, a1, s0, s1⟩) (fun hHeld => ?_)
      refine WalkU.tk 0 rfl ?_ (Or.inl ⟨by rfl, ?_⟩) hHeld ?_
      rotate_left
      · (intro w hSw; (try dsimp only at hSw); go_simp; try with_reducible rfl)
      try simp only [Act.put, List.setIfInBounds_toArray, List.set_cons_zero, List.set_cons_succ]
      refine WalkU.tk 1 rfl ?_ (Or.inl ⟨by rfl, ?_⟩) hHeld ?_
      rotate_left
      · (intro w hSw; (try dsimp only at hSw); go_simp; try with_reducible rfl)
      try simp only [Act.put, List.setIfInBounds_toArray, List.set_cons_zero, List.set_cons_succ]
      refine WalkU.tk 2 rfl ?_ (Or.inl ⟨by rfl, ?_⟩) hHeld ?_
      rotate_left
      · (intro w hSw; (try dsimp only at hSw); go_simp; try with_reducible rfl)
      try simp only [Act.put, List.setIfInBounds_toArray, List.set_cons_zero, List.set_cons_succ]
      refine WalkU.tk 3 rfl ?_ (Or.inl ⟨by rfl, ?_⟩) hHeld ?_
      rotate_left
      · (intro w hSw; (try dsimp only at hSw); go_simp; try with_reducible rfl)
      try simp only [Act.put, List.setIfInBounds_toArray, List.set_cons_zero, List.set_cons_succ]
      refine WalkU.tk 4 rfl ?_ (Or.inl ⟨by rfl, ?_⟩) hHeld ?_
      rotate_left
      · (intro w hSw; (try dsimp only at hSw); go_simp; try with_reducible rfl)
      try simp only [Act.put, List.setIfInBounds_toArray, List.set_cons_zero, List.set_cons_succ]
      refine WalkU.tk 5 rfl undef (Or.inr ⟨by rfl, rfl⟩) hHeld ?_
      try simp only [Act.put, List.setIfInBounds_toArray, List.set_cons_zero, List.set_cons_succ]
      refine WalkU.tk 6 rfl undef (Or.inr ⟨by rfl, rfl⟩) hHeld ?_
      try simp only [Act.put, List.setIfInBounds_toArray, List.set_cons_zero, List.set_cons_succ]
      refine WalkU.tk 7 rfl undef (Or.inr ⟨by rfl, rfl⟩) hHeld ?_
      try simp only [Act.put, List.setIfInBounds_toArray, List.set_cons_zero, List.set_cons_succ]
      refine WalkU.tk 8 rfl undef (Or.inr ⟨by rfl, rfl⟩) hHeld ?_
      try simp only [Act.put, List.setIfInBounds_toArray, List.set_cons_zero, List.set_cons_succ]
      refine WalkU.tk 9 rfl undef (Or.inr ⟨by rfl, rfl⟩) hHeld ?_
      try simp only [Act.put, List.setIfInBounds_toArray, List.set_cons_zero, List.set_cons_succ]
      refine WalkU.tk 10 rfl undef (Or.inr ⟨by rfl, rfl⟩) hHeld ?_
      try simp only [Act.put, List.setIfInBounds_toArray, List.set_cons_zero, List.set_cons_succ]
      refine WalkU.tk 11 rfl undef (Or.inr ⟨by rfl, rfl⟩) hHeld ?_
      try simp only [Act.put, List.setIfInBounds_toArray, List.set_cons_zero, List.set_cons_succ]
      refine WalkU.tk 12 rfl undef (Or.inr ⟨by rfl, rfl⟩) hHeld ?_
      try simp only [Act.put, List.setIfInBounds_toArray, List.set_cons_zero, List.set_cons_succ]
      refine WalkU.tk 13 rfl undef (Or.inr ⟨by rfl, rfl⟩) hHeld ?_
      try simp only [Act.put, List.setIfInBounds_toArray, List.set_cons_zero, List.set_cons_succ]
      refine WalkU.tk 14 rfl ?_ (Or.inl ⟨by rfl, ?_⟩) hHeld ?_
      rotate_left
      · (intro w hSw; (try dsimp only at hSw); go_simp; try with_reducible rfl)
      try simp only [Act.put, List.setIfInBounds_toArray, List.set_cons_zero, List.set_cons_succ]
      refine WalkU.tk 15 rfl ?_ (Or.inl ⟨by rfl, ?_⟩) hHeld ?_
      rotate_left
      · (intro w hSw; (try dsimp only at hSw); go_simp; try with_reducible rfl)
      try simp only [Act.put, List.setIfInBounds_toArray, List.set_cons_zero, List.set_cons_succ]
      refine WalkU.tk 16 rfl undef (Or.inr ⟨by rfl, rfl⟩) hHeld ?_
      try simp only [Act.put, List.setIfInBounds_toArray, List.set_cons_zero, List.set_cons_succ]
      refine WalkU.tk 17 rfl undef (Or.inr ⟨by rfl, rfl⟩) hHeld ?_
      try simp only [Act.put, List.setIfInBounds_toArray, List.set_cons_zero, List.set_cons_succ]
      refine WalkU.last (i := 18) rfl rfl (by kernel_rfl) (by kernel_rfl) (fun K hK => ?_)
      go_simp
      refine hK.out _ _ ?_
      clear hK K
      try simp only [Act.put, List.setIfInBounds_toArray, List.set_cons_zero, List.set_cons_succ]
      have kR8 := kR6.drew
      have kS8 := kS.drew
      have kr8 := kr6.drew
      have ks8 := ks6.drew
      have hr8 := hown6.below (drewBelow V)
      have hs8 : OwnPM 36 V.drew _ _ _ _ _ _ := ⟨_, hown26.drew⟩
      have hT8 := Below.step hT6 (drewBelow V)
      have hsd : V.drew.heap.size = V.heap.size := World.size_drew V
      clear kR6 kS kr6 ks6 hown6 hown26 hT6 a0 a1 s0 s1
      generalize V.drew = V8 at *
      have a0 := kR8.c0
      have a1 := kR8.c1
      have s0 := kS8.c0
      have s1 := kS8.c1
      have r0 := kr8.c0
      have r1 := kr8.c1
      have f0 := kr8.fr 0
      have f1 := kr8.fr 1
      have t0 := ks8.c0
      have t1 := ks8.c1
      have g0 := ks8.fr 0
      have g1 := ks8.fr 1
      have hbR := kR8.lt
      go_wp2_with fail
      go_region_held3 (fun w' => w'.cell? ⟨R, 0, none⟩ = some (.int .i64 z) ∧ w'.cell? ⟨R, 1, none⟩ = some (.slice q k d) ∧ w'.cell? ⟨B6, 0, none⟩ = some (.int .i64 m) ∧ w'.cell? ⟨B6, 1, none⟩ = some (.slice q2 k2 d2)) (first | exact ⟨a0, a1, s0, s1⟩ | exact ⟨cell_other (cell_other a0 (by dsimp only; omega)) (by dsimp only; omega), cell_other (cell_other a1 (by dsimp only; omega)) (by dsimp only; omega), cell_other (cell_other s0 (by dsimp only; omega)) (by dsimp only; omega), cell_other (cell_other s1 (by dsimp only; omega)) (by dsimp only; omega)⟩ | exact ⟨cell_other (cell_other (cell_other (cell_other a0 (by dsimp only; omega)) (by dsimp only; omega)) (by dsimp only; omega)) (by dsimp only; omega), cell_other (cell_other (cell_other (cell_other a1 (by dsimp only; omega)) (by dsimp only; omega)) (by dsimp only; omega)) (by dsimp only; omega), cell_other (cell_other (cell_other (cell_other s0 (by dsimp only; omega)) (by dsimp only; omega)) (by dsimp only; omega)) (by dsimp only; omega), cell_other (cell_other (cell_other (cell_other s1 (by dsimp only; omega)) (by dsimp only; omega)) (by dsimp only; omega)) (by dsimp only; omega)⟩) (fail)
      all_goals
        have kf := ((((kr8.set0 (.int .i64 z)).set1 (.slice q k d)).other (a := ⟨w.heap.size + 1, 0, none⟩) (.int .i64 m) (by dsimp only; omega)).other (a := ⟨w.heap.size + 1, 1, none⟩) (.slice q2 k2 d2) (by dsimp only; omega)).drew
        have kg := ((((ks8.other (a := ⟨w.heap.size, 0, none⟩) (.int .i64 z) (by dsimp only; omega)).other (a := ⟨w.heap.size, 1, none⟩) (.slice q k d) (by dsimp only; omega)).set0 (.int .i64 m)).set1 (.slice q2 k2 d2)).drew
        have kf0 := kf.c0
        have kf1 := kf.c1
        have kg0 := kg.c0
        have kg1 := kg.c1
        go_wp2_with fail
        refine bodyPost_ret (v := .tuple #[.agg #[.int .i64 z, .slice q k d], .agg #[.int .i64 m, .slice q2 k2 d2]]) (by simp [results, Tryz.results8, go_sem, kf0, kf1, kg0, kg1]) rfl ?_
        exact ⟨_, _, _, _, _, _, _, _, _, _, rfl, ((((hr8.setBelow (a := ⟨_, _, none⟩) (by dsimp only; omega) _).setBelow (a := ⟨_, _, none⟩) (by dsimp only; omega) _).setBelow (a := ⟨_, _, none⟩) (by dsimp only; omega) _).setBelow (a := ⟨_, _, none⟩) (by dsimp only; omega) _).rd.drew, hk, ((((hs8.setBelow (a := ⟨_, _, none⟩) (by dsimp only; omega) _).setBelow (a := ⟨_, _, none⟩) (by dsimp only; omega) _).setBelow (a := ⟨_, _, none⟩) (by dsimp only; omega) _).setBelow (a := ⟨_, _, none⟩) (by dsimp only; omega) _).rd.drew, hk62, ((((hT8.setCell (p := ⟨_, _, none⟩) (by dsimp only; omega) _).setCell (p := ⟨_, _, none⟩) (by dsimp only; omega) _).setCell (p := ⟨_, _, none⟩) (by dsimp only; omega) _).setCell (p := ⟨_, _, none⟩) (by dsimp only; omega) _).drew⟩
    · have hd0 : decide ((0 : Int) < (k : Int)) = true := decide_eq_true (by omega)
      have hd0n : decide (0 < k) = true := decide_eq_true (by omega)
      obtain ⟨rowsr, hrow⟩ := hown6
      have hcnt := hrow.count
      obtain ⟨gq, rfl, hgq1, hgq2, hc0, hc1, _⟩ := hrow.rowAt 0 (by omega) (by omega)
      have hin := hrow.inner 0 (by omega)
      obtain ⟨⟨qa, ma, da⟩, hra⟩ : ∃ r, rowsr[0]'(by omega) = r := ⟨_, rfl⟩
      rw [hra] at hc0 hin
      dsimp only at hc0 hin
      rw [Nat.zero_mul] at hc0 hc1
      have hz1 : (0 : Int) < (k : Int) := by omega
      have hz1n : 0 < k := by omega
      have hr6 : OwnPM 36 V _ _ _ _ _ _ := ⟨_, hrow⟩
      by_cases hma : ma = m
      · obtain rfl : m = ma := hma.symm
        have hbl := hin.small
        generalize bnd hs 0 = b0 at *
        have hD6d := hD6.below (drewBelow V)
        have kRd := kR6.drew
        have kSd := kS.drew
        have krd := kr6.drew
        have ksd := ks6.drew
        have hrd := hrow.drew
        have h2d := hown26.drew
        have hind := hin.drew
        have hTd := Below.step hT6 (drewBelow V)
        have hsd : V.drew.heap.size = V.heap.size := World.size_drew V
        clear kR6 kS kr6 ks6 hown26 hT6 hr6 hD6
        refine wp_region_u 18 19 (fun w' => w'.cell? ⟨R, 0, none⟩ = some (.int .i64 z) ∧ w'.cell? ⟨R, 1, none⟩ = some (.slice (some ⟨gq, 0, none⟩) k d) ∧ w'.cell? ⟨B6, 0, none⟩ = some (.int .i64 m) ∧ w'.cell? ⟨B6, 1, none⟩ = some (.slice q2 k2 d2) ∧ w'.cell? ⟨gq, 0, none⟩ = some (.slice qa m da)) (by kernel_rfl) rfl (by (try dsimp only); exact ⟨a0, a1, s0, s1, hc0⟩) (fun hHeld => ?_)
        refine WalkU.tk 0 rfl ?_ (Or.inl ⟨by rfl, ?_⟩) hHeld ?_
        rotate_left
        · (intro w hSw; (try dsimp only at hSw); go_simp; try with_reducible rfl)
        try simp only [Act.put, List.setIfInBounds_toArray, List.set_cons_zero, List.set_cons_succ]
        refine WalkU.tk 1 rfl ?_ (Or.inl ⟨by rfl, ?_⟩) hHeld ?_
        rotate_left
        · (intro w hSw; (try dsimp only at hSw); go_simp; try with_reducible rfl)
        try simp only [Act.put, List.setIfInBounds_toArray, List.set_cons_zero, List.set_cons_succ]
        refine WalkU.tk 2 rfl ?_ (Or.inl ⟨by rfl, ?_⟩) hHeld ?_
        rotate_left
        · (intro w hSw; (try dsimp only at hSw); go_simp; try with_reducible rfl)
        try simp only [Act.put, List.setIfInBounds_toArray, List.set_cons_zero, List.set_cons_succ]
        refine WalkU.tk 3 rfl ?_ (Or.inl ⟨by rfl, ?_⟩) hHeld ?_
        rotate_left
        · (intro w hSw; (try dsimp only at hSw); go_simp; try with_reducible rfl)
        try simp only [Act.put, List.setIfInBounds_toArray, List.set_cons_zero, List.set_cons_succ]
        refine WalkU.tk 4 rfl ?_ (Or.inl ⟨by rfl, ?_⟩) hHeld ?_
        rotate_left
        · (intro w hSw; (try dsimp only at hSw); go_simp; try with_reducible rfl)
        try simp only [Act.put, List.setIfInBounds_toArray, List.set_cons_zero, List.set_cons_succ]
        refine WalkU.tk 5 rfl ?_ (Or.inl ⟨by rfl, ?_⟩) hHeld ?_
        rotate_left
        · (intro w hSw; (try dsimp only at hSw); go_simp; try with_reducible rfl)
        try simp only [Act.put, List.setIfInBounds_toArray, List.set_cons_zero, List.set_cons_succ]
        refine WalkU.tk 6 rfl ?_ (Or.inl ⟨by rfl, ?_⟩) hHeld ?_
        rotate_left
        · (intro w hSw; (try dsimp only at hSw); go_simp; try with_reducible rfl)
        try simp only [Act.put, List.setIfInBounds_toArray, List.set_cons_zero, List.set_cons_succ]
        refine WalkU.tk 7 rfl ?_ (Or.inl ⟨by rfl, ?_⟩) hHeld ?_
        rotate_left
        · (intro w hSw; (try dsimp only at hSw); go_simp; try with_reducible rfl)
        try simp only [Act.put, List.setIfInBounds_toArray, List.set_cons_zero, List.set_cons_succ]
        refine WalkU.tk 8 rfl ?_ (Or.inl ⟨by rfl, ?_⟩) hHeld ?_
        rotate_left
        · (intro w hSw; (try dsimp only at hSw); go_simp; try with_reducible rfl)
        try simp only [Act.put, List.setIfInBounds_toArray, List.set_cons_zero, List.set_cons_succ]
        refine WalkU.tk 9 rfl ?_ (Or.inl ⟨by rfl, ?_⟩) hHeld ?_
        rotate_left
        · (intro w hSw; (try dsimp only at hSw); go_simp; try with_reducible rfl)
        try simp only [Act.put, List.setIfInBounds_toArray, List.set_cons_zero, List.set_cons_succ]
        refine WalkU.tk 10 rfl ?_ (Or.inl ⟨by rfl, ?_⟩) hHeld ?_
        rotate_left
        · (intro w hSw; (try dsimp only at hSw); go_simp; try with_reducible rfl)
        try simp only [Act.put, List.setIfInBounds_toArray, List.set_cons_zero, List.set_cons_succ]
        refine WalkU.tk 11 rfl ?_ (Or.inl ⟨by rfl, ?_⟩) hHeld ?_
        rotate_left
        · (intro w hSw; (try dsimp only at hSw); go_simp; try with_reducible rfl)
        try simp only [Act.put, List.setIfInBounds_toArray, List.set_cons_zero, List.set_cons_succ]
        refine WalkU.tk 12 rfl ?_ (Or.inl ⟨by rfl, ?_⟩) hHeld ?_
        rotate_left
        · (intro w hSw; (try dsimp only at hSw); go_simp; try with_reducible rfl)
        try simp only [Act.put, List.setIfInBounds_toArray, List.set_cons_zero, List.set_cons_succ]
        refine WalkU.tk 13 rfl ?_ (Or.inl ⟨by rfl, ?_⟩) hHeld ?_
        rotate_left
        · (intro w hSw; (try dsimp only at hSw); go_simp; try with_reducible rfl)
        try simp only [Act.put, List.setIfInBounds_toArray, List.set_cons_zero, List.set_cons_succ]
        refine WalkU.tk 14 rfl ?_ (Or.inl ⟨by rfl, ?_⟩) hHeld ?_
        rotate_left
        · (intro w hSw; (try dsimp only at hSw); go_simp; try with_reducible rfl)
        try simp only [Act.put, List.setIfInBounds_toArray, List.set_cons_zero, List.set_cons_succ]
        refine WalkU.tk 15 rfl ?_ (Or.inl ⟨by rfl, ?_⟩) hHeld ?_
        rotate_left
        · (intro w hSw; (try dsimp only at hSw); go_simp; try with_reducible rfl)
        try simp only [Act.put, List.setIfInBounds_toArray, List.set_cons_zero, List.set_cons_succ]
        refine WalkU.tk 16 rfl ?_ (Or.inl ⟨by rfl, ?_⟩) hHeld ?_
        rotate_left
        · (intro w hSw; (try dsimp only at hSw); go_simp; try with_reducible rfl)
        try simp only [Act.put, List.setIfInBounds_toArray, List.set_cons_zero, List.set_cons_succ]
        refine WalkU.one (i := 17) rfl (by kernel_rfl) (fun K hK => ?_)
        first
          | ((go_at_call 37; (with_reducible refine (l1Once_any _ _ _ _ _ _ _ hn hD6d (by omega) (by omega)).mono ?_); rintro e w5 ⟨t2, rfl, hD7⟩; replace a0 := (kRd.within hD7.2 (.inr (by omega))).c0; replace a1 := (kRd.within hD7.2 (.inr (by omega))).c1; replace s0 := (kSd.within hD7.2 (.inr (by omega))).c0; replace s1 := (kSd.within hD7.2 (.inr (by omega))).c1; replace hc0 := hD7.2.cells2 (w := V.drew) hc0 (.inr (by dsimp only; omega))))
          | (go_simp; ((go_at_call 37; (with_reducible refine (l1Once_any _ _ _ _ _ _ _ hn hD6d (by omega) (by omega)).mono ?_); rintro e w5 ⟨t2, rfl, hD7⟩; replace a0 := (kRd.within hD7.2 (.inr (by omega))).c0; replace a1 := (kRd.within hD7.2 (.inr (by omega))).c1; replace s0 := (kSd.within hD7.2 (.inr (by omega))).c0; replace s1 := (kSd.within hD7.2 (.inr (by omega))).c1; replace hc0 := hD7.2.cells2 (w := V.drew) hc0 (.inr (by dsimp only; omega)))))
        refine hK.out _ _ ?_ (fun hHeld => ?_)
        · ((try dsimp only); exact ⟨a0, a1, s0, s1, hc0⟩)
        clear hK K
        try simp only [Act.put, List.setIfInBounds_toArray, List.set_cons_zero, List.set_cons_succ]
        refine WalkU.last (i := 18) rfl rfl (by kernel_rfl) (by kernel_rfl) (fun K hK => ?_)
        go_simp
        refine hK.out _ _ ?_
        clear hK K
        try simp only [Act.put, List.setIfInBounds_toArray, List.set_cons_zero, List.set_cons_succ]
        have kR7 := kRd.within hD7.2 (.inr (by omega))
        have kS7 := kSd.within hD7.2 (.inr (by omega))
        have kr7 := krd.within hD7.2 (.inl (by omega))
        have ks7 := ksd.within hD7.2 (.inl (by omega))
        have hr7 := hrd.within hD7.2 (.inr (by omega))
        have h27 := h2d.within hD7.2 (.inr (by omega))
        have hin7 := hind.within hD7.2 (.inr (by omega))
        have hT7 := hD7.frame hTd (by omega)
        have hs7 := hD7.2.size
        clear kRd kSd krd ksd hrd h2d hind hTd hin hrow
        cases t2
        · have kR8 := kR7
          have kS8 := kS7
          have kr8 := kr7
          have ks8 := ks7
          have hr8 : OwnPM 36 w5 _ _ _ _ _ _ := ⟨_, hr7⟩
          have hs8 : OwnPM 36 w5 _ _ _ _ _ _ := ⟨_, h27⟩
          have hT8 := hT7
          clear kR7 kS7 kr7 ks7 hr7 h27 hT7 hc0 hc1 a0 a1 s0 s1 hin7
          generalize w5 = V8 at *
          have a0 := kR8.c0
          have a1 := kR8.c1
          have s0 := kS8.c0
          have s1 := kS8.c1
          have r0 := kr8.c0
          have r1 := kr8.c1
          have f0 := kr8.fr 0
          have f1 := kr8.fr 1
          have t0 := ks8.c0
          have t1 := ks8.c1
          have g0 := ks8.fr 0
          have g1 := ks8.fr 1
          have hbR := kR8.lt
          go_wp2_with fail
          go_region_held3 (fun w' => w'.cell? ⟨R, 0, none⟩ = some (.int .i64 z) ∧ w'.cell? ⟨R, 1, none⟩ = some (.slice (some ⟨gq, 0, none⟩) k d) ∧ w'.cell? ⟨B6, 0, none⟩ = some (.int .i64 m) ∧ w'.cell? ⟨B6, 1, none⟩ = some (.slice q2 k2 d2)) (first | exact ⟨a0, a1, s0, s1⟩ | exact ⟨cell_other (cell_other a0 (by dsimp only; omega)) (by dsimp only; omega), cell_other (cell_other a1 (by dsimp only; omega)) (by dsimp only; omega), cell_other (cell_other s0 (by dsimp only; omega)) (by dsimp only; omega), cell_other (cell_other s1 (by dsimp only; omega)) (by dsimp only; omega)⟩ | exact ⟨cell_other (cell_other (cell_other (cell_other a0 (by dsimp only; omega)) (by dsimp only; omega)) (by dsimp only; omega)) (by dsimp only; omega), cell_other (cell_other (cell_other (cell_other a1 (by dsimp only; omega)) (by dsimp only; omega)) (by dsimp only; omega)) (by dsimp only; omega), cell_other (cell_other (cell_other (cell_other s0 (by dsimp only; omega)) (by dsimp only; omega)) (by dsimp only; omega)) (by dsimp only; omega), cell_other (cell_other (cell_other (cell_other s1 (by dsimp only; omega)) (by dsimp only; omega)) (by dsimp only; omega)) (by dsimp only; omega)⟩) (fail)
          all_goals
            have kf := ((((kr8.set0 (.int .i64 z)).set1 (.slice (some ⟨gq, 0, none⟩) k d)).other (a := ⟨w.heap.size + 1, 0, none⟩) (.int .i64 m) (by dsimp only; omega)).other (a := ⟨w.heap.size + 1, 1, none⟩) (.slice q2 k2 d2) (by dsimp only; omega)).drew
            have kg := ((((ks8.other (a := ⟨w.heap.size, 0, none⟩) (.int .i64 z) (by dsimp only; omega)).other (a := ⟨w.heap.size, 1, none⟩) (.slice (some ⟨gq, 0, none⟩) k d) (by dsimp only; omega)).set0 (.int .i64 m)).set1 (.slice q2 k2 d2)).drew
            have kf0 := kf.c0
            have kf1 := kf.c1
            have kg0 := kg.c0
            have kg1 := kg.c1
            go_wp2_with fail
            refine bodyPost_ret (v := .tuple #[.agg #[.int .i64 z, .slice (some ⟨gq, 0, none⟩) k d], .agg #[.int .i64 m, .slice q2 k2 d2]]) (by simp [results, Tryz.results8, go_sem, kf0, kf1, kg0, kg1]) rfl ?_
            exact ⟨_, _, _, _, _, _, _, _, _, _, rfl, ((((hr8.setBelow (a := ⟨_, _, none⟩) (by dsimp only; omega) _).setBelow (a := ⟨_, _, none⟩) (by dsimp only; omega) _).setBelow (a := ⟨_, _, none⟩) (by dsimp only; omega) _).setBelow (a := ⟨_, _, none⟩) (by dsimp only; omega) _).rd.drew, hk, ((((hs8.setBelow (a := ⟨_, _, none⟩) (by dsimp only; omega) _).setBelow (a := ⟨_, _, none⟩) (by dsimp only; omega) _).setBelow (a := ⟨_, _, none⟩) (by dsimp only; omega) _).setBelow (a := ⟨_, _, none⟩) (by dsimp only; omega) _).rd.drew, hk62, ((((hT8.setCell (p := ⟨_, _, none⟩) (by dsimp only; omega) _).setCell (p := ⟨_, _, none⟩) (by dsimp only; omega) _).setCell (p := ⟨_, _, none⟩) (by dsimp only; omega) _).setCell (p := ⟨_, _, none⟩) (by dsimp only; omega) _).drew⟩
        · have hT7s := hT7
          have h2cnt := h27.count
          obtain ⟨g2, rfl, hg21, hg22, d0, d1, fz⟩ := h27.rowAt 0 (by omega) (by omega)
          rw [Nat.zero_mul] at d0 d1
          have fz0 := fz 0
          have fz1 := fz 1
          have hcb := hD7.2.cells2 (w := V.drew) hc1 (.inr (by dsimp only; omega))
          have hz2 : (0 : Int) < (k2 : Int) := by omega
          have hz2n : 0 < k2 := by omega
          have hinD := hin7.ints.drew
          have hsd5 : w5.drew.heap.size = w5.heap.size := World.size_drew w5
          obtain ⟨⟨qv, mv, dv⟩, hrv⟩ : ∃ r, rows2[0]'(by omega) = r := ⟨_, rfl⟩
          rw [hrv] at d0
          dsimp only at d0
          generalize bnd us 0 = bu at *
          clear hc1
          go_wp2_with fail
          refine wp_region_u 8 9 (fun w' => w'.cell? ⟨R, 0, none⟩ = some (.int .i64 z) ∧ w'.cell? ⟨R, 1, none⟩ = some (.slice (some ⟨gq, 0, none⟩) k d) ∧ w'.cell? ⟨B6, 0, none⟩ = some (.int .i64 m) ∧ w'.cell? ⟨B6, 1, none⟩ = some (.slice (some ⟨g2, 0, none⟩) k2 d2) ∧ w'.cell? ⟨gq, 0, none⟩ = some (.slice qa m da) ∧ w'.cell? ⟨gq, 1, none⟩ = some (.int .i64 b0) ∧ w'.cell? ⟨g2, 0, none⟩ = some (.slice qv mv dv) ∧ w'.cell? ⟨g2, 1, none⟩ = some (.int .i64 bu)) (by kernel_rfl) rfl (by (try dsimp only); exact ⟨a0, a1, s0, s1, hc0, hcb, d0, d1⟩) (fun hHeld => ?_)
          refine WalkU.tk 0 rfl ?_ (Or.inl ⟨by rfl, ?_⟩) hHeld ?_
          rotate_left
          · (intro w hSw; (try dsimp only at hSw); go_simp; try with_reducible rfl)
          try simp only [Act.put, List.setIfInBounds_toArray, List.set_cons_zero, List.set_cons_succ]
          refine WalkU.tk 1 rfl ?_ (Or.inl ⟨by rfl, ?_⟩) hHeld ?_
          rotate_left
          · (intro w hSw; (try dsimp only at hSw); go_simp; try with_reducible rfl)
          try simp only [Act.put, List.setIfInBounds_toArray, List.set_cons_zero, List.set_cons_succ]
          refine WalkU.tk 2 rfl ?_ (Or.inl ⟨by rfl, ?_⟩) hHeld ?_
          rotate_left
          · (intro w hSw; (try dsimp only at hSw); go_simp; try with_reducible rfl)
          try simp only [Act.put, List.setIfInBounds_toArray, List.set_cons_zero, List.set_cons_succ]
          refine WalkU.tk 3 rfl ?_ (Or.inl ⟨by rfl, ?_⟩) hHeld ?_
          rotate_left
          · (intro w hSw; (try dsimp only at hSw); go_simp; try with_reducible rfl)
          try simp only [Act.put, List.setIfInBounds_toArray, List.set_cons_zero, List.set_cons_succ]
          refine WalkU.tk 4 rfl ?_ (Or.inl ⟨by rfl, ?_⟩) hHeld ?_
          rotate_left
          · (intro w hSw; (try dsimp only at hSw); go_simp; try with_reducible rfl)
          try simp only [Act.put, List.setIfInBounds_toArray, List.set_cons_zero, List.set_cons_succ]
          refine WalkU.tk 5 rfl ?_ (Or.inl ⟨by rfl, ?_⟩) hHeld ?_
          rotate_left
          · (intro w hSw; (try dsimp only at hSw); go_simp; try with_reducible rfl)
          try simp only [Act.put, List.setIfInBounds_toArray, List.set_cons_zero, List.set_cons_succ]
          refine WalkU.one (i := 6) rfl (by kernel_rfl) (fun K hK => ?_)
          first
            | ((go_at_call 41; (with_reducible refine (l4One_any _ _ _ _ _ _ (by omega) hinD).mono ?_); rintro e w6 ⟨q7, d7, rfl, ho7, hb7⟩; replace a0 := (hb7.cell (World.block_lt_of_cell? w5.drew _ a0)).trans a0; replace a1 := (hb7.cell (World.block_lt_of_cell? w5.drew _ a1)).trans a1; replace s0 := (hb7.cell (World.block_lt_of_cell? w5.drew _ s0)).trans s0; replace s1 := (hb7.cell (World.block_lt_of_cell? w5.drew _ s1)).trans s1; replace hc0 := (hb7.cell (World.block_lt_of_cell? w5.drew _ hc0)).trans hc0; replace hcb := (hb7.cell (World.block_lt_of_cell? w5.drew _ hcb)).trans hcb; replace d0 := (hb7.cell (World.block_lt_of_cell? w5.drew _ d0)).trans d0; replace d1 := (hb7.cell (World.block_lt_of_cell? w5.drew _ d1)).trans d1; have h28 := h27.drew.below hb7; replace fz0 := h28.outer.frozen 0; replace fz1 := h28.outer.frozen 1))
            | (go_simp; ((go_at_call 41; (with_reducible refine (l4One_any _ _ _ _ _ _ (by omega) hinD).mono ?_); rintro e w6 ⟨q7, d7, rfl, ho7, hb7⟩; replace a0 := (hb7.cell (World.block_lt_of_cell? w5.drew _ a0)).trans a0; replace a1 := (hb7.cell (World.block_lt_of_cell? w5.drew _ a1)).trans a1; replace s0 := (hb7.cell (World.block_lt_of_cell? w5.drew _ s0)).trans s0; replace s1 := (hb7.cell (World.block_lt_of_cell? w5.drew _ s1)).trans s1; replace hc0 := (hb7.cell (World.block_lt_of_cell? w5.drew _ hc0)).trans hc0; replace hcb := (hb7.cell (World.block_lt_of_cell? w5.drew _ hcb)).trans hcb; replace d0 := (hb7.cell (World.block_lt_of_cell? w5.drew _ d0)).trans d0; replace d1 := (hb7.cell (World.block_lt_of_cell? w5.drew _ d1)).trans d1; have h28 := h27.drew.below hb7; replace fz0 := h28.outer.frozen 0; replace fz1 := h28.outer.frozen 1)))
          refine hK.out _ _ ?_ (fun hHeld => ?_)
          · ((try dsimp only); exact ⟨a0, a1, s0, s1, hc0, hcb, d0, d1⟩)
          clear hK K
          try simp only [Act.put, List.setIfInBounds_toArray, List.set_cons_zero, List.set_cons_succ]
          refine WalkU.tk 7 rfl ?_ (Or.inl ⟨by rfl, ?_⟩) hHeld ?_
          rotate_left
          · (intro w hSw; (try dsimp only at hSw); go_simp; try with_reducible rfl)
          try simp only [Act.put, List.setIfInBounds_toArray, List.set_cons_zero, List.set_cons_succ]
          refine WalkU.last (i := 8) rfl rfl (by kernel_rfl) (by kernel_rfl) (fun K hK => ?_)
          go_simp
          refine hK.out _ _ ?_
          clear hK K
          try simp only [Act.put, List.setIfInBounds_toArray, List.set_cons_zero, List.set_cons_succ]
          have hs7b := hb7.size
          have w1 := ((Within.refl g2 (g2 + 1) w6).setCell (p := ⟨g2, 0, none⟩) (Nat.le_refl _) (Nat.lt_succ_self _) (.slice q7 m d7)).setCell (p := ⟨g2, 1, none⟩) (Nat.le_refl _) (Nat.lt_succ_self _) (.int .i64 b0)
          have hsz : ((w6.setCell ⟨g2, 0, none⟩ (.slice q7 m d7)).setCell ⟨g2, 1, none⟩ (.int .i64 b0)).heap.size = w6.heap.size := by simp [World.setCell]
          have h2p := h28.put0 halfNe (by omega) b0 ho7 (by omega) (by omega) (by omega)
          have kR8 := ((kR7.drew.below hb7).other (a := ⟨g2, 0, none⟩) (.slice q7 m d7) (by dsimp only; omega)).other (a := ⟨g2, 1, none⟩) (.int .i64 b0) (by dsimp only; omega)
          have kS8 := ((kS7.drew.below hb7).other (a := ⟨g2, 0, none⟩) (.slice q7 m d7) (by dsimp only; omega)).other (a := ⟨g2, 1, none⟩) (.int .i64 b0) (by dsimp only; omega)
          have kr8 := ((kr7.drew.below hb7).other (a := ⟨g2, 0, none⟩) (.slice q7 m d7) (by dsimp only; omega)).other (a := ⟨g2, 1, none⟩) (.int .i64 b0) (by dsimp only; omega)
          have ks8 := ((ks7.drew.below hb7).other (a := ⟨g2, 0, none⟩) (.slice q7 m d7) (by dsimp only; omega)).other (a := ⟨g2, 1, none⟩) (.int .i64 b0) (by dsimp only; omega)
          have hr8 : OwnPM 36 ((w6.setCell ⟨g2, 0, none⟩ (.slice q7 m d7)).setCell ⟨g2, 1, none⟩ (.int .i64 b0)) _ _ _ _ _ _ := ⟨_, (hr7.drew.below hb7).within w1 (.inl (by omega))⟩
          have hs8 : OwnPM 36 ((w6.setCell ⟨g2, 0, none⟩ (.slice q7 m d7)).setCell ⟨g2, 1, none⟩ (.int .i64 b0)) _ _ _ _ _ _ := ⟨_, h2p⟩
          have hT8 := ((Below.step (Below.step hT7 (drewBelow w5)) hb7).setCell (p := ⟨g2, 0, none⟩) (by dsimp only; omega) (.slice q7 m d7)).setCell (p := ⟨g2, 1, none⟩) (by dsimp only; omega) (.int .i64 b0)
          clear kR7 kS7 kr7 ks7 hr7 h27 h28 h2p hT7 hT7s hc0 hcb d0 d1 a0 a1 s0 s1 hin7 hinD ho7 hb7 w1 fz fz0 fz1
          generalize (w6.setCell ⟨g2, 0, none⟩ (.slice q7 m d7)).setCell ⟨g2, 1, none⟩ (.int .i64 b0) = V8 at *
          have a0 := kR8.c0
          have a1 := kR8.c1
          have s0 := kS8.c0
          have s1 := kS8.c1
          have r0 := kr8.c0
          have r1 := kr8.c1
          have f0 := kr8.fr 0
          have f1 := kr8.fr 1
          have t0 := ks8.c0
          have t1 := ks8.c1
          have g0 := ks8.fr 0
          have g1 := ks8.fr 1
          have hbR := kR8.lt
          go_wp2_with fail
          go_region_held3 (fun w' => w'.cell? ⟨R, 0, none⟩ = some (.int .i64 z) ∧ w'.cell? ⟨R, 1, none⟩ = some (.slice (some ⟨gq, 0, none⟩) k d) ∧ w'.cell? ⟨B6, 0, none⟩ = some (.int .i64 m) ∧ w'.cell? ⟨B6, 1, none⟩ = some (.slice (some ⟨g2, 0, none⟩) k2 d2)) (first | exact ⟨a0, a1, s0, s1⟩ | exact ⟨cell_other (cell_other a0 (by dsimp only; omega)) (by dsimp only; omega), cell_other (cell_other a1 (by dsimp only; omega)) (by dsimp only; omega), cell_other (cell_other s0 (by dsimp only; omega)) (by dsimp only; omega), cell_other (cell_other s1 (by dsimp only; omega)) (by dsimp only; omega)⟩ | exact ⟨cell_other (cell_other (cell_other (cell_other a0 (by dsimp only; omega)) (by dsimp only; omega)) (by dsimp only; omega)) (by dsimp only; omega), cell_other (cell_other (cell_other (cell_other a1 (by dsimp only; omega)) (by dsimp only; omega)) (by dsimp only; omega)) (by dsimp only; omega), cell_other (cell_other (cell_other (cell_other s0 (by dsimp only; omega)) (by dsimp only; omega)) (by dsimp only; omega)) (by dsimp only; omega), cell_other (cell_other (cell_other (cell_other s1 (by dsimp only; omega)) (by dsimp only; omega)) (by dsimp only; omega)) (by dsimp only; omega)⟩) (fail)
          all_goals
            have kf := ((((kr8.set0 (.int .i64 z)).set1 (.slice (some ⟨gq, 0, none⟩) k d)).other (a := ⟨w.heap.size + 1, 0, none⟩) (.int .i64 m) (by dsimp only; omega)).other (a := ⟨w.heap.size + 1, 1, none⟩) (.slice (some ⟨g2, 0, none⟩) k2 d2) (by dsimp only; omega)).drew
            have kg := ((((ks8.other (a := ⟨w.heap.size, 0, none⟩) (.int .i64 z) (by dsimp only; omega)).other (a := ⟨w.heap.size, 1, none⟩) (.slice (some ⟨gq, 0, none⟩) k d) (by dsimp only; omega)).set0 (.int .i64 m)).set1 (.slice (some ⟨g2, 0, none⟩) k2 d2)).drew
            have kf0 := kf.c0
            have kf1 := kf.c1
            have kg0 := kg.c0
            have kg1 := kg.c1
            go_wp2_with fail
            refine bodyPost_ret (v := .tuple #[.agg #[.int .i64 z, .slice (some ⟨gq, 0, none⟩) k d], .agg #[.int .i64 m, .slice (some ⟨g2, 0, none⟩) k2 d2]]) (by simp [results, Tryz.results8, go_sem, kf0, kf1, kg0, kg1]) rfl ?_
            exact ⟨_, _, _, _, _, _, _, _, _, _, rfl, ((((hr8.setBelow (a := ⟨_, _, none⟩) (by dsimp only; omega) _).setBelow (a := ⟨_, _, none⟩) (by dsimp only; omega) _).setBelow (a := ⟨_, _, none⟩) (by dsimp only; omega) _).setBelow (a := ⟨_, _, none⟩) (by dsimp only; omega) _).rd.drew, hk, ((((hs8.setBelow (a := ⟨_, _, none⟩) (by dsimp only; omega) _).setBelow (a := ⟨_, _, none⟩) (by dsimp only; omega) _).setBelow (a := ⟨_, _, none⟩) (by dsimp only; omega) _).setBelow (a := ⟨_, _, none⟩) (by dsimp only; omega) _).rd.drew, hk62, ((((hT8.setCell (p := ⟨_, _, none⟩) (by dsimp only; omega) _).setCell (p := ⟨_, _, none⟩) (by dsimp only; omega) _).setCell (p := ⟨_, _, none⟩) (by dsimp only; omega) _).setCell (p := ⟨_, _, none⟩) (by dsimp only; omega) _).drew⟩
      · have hmab : ((ma : Int) == (m : Int)) = false := by simp; omega
        have hman : (ma == m) = false := by simp; omega
        have Hma := Lib.hid hma
        clear hma
        refine wp_region_u 18 19 (fun w' => w'.cell? ⟨R, 0, none⟩ = some (.int .i64 z) ∧ w'.cell? ⟨R, 1, none⟩ = some (.slice (some ⟨gq, 0, none⟩) k d) ∧ w'.cell? ⟨B6, 0, none⟩ = some (.int .i64 m) ∧ w'.cell? ⟨B6, 1, none⟩ = some (.slice q2 k2 d2) ∧ w'.cell? ⟨gq, 0, none⟩ = some (.slice qa ma da)) (by kernel_rfl) rfl (by (try dsimp only); exact ⟨a0, a1, s0, s1, hc0⟩) (fun hHeld => ?_)
        refine WalkU.tk 0 rfl ?_ (Or.inl ⟨by rfl, ?_⟩) hHeld ?_
        rotate_left
        · (intro w hSw; (try dsimp only at hSw); go_simp; try with_reducible rfl)
        try simp only [Act.put, List.setIfInBounds_toArray, List.set_cons_zero, List.set_cons_succ]
        refine WalkU.tk 1 rfl ?_ (Or.inl ⟨by rfl, ?_⟩) hHeld ?_
        rotate_left
        · (intro w hSw; (try dsimp only at hSw); go_simp; try with_reducible rfl)
        try simp only [Act.put, List.setIfInBounds_toArray, List.set_cons_zero, List.set_cons_succ]
        refine WalkU.tk 2 rfl ?_ (Or.inl ⟨by rfl, ?_⟩) hHeld ?_
        rotate_left
        · (intro w hSw; (try dsimp only at hSw); go_simp; try with_reducible rfl)
        try simp only [Act.put, List.setIfInBounds_toArray, List.set_cons_zero, List.set_cons_succ]
        refine WalkU.tk 3 rfl ?_ (Or.inl ⟨by rfl, ?_⟩) hHeld ?_
        rotate_left
        · (intro w hSw; (try dsimp only at hSw); go_simp; try with_reducible rfl)
        try simp only [Act.put, List.setIfInBounds_toArray, List.set_cons_zero, List.set_cons_succ]
        refine WalkU.tk 4 rfl ?_ (Or.inl ⟨by rfl, ?_⟩) hHeld ?_
        rotate_left
        · (intro w hSw; (try dsimp only at hSw); go_simp; try with_reducible rfl)
        try simp only [Act.put, List.setIfInBounds_toArray, List.set_cons_zero, List.set_cons_succ]
        refine WalkU.tk 5 rfl ?_ (Or.inl ⟨by rfl, ?_⟩) hHeld ?_
        rotate_left
        · (intro w hSw; (try dsimp only at hSw); go_simp; try with_reducible rfl)
        try simp only [Act.put, List.setIfInBounds_toArray, List.set_cons_zero, List.set_cons_succ]
        refine WalkU.tk 6 rfl ?_ (Or.inl ⟨by rfl, ?_⟩) hHeld ?_
        rotate_left
        · (intro w hSw; (try dsimp only at hSw); go_simp; try with_reducible rfl)
        try simp only [Act.put, List.setIfInBounds_toArray, List.set_cons_zero, List.set_cons_succ]
        refine WalkU.tk 7 rfl ?_ (Or.inl ⟨by rfl, ?_⟩) hHeld ?_
        rotate_left
        · (intro w hSw; (try dsimp only at hSw); go_simp; try with_reducible rfl)
        try simp only [Act.put, List.setIfInBounds_toArray, List.set_cons_zero, List.set_cons_succ]
        refine WalkU.tk 8 rfl ?_ (Or.inl ⟨by rfl, ?_⟩) hHeld ?_
        rotate_left
        · (intro w hSw; (try dsimp only at hSw); go_simp; try with_reducible rfl)
        try simp only [Act.put, List.setIfInBounds_toArray, List.set_cons_zero, List.set_cons_succ]
        refine WalkU.tk 9 rfl ?_ (Or.inl ⟨by rfl, ?_⟩) hHeld ?_
        rotate_left
        · (intro w hSw; (try dsimp only at hSw); go_simp; try with_reducible rfl)
        try simp only [Act.put, List.setIfInBounds_toArray, List.set_cons_zero, List.set_cons_succ]
        refine WalkU.tk 10 rfl ?_ (Or.inl ⟨by rfl, ?_⟩) hHeld ?_
        rotate_left
        · (intro w hSw; (try dsimp only at hSw); go_simp; try with_reducible rfl)
        try simp only [Act.put, List.setIfInBounds_toArray, List.set_cons_zero, List.set_cons_succ]
        refine WalkU.tk 11 rfl ?_ (Or.inl ⟨by rfl, ?_⟩) hHeld ?_
        rotate_left
        · (intro w hSw; (try dsimp only at hSw); go_simp; try with_reducible rfl)
        try simp only [Act.put, List.setIfInBounds_toArray, List.set_cons_zero, List.set_cons_succ]
        refine WalkU.tk 12 rfl ?_ (Or.inl ⟨by rfl, ?_⟩) hHeld ?_
        rotate_left
        · (intro w hSw; (try dsimp only at hSw); go_simp; try with_reducible rfl)
        try simp only [Act.put, List.setIfInBounds_toArray, List.set_cons_zero, List.set_cons_succ]
        refine WalkU.tk 13 rfl ?_ (Or.inl ⟨by rfl, ?_⟩) hHeld ?_
        rotate_left
        · (intro w hSw; (try dsimp only at hSw); go_simp; try with_reducible rfl)
        try simp only [Act.put, List.setIfInBounds_toArray, List.set_cons_zero, List.set_cons_succ]
        refine WalkU.tk 14 rfl ?_ (Or.inl ⟨by rfl, ?_⟩) hHeld ?_
        rotate_left
        · (intro w hSw; (try dsimp only at hSw); go_simp; try with_reducible rfl)
        try simp only [Act.put, List.setIfInBounds_toArray, List.set_cons_zero, List.set_cons_succ]
        refine WalkU.tk 15 rfl ?_ (Or.inl ⟨by rfl, ?_⟩) hHeld ?_
        rotate_left
        · (intro w hSw; (try dsimp only at hSw); go_simp; try with_reducible rfl)
        try simp only [Act.put, List.setIfInBounds_toArray, List.set_cons_zero, List.set_cons_succ]
        refine WalkU.tk 16 rfl undef (Or.inr ⟨by rfl, rfl⟩) hHeld ?_
        try simp only [Act.put, List.setIfInBounds_toArray, List.set_cons_zero, List.set_cons_succ]
        refine WalkU.tk 17 rfl undef (Or.inr ⟨by rfl, rfl⟩) hHeld ?_
        try simp only [Act.put, List.setIfInBounds_toArray, List.set_cons_zero, List.set_cons_succ]
        refine WalkU.last (i := 18) rfl rfl (by kernel_rfl) (by kernel_rfl) (fun K hK => ?_)
        go_simp
        refine hK.out _ _ ?_
        clear hK K
        try simp only [Act.put, List.setIfInBounds_toArray, List.set_cons_zero, List.set_cons_succ]
        have kR8 := kR6.drew
        have kS8 := kS.drew
        have kr8 := kr6.drew
        have ks8 := ks6.drew
        have hr8 := hr6.below (drewBelow V)
        have hs8 : OwnPM 36 V.drew _ _ _ _ _ _ := ⟨_, hown26.drew⟩
        have hT8 := Below.step hT6 (drewBelow V)
        have hsd : V.drew.heap.size = V.heap.size := World.size_drew V
        clear kR6 kS kr6 ks6 hr6 hown26 hT6 a0 a1 s0 s1 hrow hin hc0 hc1
        generalize V.drew = V8 at *
        have a0 := kR8.c0
        have a1 := kR8.c1
        have s0 := kS8.c0
        have s1 := kS8.c1
        have r0 := kr8.c0
        have r1 := kr8.c1
        have f0 := kr8.fr 0
        have f1 := kr8.fr 1
        have t0 := ks8.c0
        have t1 := ks8.c1
        have g0 := ks8.fr 0
        have g1 := ks8.fr 1
        have hbR := kR8.lt
        go_wp2_with fail
        go_region_held3 (fun w' => w'.cell? ⟨R, 0, none⟩ = some (.int .i64 z) ∧ w'.cell? ⟨R, 1, none⟩ = some (.slice (some ⟨gq, 0, none⟩) k d) ∧ w'.cell? ⟨B6, 0, none⟩ = some (.int .i64 m) ∧ w'.cell? ⟨B6, 1, none⟩ = some (.slice q2 k2 d2)) (first | exact ⟨a0, a1, s0, s1⟩ | exact ⟨cell_other (cell_other a0 (by dsimp only; omega)) (by dsimp only; omega), cell_other (cell_other a1 (by dsimp only; omega)) (by dsimp only; omega), cell_other (cell_other s0 (by dsimp only; omega)) (by dsimp only; omega), cell_other (cell_other s1 (by dsimp only; omega)) (by dsimp only; omega)⟩ | exact ⟨cell_other (cell_other (cell_other (cell_other a0 (by dsimp only; omega)) (by dsimp only; omega)) (by dsimp only; omega)) (by dsimp only; omega), cell_other (cell_other (cell_other (cell_other a1 (by dsimp only; omega)) (by dsimp only; omega)) (by dsimp only; omega)) (by dsimp only; omega), cell_other (cell_other (cell_other (cell_other s0 (by dsimp only; omega)) (by dsimp only; omega)) (by dsimp only; omega)) (by dsimp only; omega), cell_other (cell_other (cell_other (cell_other s1 (by dsimp only; omega)) (by dsimp only; omega)) (by dsimp only; omega)) (by dsimp only; omega)⟩) (fail)
        all_goals
          have kf := ((((kr8.set0 (.int .i64 z)).set1 (.slice (some ⟨gq, 0, none⟩) k d)).other (a := ⟨w.heap.size + 1, 0, none⟩) (.int .i64 m) (by dsimp only; omega)).other (a := ⟨w.heap.size + 1, 1, none⟩) (.slice q2 k2 d2) (by dsimp only; omega)).drew
          have kg := ((((ks8.other (a := ⟨w.heap.size, 0, none⟩) (.int .i64 z) (by dsimp only; omega)).other (a := ⟨w.heap.size, 1, none⟩) (.slice (some ⟨gq, 0, none⟩) k d) (by dsimp only; omega)).set0 (.int .i64 m)).set1 (.slice q2 k2 d2)).drew
          have kf0 := kf.c0
          have kf1 := kf.c1
          have kg0 := kg.c0
          have kg1 := kg.c1
          go_wp2_with fail
          refine bodyPost_ret (v := .tuple #[.agg #[.int .i64 z, .slice (some ⟨gq, 0, none⟩) k d], .agg #[.int .i64 m, .slice q2 k2 d2]]) (by simp [results, Tryz.results8, go_sem, kf0, kf1, kg0, kg1]) rfl ?_
          exact ⟨_, _, _, _, _, _, _, _, _, _, rfl, ((((hr8.setBelow (a := ⟨_, _, none⟩) (by dsimp only; omega) _).setBelow (a := ⟨_, _, none⟩) (by dsimp only; omega) _).setBelow (a := ⟨_, _, none⟩) (by dsimp only; omega) _).setBelow (a := ⟨_, _, none⟩) (by dsimp only; omega) _).rd.drew, hk, ((((hs8.setBelow (a := ⟨_, _, none⟩) (by dsimp only; omega) _).setBelow (a := ⟨_, _, none⟩) (by dsimp only; omega) _).setBelow (a := ⟨_, _, none⟩) (by dsimp only; omega) _).setBelow (a := ⟨_, _, none⟩) (by dsimp only; omega) _).rd.drew, hk62, ((((hT8.setCell (p := ⟨_, _, none⟩) (by dsimp only; omega) _).setCell (p := ⟨_, _, none⟩) (by dsimp only; omega) _).setCell (p := ⟨_, _, none⟩) (by dsimp only; omega) _).setCell (p := ⟨_, _, none⟩) (by dsimp only; omega) _).drew⟩

  ·
    have kRd := kR4.drew
    have krd := kr4.drew
    have ksd := ks4.drew
    have hownd := hown4.below (drewBelow V4)
    have hDd := hD4.1.below (drewBelow V4)
    have hTd := Below.step hT4 (drewBelow V4)
    have hsd : V4.drew.heap.size = V4.heap.size := World.size_drew V4
    have a0 := kR4.c0
    have a1 := kR4.c1
    go_wp2_with fail
    go_region_held3 (fun w' => w'.cell? ⟨R, 0, none⟩ = some (.int .i64 z) ∧ w'.cell? ⟨R, 1, none⟩ = some (.slice q k d)) (first | exact ⟨a0, a1⟩ | exact ⟨cell_other (cell_other a0 (by dsimp only; omega)) (by dsimp only; omega), cell_other (cell_other a1 (by dsimp only; omega)) (by dsimp only; omega)⟩ | exact ⟨cell_other (cell_other (cell_other (cell_other a0 (by dsimp only; omega)) (by dsimp only; omega)) (by dsimp only; omega)) (by dsimp only; omega), cell_other (cell_other (cell_other (cell_other a1 (by dsimp only; omega)) (by dsimp only; omega)) (by dsimp only; omega)) (by dsimp only; omega)⟩) (first | (go_simp; go_at_call 36; refine (l4Bent_any _ _ _ _ _ _ hn hDd).mono ?_; rintro e w5 ⟨z5, q5, k5, d5, us5, rfl, ho5, _, _, hk5, _, hD5⟩; have kR5 := kRd.within hD5.2 (.inr (by omega)); have kr5 := krd.within hD5.2 (.inl (by omega)); have ks5 := ksd.within hD5.2 (.inl (by omega)); replace a0 := kR5.c0; replace a1 := kR5.c1; have r0 := kr5.c0; have r1 := kr5.c1; have f0 := kr5.fr 0; have f1 := kr5.fr 1; have t0 := ks5.c0; have t1 := ks5.c1; have g0 := ks5.fr 0; have g1 := ks5.fr 1))
    all_goals
      have hs5 := hD5.2.size
      have hown5 := hownd.within hD5.2 (.inr (by omega))
      have hT5 := hD5.frame hTd (by omega)
      have kf := (((kr5.set0 (.int .i64 z)).set1 (.slice q k d)).other (a := ⟨w.heap.size + 1, 0, none⟩) (.int .i64 z5) (by dsimp only; omega)).other (a := ⟨w.heap.size + 1, 1, none⟩) (.slice q5 k5 d5) (by dsimp only; omega)
      have kg := (((ks5.other (a := ⟨w.heap.size, 0, none⟩) (.int .i64 z) (by dsimp only; omega)).other (a := ⟨w.heap.size, 1, none⟩) (.slice q k d) (by dsimp only; omega)).set0 (.int .i64 z5)).set1 (.slice q5 k5 d5)
      have kf0 := kf.c0
      have kf1 := kf.c1
      have kg0 := kg.c0
      have kg1 := kg.c1
      go_wp2_with fail
      refine bodyPost_ret (v := .tuple #[.agg #[.int .i64 z, .slice q k d], .agg #[.int .i64 z5, .slice q5 k5 d5]]) (by simp [results, Tryz.results8, go_sem, kf0, kf1, kg0, kg1]) rfl ?_
      exact ⟨_, _, _, _, _, _, _, _, _, _, rfl, ((((hown5.setBelow (a := ⟨_, _, none⟩) (by dsimp only; omega) _).setBelow (a := ⟨_, _, none⟩) (by dsimp only; omega) _).setBelow (a := ⟨_, _, none⟩) (by dsimp only; omega) _).setBelow (a := ⟨_, _, none⟩) (by dsimp only; omega) _).rd, hk, ((((ho5.setBelow (a := ⟨_, _, none⟩) (by dsimp only; omega) _).setBelow (a := ⟨_, _, none⟩) (by dsimp only; omega) _).setBelow (a := ⟨_, _, none⟩) (by dsimp only; omega) _).setBelow (a := ⟨_, _, none⟩) (by dsimp only; omega) _).rd, hk5, (((hT5.setCell (p := ⟨_, _, none⟩) (by dsimp only; omega) _).setCell (p := ⟨_, _, none⟩) (by dsimp only; omega) _).setCell (p := ⟨_, _, none⟩) (by dsimp only; omega) _).setCell (p := ⟨_, _, none⟩) (by dsimp only; omega) _⟩

end Go.Proofs.YtpfklkmmhdpphadGreatDoor
