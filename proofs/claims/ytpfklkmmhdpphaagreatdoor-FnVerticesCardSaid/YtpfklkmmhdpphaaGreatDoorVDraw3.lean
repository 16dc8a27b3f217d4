/- The reference's draw of a region and a fraction. Conditions: sizes. -/
import Derived.Test.YtpfklkmmhdpphaaGreatDoorVDraw2
import Derived.Test.YtpfklkmmhdpphaaGreatDoorVtxMC
namespace Go.Proofs.YtpfklkmmhdpphaaGreatDoor
open Go.RowKit
set_option linter.unusedVariables false
set_option linter.unusedSimpArgs false
set_option maxRecDepth 100000

attribute [local go_sem ↓] Go.wp_at_zero Go.wp_at_succ

/-- A region and a fraction that are read. -/
def ReadRQ (w : World) (e : Ending) (w' : World) : Prop :=
  ∃ (z : Int) (q : Option Addr) (k d : Nat) (hs : List Pr) (q' : Option Addr) (m d' : Nat) (ys : List Int) (a : Int), e = .returned (.tuple #[.agg #[.int .i64 z, .slice q k d], .agg #[.slice q' m d', .int .i64 a]])
    ∧ Prs w' q k hs ∧ k ≤ 6 ∧ Ints w' q' m ys ∧ m ≤ 9223372036854775807 ∧ Below w.heap.size w w'

set_option maxHeartbeats 8000000 in
theorem drawHasRat_any (p : Option Addr) (n c : Nat) (xs : List Int) (w : World) (hn : n ≤ 1048576) (hx : BytesZ w p n xs) :
    Calls Tryz.prog 7 #[.slice p n c] w (ReadRQ w) := by
  have hB1 := boxed w (.cells #[.int .i64 0, .slice none 0 0] 26)
  have hB2 := boxed (w.alloc (.cells #[.int .i64 0, .slice none 0 0] 26)) (.cells #[.slice none 0 0, .int .i64 0] 32)
  have hB := Below.step hB1 hB2
  have kr := (Box2.new w (.int .i64 0) (.slice none 0 0) 26).below hB2
  have ks := Box2.new (w.alloc (.cells #[.int .i64 0, .slice none 0 0] 26)) (.slice none 0 0) (.int .i64 0) 32
  have hs0 : ((w.alloc (.cells #[.int .i64 0, .slice none 0 0] 26)).alloc (.cells #[.slice none 0 0, .int .i64 0] 32)).heap.size = w.heap.size + 2 := by simp
  have hss : (w.alloc (.cells #[.int .i64 0, .slice none 0 0] 26)).heap.size = w.heap.size + 1 := by simp
  rw [hss] at ks
  have hx0 := hx.below hB
  clear hB1 hB2 hss
  go_enter Tryz.func7, Tryz.ntmps7
  go_wp2_with fail
  generalize (w.alloc (.cells #[.int .i64 0, .slice none 0 0] 26)).alloc (.cells #[.slice none 0 0, .int .i64 0] 32) = W0 at *
  refine (l1New_any _ _ _ _ _ hn hx0).mono ?_
  rintro e w1 ⟨g, rfl, hg, hC, hb1⟩
  have hgl := hC.lt
  have kr1 := kr.below hb1
  have ks1 := ks.below hb1
  have hs1 := hb1.size
  go_wp2_with fail
  refine (l4Bent_any _ _ _ _ _ _ hn hC).mono ?_
  rintro e w2 ⟨z, q, k, d, hs, rfl, hown, hz0, hz1, hk, hln, hD⟩
  have kr2 := kr1.within hD.2 (.inl (by omega))
  have ks2 := ks1.within hD.2 (.inl (by omega))
  have hT := hD.frame (Below.step hB hb1) (by omega)
  have hs2 := hD.2.size
  have hBR := boxed w2 (.cells #[.int .i64 z, .slice q k d] 26)
  have kR := Box2.new w2 (.int .i64 z) (.slice q k d) 26
  have hownV := hown.below hBR
  have krV := kr2.below hBR
  have ksV := ks2.below hBR
  have hDV := hD.1.below hBR
  have hTV := Below.step hT hBR
  have hsV : (w2.alloc (.cells #[.int .i64 z, .slice q k d] 26)).heap.size = w2.heap.size + 1 := by simp
  have hsV := Nat.le_of_eq hsV.symm
  have kRx := kR.c0
  have kRy := kR.c1
  clear kr1 ks1 kr2 ks2 hT hown hBR hD hC kr ks
  go_wp2_with fail
  generalize w2.alloc (.cells #[.int .i64 z, .slice q k d] 26) = V at *
  generalize w2.heap.size = R at *
  refine (specVertices_any _ _ _ _ _ _ (by omega) hownV.rd).mono ?_
  rintro e V2 ⟨pv, nv, cv, rfl, hov, hbv⟩
  have kR3 := kR.below hbv
  have kr3 := krV.below hbv
  have ks3 := ksV.below hbv
  have hown3 := hownV.below hbv
  have hD3 := hDV.below hbv
  have hT3 := Below.step hTV hbv
  have hs3 := hbv.size
  have hvr := hov.rd
  have hbx3 := Lib.hid (by have := (hD3.lt); exact this)
  clear kRx kRy kR krV ksV hownV hDV hTV hbv
  by_cases hnv : nv = 0
  · subst hnv
    obtain ⟨u1, hu1⟩ : ∃ u1 : Int, u1 = min 3 z := ⟨_, rfl⟩
    obtain ⟨m, hm⟩ : ∃ m : Nat, max 0 u1 = (m : Int) := ⟨(max 0 u1).toNat, by omega⟩
    have hm3 : m ≤ 3 := by omega
    have hmin : ∀ W : World, Calls Tryz.prog 40 #[.int .i64 3, .int .i64 z] W fun e w' => e = .returned (.int .i64 u1) ∧ W = w' := fun W => by rw [hu1]; exact l1MinV_any _ _ _
    have hmax : ∀ W : World, Calls Tryz.prog 39 #[.int .i64 0, .int .i64 u1] W fun e w' => e = .returned (.int .i64 (m : Int)) ∧ W = w' := fun W => by rw [← hm]; exact l1Max_any _ _ _
    clear hu1 hm
    have kRd := kR3.drew
    have krd := kr3.drew
    have ksd := ks3.drew
    have hownd := hown3.below (drewBelow V2)
    have hDd := hD3.below (drewBelow V2)
    have hTd := Below.step hT3 (drewBelow V2)
    have hsd : V2.drew.heap.size = V2.heap.size := World.size_drew V2
    have a0 := kR3.c0
    have a1 := kR3.c1
    go_wp2_with fail
    go_region_held3 (fun w' => w'.cell? ⟨R, 0, none⟩ = some (.int .i64 z) ∧ w'.cell? ⟨R, 1, none⟩ = some (.slice q k d)) (first | exact ⟨a0, a1⟩ | exact ⟨cell_other (cell_other a0 (by dsimp only; omega)) (by dsimp only; omega), cell_other (cell_other a1 (by dsimp only; omega)) (by dsimp only; omega)⟩ | exact ⟨cell_other (cell_other (cell_other (cell_other a0 (by dsimp only; omega)) (by dsimp only; omega)) (by dsimp only; omega)) (by dsimp only; omega), cell_other (cell_other (cell_other (cell_other a1 (by dsimp only; omega)) (by dsimp only; omega)) (by dsimp only; omega)) (by dsimp only; omega)⟩) (first | (go_simp; go_at_call 40; with_reducible refine (hmin _).mono ?_; rintro e w' ⟨rfl, rfl⟩) | (go_simp; go_at_call 39; with_reducible refine (hmax _).mono ?_; rintro e w' ⟨rfl, rfl⟩) | (go_simp; go_at_call 38; refine (l6Bent_any _ _ _ _ m _ _ _ rfl hn hDd hm3).mono ?_; rintro e w5 ⟨q5, d5, ys5, a5, rfl, ho5, _, _, _, hD5⟩; have kR5 := kRd.within hD5.2 (.inr (by omega)); have kr5 := krd.within hD5.2 (.inl (by omega)); have ks5 := ksd.within hD5.2 (.inl (by omega)); replace a0 := kR5.c0; replace a1 := kR5.c1; have r0 := kr5.c0; have r1 := kr5.c1; have f0 := kr5.fr 0; have f1 := kr5.fr 1; have t0 := ks5.c0; have t1 := ks5.c1; have g0 := ks5.fr 0; have g1 := ks5.fr 1))
    all_goals
      have hs5 := hD5.2.size
      have hown5 := hownd.within hD5.2 (.inr (by omega))
      have hT5 := hD5.frame hTd (by omega)
      have kf := (((kr5.set0 (.int .i64 z)).set1 (.slice q k d)).other (a := ⟨w.heap.size + 1, 0, none⟩) (.slice q5 m d5) (by dsimp only; omega)).other (a := ⟨w.heap.size + 1, 1, none⟩) (.int .i64 a5) (by dsimp only; omega)
      have kg := (((ks5.other (a := ⟨w.heap.size, 0, none⟩) (.int .i64 z) (by dsimp only; omega)).other (a := ⟨w.heap.size, 1, none⟩) (.slice q k d) (by dsimp only; omega)).set0 (.slice q5 m d5)).set1 (.int .i64 a5)
      have kf0 := kf.c0
      have kf1 := kf.c1
      have kg0 := kg.c0
      have kg1 := kg.c1
      go_wp2_with fail
      refine bodyPost_ret (v := .tuple #[.agg #[.int .i64 z, .slice q k d], .agg #[.slice q5 m d5, .int .i64 a5]]) (by simp [results, Tryz.results7, go_sem, kf0, kf1, kg0, kg1]) rfl ?_
      exact ⟨_, _, _, _, _, _, _, _, _, _, rfl, ((((hown5.setBelow (a := ⟨_, _, none⟩) (by dsimp only; omega) _).setBelow (a := ⟨_, _, none⟩) (by dsimp only; omega) _).setBelow (a := ⟨_, _, none⟩) (by dsimp only; omega) _).setBelow (a := ⟨_, _, none⟩) (by dsimp only; omega) _).rd, hk, (((((ho5.setBelow (a := ⟨_, _, none⟩) (by dsimp only; omega) _).setBelow (a := ⟨_, _, none⟩) (by dsimp only; omega) _).setBelow (a := ⟨_, _, none⟩) (by dsimp only; omega) _).setBelow (a := ⟨_, _, none⟩) (by dsimp only; omega) _)).ints, by omega, (((hT5.setCell (p := ⟨_, _, none⟩) (by dsimp only; omega) _).setCell (p := ⟨_, _, none⟩) (by dsimp only; omega) _).setCell (p := ⟨_, _, none⟩) (by dsimp only; omega) _).setCell (p := ⟨_, _, none⟩) (by dsimp only; omega) _⟩
  · have hd0 : decide ((0 : Int) < (nv : Int)) = true := by simp; omega
    have hd0n : decide (0 < nv) = true := by simp; omega
    go_wp2_with fail
    refine (l1Once_any _ _ _ _ _ _ _ hn hD3 (by omega) (by omega)).mono ?_
    rintro e V4 ⟨t, rfl, hD4⟩
    have kr4 := kr3.within hD4.2 (.inl (by omega))
    have ks4 := ks3.within hD4.2 (.inl (by omega))
    have kR4 := kR3.within hD4.2 (.inr (by omega))
    have hown4 := hown3.within hD4.2 (.inr (by omega))
    have hov4 := hov.within hD4.2 (.inr (by omega))
    have hT4 := hD4.frame hT3 (by omega)
    have hs4 := hD4.2.size
    clear kr3 ks3 kR3 hown3 hov hT3 hD3
    cases t
    ·
      obtain ⟨u1, hu1⟩ : ∃ u1 : Int, u1 = min 3 z := ⟨_, rfl⟩
      obtain ⟨m, hm⟩ : ∃ m : Nat, max 0 u1 = (m : Int) := ⟨(max 0 u1).toNat, by omega⟩
      have hm3 : m ≤ 3 := by omega
      have hmin : ∀ W : World, Calls Tryz.prog 40 #[.int .i64 3, .int .i64 z] W fun e w' => e = .returned (.int .i64 u1) ∧ W = w' := fun W => by rw [hu1]; exact l1MinV_any _ _ _
      have hmax : ∀ W : World, Calls Tryz.prog 39 #[.int .i64 0, .int .i64 u1] W fun e w' => e = .returned (.int .i64 (m : Int)) ∧ W = w' := fun W => by rw [← hm]; exact l1Max_any _ _ _
      clear hu1 hm
      have kRd := kR4.drew
      have krd := kr4.drew
      have ksd := ks4.drew
      have hownd := hown4.below (drewBelow V4)
      have hDd := hD4.1.below (drewBelow V4)
      have hTd := Below.step hT4 (drewBelow V4)
      have hsd : V4.drew.heap.size = V4.heap.size := World.size_drew V4
      have a0 := kR4.c0
      have a1 := kR4.c1
      go_wp2_with fail
      go_region_held3 (fun w' => w'.cell? ⟨R, 0, none⟩ = some (.int .i64 z) ∧ w'.cell? ⟨R, 1, none⟩ = some (.slice q k d)) (first | exact ⟨a0, a1⟩ | exact ⟨cell_other (cell_other a0 (by dsimp only; omega)) (by dsimp only; omega), cell_other (cell_other a1 (by dsimp only; omega)) (by dsimp only; omega)⟩ | exact ⟨cell_other (cell_other (cell_other (cell_other a0 (by dsimp only; omega)) (by dsimp only; omega)) (by dsimp only; omega)) (by dsimp only; omega), cell_other (cell_other (cell_other (cell_other a1 (by dsimp only; omega)) (by dsimp only; omega)) (by dsimp only; omega)) (by dsimp only; omega)⟩) (first | (go_simp; go_at_call 40; with_reducible refine (hmin _).mono ?_; rintro e w' ⟨rfl, rfl⟩) | (go_simp; go_at_call 39; with_reducible refine (hmax _).mono ?_; rintro e w' ⟨rfl, rfl⟩) | (go_simp; go_at_call 38; refine (l6Bent_any _ _ _ _ m _ _ _ rfl hn hDd hm3).mono ?_; rintro e w5 ⟨q5, d5, ys5, a5, rfl, ho5, _, _, _, hD5⟩; have kR5 := kRd.within hD5.2 (.inr (by omega)); have kr5 := krd.within hD5.2 (.inl (by omega)); have ks5 := ksd.within hD5.2 (.inl (by omega)); replace a0 := kR5.c0; replace a1 := kR5.c1; have r0 := kr5.c0; have r1 := kr5.c1; have f0 := kr5.fr 0; have f1 := kr5.fr 1; have t0 := ks5.c0; have t1 := ks5.c1; have g0 := ks5.fr 0; have g1 := ks5.fr 1))
      all_goals
        have hs5 := hD5.2.size
        have hown5 := hownd.within hD5.2 (.inr (by omega))
        have hT5 := hD5.frame hTd (by omega)
        have kf := (((kr5.set0 (.int .i64 z)).set1 (.slice q k d)).other (a := ⟨w.heap.size + 1, 0, none⟩) (.slice q5 m d5) (by dsimp only; omega)).other (a := ⟨w.heap.size + 1, 1, none⟩) (.int .i64 a5) (by dsimp only; omega)
        have kg := (((ks5.other (a := ⟨w.heap.size, 0, none⟩) (.int .i64 z) (by dsimp only; omega)).other (a := ⟨w.heap.size, 1, none⟩) (.slice q k d) (by dsimp only; omega)).set0 (.slice q5 m d5)).set1 (.int .i64 a5)
        have kf0 := kf.c0
        have kf1 := kf.c1
        have kg0 := kg.c0
        have kg1 := kg.c1
        go_wp2_with fail
        refine bodyPost_ret (v := .tuple #[.agg #[.int .i64 z, .slice q k d], .agg #[.slice q5 m d5, .int .i64 a5]]) (by simp [results, Tryz.results7, go_sem, kf0, kf1, kg0, kg1]) rfl ?_
        exact ⟨_, _, _, _, _, _, _, _, _, _, rfl, ((((hown5.setBelow (a := ⟨_, _, none⟩) (by dsimp only; omega) _).setBelow (a := ⟨_, _, none⟩) (by dsimp only; omega) _).setBelow (a := ⟨_, _, none⟩) (by dsimp only; omega) _).setBelow (a := ⟨_, _, none⟩) (by dsimp only; omega) _).rd, hk, (((((ho5.setBelow (a := ⟨_, _, none⟩) (by dsimp only; omega) _).setBelow (a := ⟨_, _, none⟩) (by dsimp only; omega) _).setBelow (a := ⟨_, _, none⟩) (by dsimp only; omega) _).setBelow (a := ⟨_, _, none⟩) (by dsimp only; omega) _)).ints, by omega, (((hT5.setCell (p := ⟨_, _, none⟩) (by dsimp only; omega) _).setCell (p := ⟨_, _, none⟩) (by dsimp only; omega) _).setCell (p := ⟨_, _, none⟩) (by dsimp only; omega) _).setCell (p := ⟨_, _, none⟩) (by dsimp only; omega) _⟩
    · have kRd := kR4.drew
      have krd := kr4.drew
      have ksd := ks4.drew
      have hownd := hown4.below (drewBelow V4)
      have hovd := hov4.below (drewBelow V4)
      have hDd := hD4.1.below (drewBelow V4)
      have hTd := Below.step hT4 (drewBelow V4)
      have hsd : V4.drew.heap.size = V4.heap.size := World.size_drew V4
      have a0 := kR4.c0
      have a1 := kR4.c1
      have hnvm : (nv : Int) ≤ 2147483648 := by have := (vtxV_len z hs).1; have := hvr.len; omega
      have hnv1 : (1 : Int) ≤ (nv : Int) := by omega
      go_wp2_with fail
      have a0d := kRd.c0
      have a1d := kRd.c1
      go_region_law (first | (go_simp; go_at_call 37; go_must ( refine (l1Below_any _ _ _ _ _ _ _ hn hDd hnv1 hnvm).mono ?_; rintro e w5 ⟨x, rfl, hx0, hx1, hD5⟩; obtain ⟨j, rfl⟩ : ∃ j : Nat, x = (j : Int) := ⟨x.toNat, by omega⟩; have kR5 := kRd.within hD5.2 (.inr (by omega)); have kr5 := krd.within hD5.2 (.inl (by omega)); have ks5 := ksd.within hD5.2 (.inl (by omega)); replace a0 := kR5.c0; replace a1 := kR5.c1; have r0 := kr5.c0; have r1 := kr5.c1; have f0 := kr5.fr 0; have f1 := kr5.fr 1; have t0 := ks5.c0; have t1 := ks5.c1; have g0 := ks5.fr 0; have g1 := ks5.fr 1; obtain ⟨rowsv, hovr⟩ := hovd.within hD5.2 (.inr (by omega)); have hcnt := hovr.count; obtain ⟨bv, eqv, hbl0, hbl1, hcv0, hcv1, _⟩ := hovr.rowAt j (by omega) (by omega); subst eqv; have hiv := hovr.inner j (by omega); obtain ⟨⟨qv, mv, dv⟩, hrv⟩ : ∃ r, rowsv[j]'(by omega) = r := ⟨_, rfl⟩; rw [hrv] at hcv0 hiv; dsimp only at hcv0 hiv; have hjn : j < nv := (by omega); have hmv := hiv.small; generalize bnd (vtxV z hs) j = av at *; have hcw0 := cell_other (u := .slice q k d) (a := ⟨w.heap.size, 1, none⟩) (cell_other (u := .int .i64 z) (a := ⟨w.heap.size, 0, none⟩) hcv0 (by dsimp only; omega)) (by dsimp only; omega); have hcw1 := cell_other (u := .slice q k d) (a := ⟨w.heap.size, 1, none⟩) (cell_other (u := .int .i64 z) (a := ⟨w.heap.size, 0, none⟩) hcv1 (by dsimp only; omega)) (by dsimp only; omega))))
      all_goals
        have hs5 := hD5.2.size
        have hown5 := hownd.within hD5.2 (.inr (by omega))
        have hT5 := hD5.frame hTd (by omega)
        have kf := (((kr5.set0 (.int .i64 z)).set1 (.slice q k d)).other (a := ⟨w.heap.size + 1, 0, none⟩) (.slice qv mv dv) (by dsimp only; omega)).other (a := ⟨w.heap.size + 1, 1, none⟩) (.int .i64 av) (by dsimp only; omega)
        have kg := (((ks5.other (a := ⟨w.heap.size, 0, none⟩) (.int .i64 z) (by dsimp only; omega)).other (a := ⟨w.heap.size, 1, none⟩) (.slice q k d) (by dsimp only; omega)).set0 (.slice qv mv dv)).set1 (.int .i64 av)
        have kf0 := kf.c0
        have kf1 := kf.c1
        have kg0 := kg.c0
        have kg1 := kg.c1
        go_wp2_with fail
        refine bodyPost_ret (v := .tuple #[.agg #[.int .i64 z, .slice q k d], .agg #[.slice qv mv dv, .int .i64 av]]) (by simp [results, Tryz.results7, go_sem, kf0, kf1, kg0, kg1]) rfl ?_
        exact ⟨_, _, _, _, _, _, _, _, _, _, rfl, ((((hown5.setBelow (a := ⟨_, _, none⟩) (by dsimp only; omega) _).setBelow (a := ⟨_, _, none⟩) (by dsimp only; omega) _).setBelow (a := ⟨_, _, none⟩) (by dsimp only; omega) _).setBelow (a := ⟨_, _, none⟩) (by dsimp only; omega) _).rd, hk, ((((hiv.setBelow (a := ⟨_, _, none⟩) (by dsimp only; omega) _).setBelow (a := ⟨_, _, none⟩) (by dsimp only; omega) _).setBelow (a := ⟨_, _, none⟩) (by dsimp only; omega) _).setBelow (a := ⟨_, _, none⟩) (by dsimp only; omega) _).ints, hmv, (((hT5.setCell (p := ⟨_, _, none⟩) (by dsimp only; omega) _).setCell (p := ⟨_, _, none⟩) (by dsimp only; omega) _).setCell (p := ⟨_, _, none⟩) (by dsimp only; omega) _).setCell (p := ⟨_, _, none⟩) (by dsimp only; omega) _⟩

end Go.Proofs.YtpfklkmmhdpphaaGreatDoor
