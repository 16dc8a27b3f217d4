/- The reference's draws of fractions: what a great law reads. Conditions: sizes. -/
import Derived.Test.YtpfklkmmhdpphaaGreatDoorVDraw
import Derived.Test.YtpfklkmmhdpphaaGreatDoorRDraw3
import Derived.Deep.RegionHeld3
namespace Go.Proofs.YtpfklkmmhdpphaaGreatDoor
open Go.RowKit
set_option linter.unusedVariables false
set_option linter.unusedSimpArgs false
set_option maxRecDepth 100000

attribute [local go_sem ↓] Go.wp_at_zero Go.wp_at_succ

/-- A fraction that is read. -/
def ReadQ (w : World) (e : Ending) (w' : World) : Prop :=
  ∃ (q : Option Addr) (m d : Nat) (ys : List Int) (a : Int), e = .returned (.agg #[.slice q m d, .int .i64 a]) ∧ Ints w' q m ys ∧ m ≤ 3 ∧ -1 ≤ a ∧ a ≤ 100001 ∧ Hid (∀ j, j < m → -10000001 ≤ nth ys j ∧ nth ys j ≤ 10000001) ∧ Below w.heap.size w w'
/-- Two fractions that are read. -/
def ReadQQ (w : World) (e : Ending) (w' : World) : Prop :=
  ∃ (q : Option Addr) (m d : Nat) (ys : List Int) (a : Int) (q' : Option Addr) (m' d' : Nat) (ys' : List Int) (a' : Int), e = .returned (.tuple #[.agg #[.slice q m d, .int .i64 a], .agg #[.slice q' m' d', .int .i64 a']])
    ∧ Ints w' q m ys ∧ m ≤ 3 ∧ Ints w' q' m' ys' ∧ m' ≤ 3 ∧ Below w.heap.size w w'

theorem drawVertices_any (p : Option Addr) (n c : Nat) (xs : List Int) (w : World) (hn : n ≤ 1048576) (hx : BytesZ w p n xs) :
    Calls Tryz.prog 5 #[.slice p n c] w (ReadR w) := by
  have hB := boxed w (.cells #[.int .i64 0, .slice none 0 0] 26)
  have kr := Box2.new w (.int .i64 0) (.slice none 0 0) 26
  have hs0 : (w.alloc (.cells #[.int .i64 0, .slice none 0 0] 26)).heap.size = w.heap.size + 1 := by simp
  have hx0 := hx.below hB
  go_enter Tryz.func5, Tryz.ntmps5
  go_wp2_with fail
  generalize w.alloc (.cells #[.int .i64 0, .slice none 0 0] 26) = W0 at *
  refine (l1New_any _ _ _ _ _ hn hx0).mono ?_
  rintro e w1 ⟨g, rfl, hg, hC, hb1⟩
  have hgl := hC.lt
  have kr1 := kr.below hb1
  go_wp2_with fail
  refine (l4Bent_any _ _ _ _ _ _ hn hC).mono ?_
  rintro e w2 ⟨z, q, k, d, hs, rfl, hown, hz0, hz1, hk, hln, hD⟩
  have kr2 := kr1.within hD.2 (.inl (by omega))
  have hT := hD.frame (Below.step hB hb1) (by omega)
  have hs1 := hb1.size
  have hs2 := hD.2.size
  have r0 := kr2.c0
  have r1 := kr2.c1
  have f0 := kr2.fr 0
  have f1 := kr2.fr 1
  have kf := (kr2.set0 (.int .i64 z)).set1 (.slice q k d)
  have kf0 := kf.c0
  have kf1 := kf.c1
  go_wp2_with fail
  refine bodyPost_ret (v := .agg #[.int .i64 z, .slice q k d]) (by simp [results, Tryz.results5, go_sem, kf0, kf1]) rfl ?_
  exact ⟨_, _, _, _, _, rfl, ((hown.setBelow (a := ⟨_, _, none⟩) (by dsimp only; omega) _).setBelow (a := ⟨_, _, none⟩) (by dsimp only; omega) _).up.widen (by omega) (Nat.le_refl _), hz0, hz1, hk, hln, (hT.setCell (p := ⟨_, _, none⟩) (by dsimp only; omega) _).setCell (p := ⟨_, _, none⟩) (by dsimp only; omega) _⟩

theorem l1MinV_any (a b : Int) (w : World) :
    Calls Tryz.prog 40 #[.int .i64 a, .int .i64 b] w fun e w' => e = .returned (.int .i64 (min a b)) ∧ w = w' := by
  by_cases h : a < b
  all_goals
    go_enter Tryz.func40, Tryz.ntmps40
    go_wp2
    go_ret
    exact ⟨ret_int (by omega), rfl⟩

theorem drawRatText_any (p : Option Addr) (n c : Nat) (xs : List Int) (w : World) (hn : n ≤ 1048576) (hx : BytesZ w p n xs) :
    Calls Tryz.prog 9 #[.slice p n c] w (ReadQ w) := by
  have hB := boxed w (.cells #[.slice none 0 0, .int .i64 0] 32)
  have kr := Box2.new w (.slice none 0 0) (.int .i64 0) 32
  have hs0 : (w.alloc (.cells #[.slice none 0 0, .int .i64 0] 32)).heap.size = w.heap.size + 1 := by simp
  have hx0 := hx.below hB
  go_enter Tryz.func9, Tryz.ntmps9
  go_wp2_with fail
  generalize w.alloc (.cells #[.slice none 0 0, .int .i64 0] 32) = W0 at *
  refine (l1New_any _ _ _ _ _ hn hx0).mono ?_
  rintro e w1 ⟨g, rfl, hg, hC, hb1⟩
  have hgl := hC.lt
  have kr1 := kr.below hb1
  have hs1 := hb1.size
  go_wp2_with fail
  refine (l1Below_any _ _ _ _ _ _ _ hn hC (by omega) (by omega)).mono ?_
  rintro e w2 ⟨x, rfl, hx0, hx1, hD⟩
  obtain ⟨m, rfl⟩ : ∃ m : Nat, x = (m : Int) := ⟨x.toNat, by omega⟩
  have hm3 : m ≤ 3 := by omega
  have kr2 := kr1.within hD.2 (.inl (by omega))
  have hT := hD.frame (Below.step hB hb1) (by omega)
  have hs2 := hD.2.size
  go_wp2_with fail
  refine (l6Bent_any _ _ _ _ m _ _ _ rfl hn hD.1 hm3).mono ?_
  rintro e w3 ⟨q, d, ys, a, rfl, hown, ha0, ha1, hys, hD2⟩
  have kr3 := kr2.within hD2.2 (.inl (by omega))
  have hT2 := hD2.frame hT (by omega)
  have hs3 := hD2.2.size
  have r0 := kr3.c0
  have r1 := kr3.c1
  have f0 := kr3.fr 0
  have f1 := kr3.fr 1
  have kf := (kr3.set0 (.slice q m d)).set1 (.int .i64 a)
  have kf0 := kf.c0
  have kf1 := kf.c1
  go_wp2_with fail
  refine bodyPost_ret (v := .agg #[.slice q m d, .int .i64 a]) (by simp [results, Tryz.results9, go_sem, kf0, kf1]) rfl ?_
  exact ⟨_, _, _, _, _, rfl, ((hown.setBelow (a := ⟨_, _, none⟩) (by dsimp only; omega) _).setBelow (a := ⟨_, _, none⟩) (by dsimp only; omega) _).ints, hm3, ha0, ha1, hys, (hT2.setCell (p := ⟨_, _, none⟩) (by dsimp only; omega) _).setCell (p := ⟨_, _, none⟩) (by dsimp only; omega) _⟩

set_option maxHeartbeats 4000000 in
theorem drawCompare_any (p : Option Addr) (n c : Nat) (xs : List Int) (w : World) (hn : n ≤ 1048576) (hx : BytesZ w p n xs) :
    Calls Tryz.prog 8 #[.slice p n c] w (ReadQQ w) := by
  have hB1 := boxed w (.cells #[.slice none 0 0, .int .i64 0] 32)
  have hB2 := boxed (w.alloc (.cells #[.slice none 0 0, .int .i64 0] 32)) (.cells #[.slice none 0 0, .int .i64 0] 32)
  have hB := Below.step hB1 hB2
  have kr := (Box2.new w (.slice none 0 0) (.int .i64 0) 32).below hB2
  have ks := Box2.new (w.alloc (.cells #[.slice none 0 0, .int .i64 0] 32)) (.slice none 0 0) (.int .i64 0) 32
  have hs0 : ((w.alloc (.cells #[.slice none 0 0, .int .i64 0] 32)).alloc (.cells #[.slice none 0 0, .int .i64 0] 32)).heap.size = w.heap.size + 2 := by simp
  have hss : (w.alloc (.cells #[.slice none 0 0, .int .i64 0] 32)).heap.size = w.heap.size + 1 := by simp
  rw [hss] at ks
  have hx0 := hx.below hB
  clear hB1 hB2 hss
  go_enter Tryz.func8, Tryz.ntmps8
  go_wp2_with fail
  generalize (w.alloc (.cells #[.slice none 0 0, .int .i64 0] 32)).alloc (.cells #[.slice none 0 0, .int .i64 0] 32) = W0 at *
  refine (l1New_any _ _ _ _ _ hn hx0).mono ?_
  rintro e w1 ⟨g, rfl, hg, hC, hb1⟩
  have hgl := hC.lt
  have kr1 := kr.below hb1
  have ks1 := ks.below hb1
  have hs1 := hb1.size
  go_wp2_with fail
  refine (l1Below_any _ _ _ _ _ _ _ hn hC (by omega) (by omega)).mono ?_
  rintro e w2 ⟨x, rfl, hx0, hx1, hD⟩
  obtain ⟨m, hm⟩ : ∃ m : Nat, 1 + x = (m : Int) := ⟨(1 + x).toNat, by omega⟩
  have hm3 : m ≤ 3 := by omega
  have hw1 : IntKind.i64.wrap (1 + x) = (m : Int) := by rw [wrapEq, hm]; exact wrap64_id (by omega) (by omega)
  have Hm := Lib.hid hm
  clear hm
  have kr2 := kr1.within hD.2 (.inl (by omega))
  have ks2 := ks1.within hD.2 (.inl (by omega))
  have hT := hD.frame (Below.step hB hb1) (by omega)
  have hs2 := hD.2.size
  go_wp2_with fail
  refine (l6Bent_any _ _ _ _ m _ _ _ rfl hn hD.1 hm3).mono ?_
  rintro e w3 ⟨q, d, ys, a, rfl, hown, ha0, ha1, hys, hD2⟩
  have kr3 := kr2.within hD2.2 (.inl (by omega))
  have ks3 := ks2.within hD2.2 (.inl (by omega))
  have hT2 := hD2.frame hT (by omega)
  have hs3 := hD2.2.size
  have hBR := boxed w3 (.cells #[.slice q m d, .int .i64 a] 32)
  have kR := Box2.new w3 (.slice q m d) (.int .i64 a) 32
  have hownV := hown.below hBR
  have krV := kr3.below hBR
  have ksV := ks3.below hBR
  have hDV := hD2.1.below hBR
  have hTV := Below.step hT2 hBR
  have hsV : (w3.alloc (.cells #[.slice q m d, .int .i64 a] 32)).heap.size = w3.heap.size + 1 := by simp
  have hsV := Nat.le_of_eq hsV.symm
  clear kr1 ks1 kr2 ks2 kr3 ks3 hT hT2 hown hBR hD hD2
  go_wp2_with fail
  generalize w3.alloc (.cells #[.slice q m d, .int .i64 a] 32) = V at *
  generalize w3.heap.size = R at *
  refine (l1Once_any _ _ _ _ _ _ _ hn hDV (by omega) (by omega)).mono ?_
  rintro e V4 ⟨t, rfl, hD4⟩
  have kr4 := krV.within hD4.2 (.inl (by omega))
  have ks4 := ksV.within hD4.2 (.inl (by omega))
  have kR4 := kR.within hD4.2 (.inr (by omega))
  have hown4 := hownV.within hD4.2 (.inr (by omega))
  have hT4 := hD4.frame hTV (by omega)
  have hs4 := hD4.2.size
  clear krV ksV kR hownV hTV
  have kRd := kR4.drew
  have krd := kr4.drew
  have ksd := ks4.drew
  have hownd := hown4.below (drewBelow V4)
  have hDd := hD4.1.below (drewBelow V4)
  have hsd : V4.drew.heap.size = V4.heap.size := World.size_drew V4
  have hTd := Below.step hT4 (drewBelow V4)
  have a0 := kR4.c0
  have a1 := kR4.c1
  clear kR4 kr4 ks4 hown4 hT4
  cases t
  · go_wp2_with fail
    go_region_held3 (fun w' => w'.cell? ⟨R, 0, none⟩ = some (.slice q m d) ∧ w'.cell? ⟨R, 1, none⟩ = some (.int .i64 a)) (first | exact ⟨a0, a1⟩ | exact ⟨cell_other (cell_other a0 (by dsimp only; omega)) (by dsimp only; omega), cell_other (cell_other a1 (by dsimp only; omega)) (by dsimp only; omega)⟩ | exact ⟨cell_other (cell_other (cell_other (cell_other a0 (by dsimp only; omega)) (by dsimp only; omega)) (by dsimp only; omega)) (by dsimp only; omega), cell_other (cell_other (cell_other (cell_other a1 (by dsimp only; omega)) (by dsimp only; omega)) (by dsimp only; omega)) (by dsimp only; omega)⟩) (first | (go_simp; go_at_call 38; refine (l6Bent_any _ _ _ _ m _ _ _ rfl hn hDd hm3).mono ?_; rintro e w5 ⟨q5, d5, ys5, a5, rfl, ho5, _, _, _, hD5⟩; have kR5 := kRd.within hD5.2 (.inr (by omega)); have kr5 := krd.within hD5.2 (.inl (by omega)); have ks5 := ksd.within hD5.2 (.inl (by omega)); replace a0 := kR5.c0; replace a1 := kR5.c1; have r0 := kr5.c0; have r1 := kr5.c1; have f0 := kr5.fr 0; have f1 := kr5.fr 1; have t0 := ks5.c0; have t1 := ks5.c1; have g0 := ks5.fr 0; have g1 := ks5.fr 1))
    all_goals
      have hs5 := hD5.2.size
      have hown5 := hownd.within hD5.2 (.inr (by omega))
      have hT5 := hD5.frame hTd (by omega)
      have kf := (((kr5.set0 (.slice q m d)).set1 (.int .i64 a)).other (a := ⟨w.heap.size + 1, 0, none⟩) (.slice q5 m d5) (by dsimp only; omega)).other (a := ⟨w.heap.size + 1, 1, none⟩) (.int .i64 a5) (by dsimp only; omega)
      have kg := (((ks5.other (a := ⟨w.heap.size, 0, none⟩) (.slice q m d) (by dsimp only; omega)).other (a := ⟨w.heap.size, 1, none⟩) (.int .i64 a) (by dsimp only; omega)).set0 (.slice q5 m d5)).set1 (.int .i64 a5)
      have kf0 := kf.c0
      have kf1 := kf.c1
      have kg0 := kg.c0
      have kg1 := kg.c1
      go_wp2_with fail
      refine bodyPost_ret (v := .tuple #[.agg #[.slice q m d, .int .i64 a], .agg #[.slice q5 m d5, .int .i64 a5]]) (by simp [results, Tryz.results8, go_sem, kf0, kf1, kg0, kg1]) rfl ?_
      exact ⟨_, _, _, _, _, _, _, _, _, _, rfl, ((((hown5.setBelow (a := ⟨_, _, none⟩) (by dsimp only; omega) _).setBelow (a := ⟨_, _, none⟩) (by dsimp only; omega) _).setBelow (a := ⟨_, _, none⟩) (by dsimp only; omega) _).setBelow (a := ⟨_, _, none⟩) (by dsimp only; omega) _).ints, hm3, ((((ho5.setBelow (a := ⟨_, _, none⟩) (by dsimp only; omega) _).setBelow (a := ⟨_, _, none⟩) (by dsimp only; omega) _).setBelow (a := ⟨_, _, none⟩) (by dsimp only; omega) _).setBelow (a := ⟨_, _, none⟩) (by dsimp only; omega) _).ints, hm3, (((hT5.setCell (p := ⟨_, _, none⟩) (by dsimp only; omega) _).setCell (p := ⟨_, _, none⟩) (by dsimp only; omega) _).setCell (p := ⟨_, _, none⟩) (by dsimp only; omega) _).setCell (p := ⟨_, _, none⟩) (by dsimp only; omega) _⟩
  · obtain ⟨u1, hu1⟩ : ∃ u1 : Int, u1 = min a 100 := ⟨_, rfl⟩
    obtain ⟨u2, hu2⟩ : ∃ u2 : Int, u2 = max 1 u1 := ⟨_, rfl⟩
    have hmin : ∀ W : World, Calls Tryz.prog 40 #[.int .i64 a, .int .i64 100] W fun e w' => e = .returned (.int .i64 u1) ∧ W = w' := fun W => by rw [hu1]; exact l1MinV_any _ _ _
    have hmax : ∀ W : World, Calls Tryz.prog 39 #[.int .i64 1, .int .i64 u1] W fun e w' => e = .returned (.int .i64 u2) ∧ W = w' := fun W => by rw [hu2]; exact l1Max_any _ _ _
    clear hu1 hu2
    have hsc := hownd.ints
    go_wp2_with fail
    go_region_held3 (fun w' => w'.cell? ⟨R, 0, none⟩ = some (.slice q m d) ∧ w'.cell? ⟨R, 1, none⟩ = some (.int .i64 a)) (first | exact ⟨a0, a1⟩ | exact ⟨cell_other (cell_other a0 (by dsimp only; omega)) (by dsimp only; omega), cell_other (cell_other a1 (by dsimp only; omega)) (by dsimp only; omega)⟩ | exact ⟨cell_other (cell_other (cell_other (cell_other a0 (by dsimp only; omega)) (by dsimp only; omega)) (by dsimp only; omega)) (by dsimp only; omega), cell_other (cell_other (cell_other (cell_other a1 (by dsimp only; omega)) (by dsimp only; omega)) (by dsimp only; omega)) (by dsimp only; omega)⟩) (first | (go_simp; go_at_call 41; (with_reducible refine (l2Scale_any _ _ _ _ _ _ (by omega) hsc).mono ?_); rintro e w5 ⟨q5, d5, rfl, ho5, hb5⟩; have kR5 := kRd.below hb5; have kr5 := krd.below hb5; have ks5 := ksd.below hb5; replace a0 := kR5.c0; replace a1 := kR5.c1; have r0 := kr5.c0; have r1 := kr5.c1; have f0 := kr5.fr 0; have f1 := kr5.fr 1; have t0 := ks5.c0; have t1 := ks5.c1; have g0 := ks5.fr 0; have g1 := ks5.fr 1) | (go_simp; go_at_call 40; with_reducible refine (hmin _).mono ?_; rintro e w' ⟨rfl, rfl⟩) | (go_simp; go_at_call 39; with_reducible refine (hmax _).mono ?_; rintro e w' ⟨rfl, rfl⟩))
    all_goals
      have hs5 := hb5.size
      have hown5 := hownd.below hb5
      have hT5 := Below.step hTd hb5
      have kf := (((kr5.set0 (.slice q m d)).set1 (.int .i64 a)).other (a := ⟨w.heap.size + 1, 0, none⟩) (.slice q5 m d5) (by dsimp only; omega)).other (a := ⟨w.heap.size + 1, 1, none⟩) (.int .i64 (IntKind.i64.wrap (u2 * 2))) (by dsimp only; omega)
      have kg := (((ks5.other (a := ⟨w.heap.size, 0, none⟩) (.slice q m d) (by dsimp only; omega)).other (a := ⟨w.heap.size, 1, none⟩) (.int .i64 a) (by dsimp only; omega)).set0 (.slice q5 m d5)).set1 (.int .i64 (IntKind.i64.wrap (u2 * 2)))
      have kf0 := kf.c0
      have kf1 := kf.c1
      have kg0 := kg.c0
      have kg1 := kg.c1
      go_wp2_with fail
      refine bodyPost_ret (v := .tuple #[.agg #[.slice q m d, .int .i64 a], .agg #[.slice q5 m d5, .int .i64 (IntKind.i64.wrap (u2 * 2))]]) (by simp [results, Tryz.results8, go_sem, kf0, kf1, kg0, kg1]) rfl ?_
      exact ⟨_, _, _, _, _, _, _, _, _, _, rfl, ((((hown5.setBelow (a := ⟨_, _, none⟩) (by dsimp only; omega) _).setBelow (a := ⟨_, _, none⟩) (by dsimp only; omega) _).setBelow (a := ⟨_, _, none⟩) (by dsimp only; omega) _).setBelow (a := ⟨_, _, none⟩) (by dsimp only; omega) _).ints, hm3, ((((ho5.setBelow (a := ⟨_, _, none⟩) (by dsimp only; omega) _).setBelow (a := ⟨_, _, none⟩) (by dsimp only; omega) _).setBelow (a := ⟨_, _, none⟩) (by dsimp only; omega) _).setBelow (a := ⟨_, _, none⟩) (by dsimp only; omega) _).ints, hm3, (((hT5.setCell (p := ⟨_, _, none⟩) (by dsimp only; omega) _).setCell (p := ⟨_, _, none⟩) (by dsimp only; omega) _).setCell (p := ⟨_, _, none⟩) (by dsimp only; omega) _).setCell (p := ⟨_, _, none⟩) (by dsimp only; omega) _⟩

end Go.Proofs.YtpfklkmmhdpphaaGreatDoor
