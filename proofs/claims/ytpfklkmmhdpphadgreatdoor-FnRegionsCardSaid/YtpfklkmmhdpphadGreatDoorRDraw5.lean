/- The reference's draws of regions: what the law of regions reads. Conditions: sizes. -/
import Derived.Test.YtpfklkmmhdpphadGreatDoorRDraw3
import Derived.Test.YtpfklkmmhdpphadGreatDoorCopy2
import Derived.Deep.RegionHeld3
namespace Go.Proofs.YtpfklkmmhdpphadGreatDoor
open Go.RowKit
set_option linter.unusedVariables false
set_option linter.unusedSimpArgs false
set_option maxRecDepth 100000

attribute [local go_sem ↓] Go.wp_at_zero Go.wp_at_succ

/-- A region and a row of small numbers that are read. -/
def ReadRV4 (w : World) (e : Ending) (w' : World) : Prop :=
  ∃ (z : Int) (q : Option Addr) (k d : Nat) (hs : List Pr) (q' : Option Addr) (m d' : Nat) (ys : List Int), e = .returned (.tuple #[.agg #[.int .i64 z, .slice q k d], .slice q' m d']) ∧ OwnPM 36 w' w.heap.size w'.heap.size q k d hs ∧ 0 ≤ z ∧ z ≤ 4 ∧ k ≤ 6 ∧ Hid (∀ j, j < k → (nrm hs j).length ≤ 3) ∧ Own w' w.heap.size w'.heap.size q' m d' ys ∧ m ≤ 5 ∧ Hid (∀ j, j < m → -4 ≤ nth ys j ∧ nth ys j ≤ 4) ∧ Below w.heap.size w w'
/-- Two regions that are read. -/
def ReadRR (w : World) (e : Ending) (w' : World) : Prop :=
  ∃ (z : Int) (q : Option Addr) (k d : Nat) (hs : List Pr) (y : Int) (q' : Option Addr) (m d' : Nat) (us : List Pr), e = .returned (.tuple #[.agg #[.int .i64 z, .slice q k d], .agg #[.int .i64 y, .slice q' m d']]) ∧ Prs w' q k hs ∧ k ≤ 6 ∧ Prs w' q' m us ∧ m ≤ 6 ∧ Below w.heap.size w w'

set_option maxHeartbeats 4000000 in
theorem drawHas4_any (p : Option Addr) (n c : Nat) (xs : List Int) (w : World) (hn : n ≤ 1048576) (hx : BytesZ w p n xs) :
    Calls Tryz.prog 16 #[.slice p n c] w (ReadRV4 w) := by
  have hB := boxed w (.cells #[.int .i64 0, .slice none 0 0] 26)
  have kr := Box2.new w (.int .i64 0) (.slice none 0 0) 26
  have hs0 : (w.alloc (.cells #[.int .i64 0, .slice none 0 0] 26)).heap.size = w.heap.size + 1 := by simp
  have hx0 := hx.below hB
  go_enter Tryz.func16, Tryz.ntmps16
  go_wp2_with fail
  generalize w.alloc (.cells #[.int .i64 0, .slice none 0 0] 26) = W0 at *
  refine (l1New_any _ _ _ _ _ hn hx0).mono ?_
  rintro e w1 ⟨g, rfl, hg, hC, hb1⟩
  have hgl := hC.lt
  have kr1 := kr.below hb1
  have hs1 := hb1.size
  have hT1 := Below.step hB hb1
  go_wp2_with fail
  refine (l4Bent_any _ _ _ _ _ _ hn hC).mono ?_
  rintro e w2 ⟨z, q, k, d, hs, rfl, hown, hz0, hz1, hk, hln, hD⟩
  have kr2 := kr1.within hD.2 (.inl (by omega))
  have hT := hD.frame hT1 (by omega)
  have hs2 := hD.2.size
  have hBR := boxed w2 (.cells #[.int .i64 z, .slice q k d] 26)
  have kR := Box2.new w2 (.int .i64 z) (.slice q k d) 26
  have hownV := hown.below hBR
  have krV := kr2.below hBR
  have hDV := hD.1.below hBR
  have hTV := Below.step hT hBR
  have hsV : (w2.alloc (.cells #[.int .i64 z, .slice q k d] 26)).heap.size = w2.heap.size + 1 := by simp
  have hsV := Nat.le_of_eq hsV.symm
  go_wp2_with fail
  generalize w2.alloc (.cells #[.int .i64 z, .slice q k d] 26) = V at *
  generalize w2.heap.size = R at *
  have kRd := kR.drew
  have krd := krV.drew
  have hownd := hownV.below (drewBelow V)
  have hDd := hDV.below (drewBelow V)
  have hTd := Below.step hTV (drewBelow V)
  have a0 := kR.c0
  have a1 := kR.c1
  clear kr kr1 kr2 hown hD hT hT1 hBR hB hC
  go_region_held3 (fun w' => w'.cell? ⟨R, 0, none⟩ = some (.int .i64 z) ∧ w'.cell? ⟨R, 1, none⟩ = some (.slice q k d)) (first | exact ⟨a0, a1⟩ | exact ⟨cell_other (cell_other a0 (by dsimp only; omega)) (by dsimp only; omega), cell_other (cell_other a1 (by dsimp only; omega)) (by dsimp only; omega)⟩) (first | (go_simp; go_at_call 37; refine (l1Once_any _ _ _ _ _ _ _ hn hDd (by omega) (by omega)).mono ?_; rintro e w4 ⟨t, rfl, hD4⟩; have kR4 := kRd.within hD4.2 (.inr (by omega)); have kr4 := krd.within hD4.2 (.inl (by omega)); have hown4 := hownd.within hD4.2 (.inr (by omega)); have hT4 := hD4.frame hTd (by omega); obtain ⟨b, hb0, hb1, hb⟩ := l1Bit_some t; obtain ⟨m', hm', hm5⟩ : ∃ m' : Nat, max 1 (z + b) = (m' : Int) ∧ m' ≤ 5 := ⟨(max 1 (z + b)).toNat, by omega, by omega⟩; have hmax : ∀ W : World, Calls Tryz.prog 39 #[.int .i64 1, .int .i64 (IntKind.i64.wrap (z + b))] W fun e w' => e = .returned (.int .i64 (m' : Int)) ∧ W = w' := (fun W => by rw [wrapEq, wrap64_id (by omega) (by omega), ← hm']; exact l1Max_any _ _ _); clear hm'; replace a0 := kR4.c0; replace a1 := kR4.c1; have hs4 := hD4.2.size) | (go_simp; go_at_call 55; with_reducible refine (hb _).mono ?_; rintro e w' ⟨rfl, rfl⟩) | (go_simp; go_at_call 39; with_reducible refine (hmax _).mono ?_; rintro e w' ⟨rfl, rfl⟩) | (go_simp; go_at_call 54; refine (l2Draw_any _ _ _ _ m' _ _ _ hn hD4.1 (by omega) (by omega) (by omega)).mono ?_; rintro e w5 ⟨q5, d5, ys, rfl, ho5, hy4, hD5⟩; have kR5 := kR4.within hD5.2 (.inr (by omega)); have kr5 := kr4.within hD5.2 (.inl (by omega)); replace a0 := kR5.c0; replace a1 := kR5.c1; have r0 := kr5.c0; have r1 := kr5.c1; have f0 := kr5.fr 0; have f1 := kr5.fr 1))
  all_goals
    rw [World.size_drew] at hs4
    have hown5 := hown4.within hD5.2 (.inr (by omega))
    have hT5 := hD5.frame hT4 (by omega)
    have hs5 := hD5.2.size
    have kf := (kr5.set0 (.int .i64 z)).set1 (.slice q k d)
    have kf0 := kf.c0
    have kf1 := kf.c1
    go_wp2_with fail
    refine bodyPost_ret (v := .tuple #[.agg #[.int .i64 z, .slice q k d], .slice q5 m' d5]) (by simp [results, Tryz.results16, go_sem, kf0, kf1]) rfl ?_
    exact ⟨_, _, _, _, _, _, _, _, _, rfl, ((hown5.setBelow (a := ⟨_, _, none⟩) (by dsimp only; omega) _).setBelow (a := ⟨_, _, none⟩) (by dsimp only; omega) _).up.widen (by omega) (Nat.le_refl _), hz0, hz1, hk, hln, ((ho5.setBelow (a := ⟨_, _, none⟩) (by dsimp only; omega) _).setBelow (a := ⟨_, _, none⟩) (by dsimp only; omega) _).up.widen (by omega) (Nat.le_refl _), hm5, Lib.hid hy4, (hT5.setCell (p := ⟨_, _, none⟩) (by dsimp only; omega) _).setCell (p := ⟨_, _, none⟩) (by dsimp only; omega) _⟩


theorem drawMove_any (p : Option Addr) (n c : Nat) (xs : List Int) (w : World) (hn : n ≤ 1048576) (hx : BytesZ w p n xs) :
    Calls Tryz.prog 5 #[.slice p n c] w (ReadRV4 w) := by
  have hB := boxed w (.cells #[.int .i64 0, .slice none 0 0] 26)
  have kr := Box2.new w (.int .i64 0) (.slice none 0 0) 26
  have hs0 : (w.alloc (.cells #[.int .i64 0, .slice none 0 0] 26)).heap.size = w.heap.size + 1 := by simp
  have hx0 := hx.below hB
  go_enter Tryz.func5, Tryz.ntmps5
  go_wp2_with fail
  generalize w.alloc (.cells #[.int .i64 0, .slice none 0 0] 26) = W0 at *
  refine (drawHas4_any _ _ _ _ _ hn hx0).mono ?_
  rintro e w1 ⟨z, q, k, d, hs, q', m, d', ys, rfl, hp, hz0, hz1, hk, hln, hy, hm, hy4, hb1⟩
  have hT1 := Below.step hB hb1
  have kr1 := kr.below hb1
  have hBR := boxed w1 (.cells #[.int .i64 z, .slice q k d] 26)
  have kR := Box2.new w1 (.int .i64 z) (.slice q k d) 26
  have krV := kr1.below hBR
  have hpV := hp.below hBR
  have hyV := hy.below hBR
  have hTV := Below.step hT1 hBR
  have a0 := kR.c0
  have a1 := kR.c1
  have r0 := krV.c0
  have r1 := krV.c1
  have f0 := krV.fr 0
  have f1 := krV.fr 1
  have kf := (krV.set0 (.int .i64 z)).set1 (.slice q k d)
  have kf0 := kf.c0
  have kf1 := kf.c1
  have hsV := hBR.size
  have hs1 := hb1.size
  go_wp2_with fail
  refine bodyPost_ret (v := .tuple #[.agg #[.int .i64 z, .slice q k d], .slice q' m d']) (by simp [results, Tryz.results5, go_sem, kf0, kf1]) rfl ?_
  exact ⟨_, _, _, _, _, _, _, _, _, rfl, ((hpV.setBelow (a := ⟨_, _, none⟩) (by dsimp only; omega) _).setBelow (a := ⟨_, _, none⟩) (by dsimp only; omega) _).up.widen (by omega) (Nat.le_refl _), hz0, hz1, hk, hln, ((hyV.setBelow (a := ⟨_, _, none⟩) (by dsimp only; omega) _).setBelow (a := ⟨_, _, none⟩) (by dsimp only; omega) _).up.widen (by omega) (Nat.le_refl _), hm, hy4, (hTV.setCell (p := ⟨_, _, none⟩) (by dsimp only; omega) _).setCell (p := ⟨_, _, none⟩) (by dsimp only; omega) _⟩


theorem tot_small {hs : List Pr} {k : Nat} (hl : hs.length = k) (hk : k ≤ 6) (h : ∀ j, j < k → (nrm hs j).length ≤ 3) : totH hs ≤ 1048576 := by
  have key : ∀ (xss : List (List Int)), (∀ r ∈ xss, r.length ≤ 3) → tot xss ≤ 3 * xss.length := by
    intro xss
    induction xss with
    | nil => intro _; simp [tot]
    | cons x r ih =>
      intro hh
      have h1 := ih fun y hy => hh y (by simp [hy])
      have h2 := hh x (by simp)
      simp only [tot, List.map_cons, List.sum_cons, List.length_cons] at *
      omega
  have h1 := key (nrms hs) fun r hr => by
    rw [nrms, List.mem_map] at hr
    obtain ⟨x, hx, rfl⟩ := hr
    obtain ⟨j, hj, rfl⟩ := List.getElem_of_mem hx
    have := h j (by omega)
    rw [nrm, prAt_eq hj] at this
    exact this
  rw [nrms_length] at h1
  unfold totH
  omega

set_option maxHeartbeats 8000000 in
theorem drawEqual_any (p : Option Addr) (n c : Nat) (xs : List Int) (w : World) (hn : n ≤ 1048576) (hx : BytesZ w p n xs) :
    Calls Tryz.prog 11 #[.slice p n c] w (ReadRR w) := by
  have hB1 := boxed w (.cells #[.int .i64 0, .slice none 0 0] 26)
  have hB2 := boxed (w.alloc (.cells #[.int .i64 0, .slice none 0 0] 26)) (.cells #[.int .i64 0, .slice none 0 0] 26)
  have hB := Below.step hB1 hB2
  have kr := (Box2.new w (.int .i64 0) (.slice none 0 0) 26).below hB2
  have ks := Box2.new (w.alloc (.cells #[.int .i64 0, .slice none 0 0] 26)) (.int .i64 0) (.slice none 0 0) 26
  have hs0 : ((w.alloc (.cells #[.int .i64 0, .slice none 0 0] 26)).alloc (.cells #[.int .i64 0, .slice none 0 0] 26)).heap.size = w.heap.size + 2 := by simp
  have hss : (w.alloc (.cells #[.int .i64 0, .slice none 0 0] 26)).heap.size = w.heap.size + 1 := by simp
  rw [hss] at ks
  have hx0 := hx.below hB
  clear hB1 hB2 hss
  go_enter Tryz.func11, Tryz.ntmps11
  go_wp2_with fail
  generalize (w.alloc (.cells #[.int .i64 0, .slice none 0 0] 26)).alloc (.cells #[.int .i64 0, .slice none 0 0] 26) = W0 at *
  refine (l1New_any _ _ _ _ _ hn hx0).mono ?_
  rintro e w1 ⟨g, rfl, hg, hC, hb1⟩
  have hgl := hC.lt
  have kr1 := kr.below hb1
  have ks1 := ks.below hb1
  have hs1 := hb1.size
  go_wp2_with fail
  refine (l4Bent_any _ _ _ _ _ _ hn hC).mono ?_
  rintro e w2 ⟨z, q, k, d, hs, rfl, hown, hz0, hz1, hk, hln, hD⟩
  have kr2 := kr1.within hD.2 (.inl (by omega))
  have ks2 := ks1.within hD.2 (.inl (by omega))
  have hT := hD.frame (Below.step hB hb1) (by omega)
  have hs2 := hD.2.size
  have hBR := boxed w2 (.cells #[.int .i64 z, .slice q k d] 26)
  have kR := Box2.new w2 (.int .i64 z) (.slice q k d) 26
  have hownV := hown.below hBR
  have krV := kr2.below hBR
  have ksV := ks2.below hBR
  have hDV := hD.1.below hBR
  have hTV := Below.step hT hBR
  have hsV : (w2.alloc (.cells #[.int .i64 z, .slice q k d] 26)).heap.size = w2.heap.size + 1 := by simp
  have hsV := Nat.le_of_eq hsV.symm
  clear kr1 ks1 kr2 ks2 hT hown hBR hD hC kr ks
  go_wp2_with fail
  generalize w2.alloc (.cells #[.int .i64 z, .slice q k d] 26) = V at *
  generalize w2.heap.size = R at *
  refine (l1Once_any _ _ _ _ _ _ _ hn hDV (by omega) (by omega)).mono ?_
  rintro e V4 ⟨t, rfl, hD4⟩
  have kr4 := krV.within hD4.2 (.inl (by omega))
  have ks4 := ksV.within hD4.2 (.inl (by omega))
  have kR4 := kR.within hD4.2 (.inr (by omega))
  have hown4 := hownV.within hD4.2 (.inr (by omega))
  have hT4 := hD4.frame hTV (by omega)
  have hs4 := hD4.2.size
  clear krV ksV kR hownV hTV
  cases t
  ·
    have kRd := kR4.drew
    have krd := kr4.drew
    have ksd := ks4.drew
    have hownd := hown4.below (drewBelow V4)
    have hDd := hD4.1.below (drewBelow V4)
    have hTd := Below.step hT4 (drewBelow V4)
    have hsd : V4.drew.heap.size = V4.heap.size := World.size_drew V4
    have a0 := kR4.c0
    have a1 := kR4.c1
    go_wp2_with fail
    go_region_held3 (fun w' => w'.cell? ⟨R, 0, none⟩ = some (.int .i64 z) ∧ w'.cell? ⟨R, 1, none⟩ = some (.slice q k d)) (first | exact ⟨a0, a1⟩ | exact ⟨cell_other (cell_other a0 (by dsimp only; omega)) (by dsimp only; omega), cell_other (cell_other a1 (by dsimp only; omega)) (by dsimp only; omega)⟩ | exact ⟨cell_other (cell_other (cell_other (cell_other a0 (by dsimp only; omega)) (by dsimp only; omega)) (by dsimp only; omega)) (by dsimp only; omega), cell_other (cell_other (cell_other (cell_other a1 (by dsimp only; omega)) (by dsimp only; omega)) (by dsimp only; omega)) (by dsimp only; omega)⟩) (first | (go_simp; go_at_call 36; refine (l4Bent_any _ _ _ _ _ _ hn hDd).mono ?_; rintro e w5 ⟨z5, q5, k5, d5, us5, rfl, ho5, _, _, hk5, _, hD5⟩; have kR5 := kRd.within hD5.2 (.inr (by omega)); have kr5 := krd.within hD5.2 (.inl (by omega)); have ks5 := ksd.within hD5.2 (.inl (by omega)); replace a0 := kR5.c0; replace a1 := kR5.c1; have r0 := kr5.c0; have r1 := kr5.c1; have f0 := kr5.fr 0; have f1 := kr5.fr 1; have t0 := ks5.c0; have t1 := ks5.c1; have g0 := ks5.fr 0; have g1 := ks5.fr 1))
    all_goals
      have hs5 := hD5.2.size
      have hown5 := hownd.within hD5.2 (.inr (by omega))
      have hT5 := hD5.frame hTd (by omega)
      have kf := (((kr5.set0 (.int .i64 z)).set1 (.slice q k d)).other (a := ⟨w.heap.size + 1, 0, none⟩) (.int .i64 z5) (by dsimp only; omega)).other (a := ⟨w.heap.size + 1, 1, none⟩) (.slice q5 k5 d5) (by dsimp only; omega)
      have kg := (((ks5.other (a := ⟨w.heap.size, 0, none⟩) (.int .i64 z) (by dsimp only; omega)).other (a := ⟨w.heap.size, 1, none⟩) (.slice q k d) (by dsimp only; omega)).set0 (.int .i64 z5)).set1 (.slice q5 k5 d5)
      have kf0 := kf.c0
      have kf1 := kf.c1
      have kg0 := kg.c0
      have kg1 := kg.c1
      go_wp2_with fail
      refine bodyPost_ret (v := .tuple #[.agg #[.int .i64 z, .slice q k d], .agg #[.int .i64 z5, .slice q5 k5 d5]]) (by simp [results, Tryz.results11, go_sem, kf0, kf1, kg0, kg1]) rfl ?_
      exact ⟨_, _, _, _, _, _, _, _, _, _, rfl, ((((hown5.setBelow (a := ⟨_, _, none⟩) (by dsimp only; omega) _).setBelow (a := ⟨_, _, none⟩) (by dsimp only; omega) _).setBelow (a := ⟨_, _, none⟩) (by dsimp only; omega) _).setBelow (a := ⟨_, _, none⟩) (by dsimp only; omega) _).rd, hk, ((((ho5.setBelow (a := ⟨_, _, none⟩) (by dsimp only; omega) _).setBelow (a := ⟨_, _, none⟩) (by dsimp only; omega) _).setBelow (a := ⟨_, _, none⟩) (by dsimp only; omega) _).setBelow (a := ⟨_, _, none⟩) (by dsimp only; omega) _).rd, hk5, (((hT5.setCell (p := ⟨_, _, none⟩) (by dsimp only; omega) _).setCell (p := ⟨_, _, none⟩) (by dsimp only; omega) _).setCell (p := ⟨_, _, none⟩) (by dsimp only; omega) _).setCell (p := ⟨_, _, none⟩) (by dsimp only; omega) _⟩
  ·
    have kRd := kR4.drew
    have krd := kr4.drew
    have ksd := ks4.drew
    have hownd := hown4.below (drewBelow V4)
    have hDd := hD4.1.below (drewBelow V4)
    have hTd := Below.step hT4 (drewBelow V4)
    have hsd : V4.drew.heap.size = V4.heap.size := World.size_drew V4
    have a0 := kR4.c0
    have a1 := kR4.c1
    have hlnn := hln.out
    have hlen0 := hown4.len
    have htot : Hid (totH hs ≤ 1048576) := Lib.hid (tot_small hlen0 hk hlnn)
    clear hlnn hlen0
    go_wp2_with fail
    go_region_held3 (fun w' => w'.cell? ⟨R, 0, none⟩ = some (.int .i64 z) ∧ w'.cell? ⟨R, 1, none⟩ = some (.slice q k d)) (first | exact ⟨a0, a1⟩ | exact ⟨cell_other (cell_other a0 (by dsimp only; omega)) (by dsimp only; omega), cell_other (cell_other a1 (by dsimp only; omega)) (by dsimp only; omega)⟩ | exact ⟨cell_other (cell_other (cell_other (cell_other a0 (by dsimp only; omega)) (by dsimp only; omega)) (by dsimp only; omega)) (by dsimp only; omega), cell_other (cell_other (cell_other (cell_other a1 (by dsimp only; omega)) (by dsimp only; omega)) (by dsimp only; omega)) (by dsimp only; omega)⟩) (first | (go_simp; go_at_call 33; (with_reducible refine (l4Copy_any _ _ _ _ _ _ (by omega) hownd.rd htot.out).mono ?_); rintro e w5 ⟨q5, d5, rfl, ho5, hb5⟩; have kR5 := kRd.below hb5; have kr5 := krd.below hb5; have ks5 := ksd.below hb5; replace a0 := kR5.c0; replace a1 := kR5.c1; have r0 := kr5.c0; have r1 := kr5.c1; have f0 := kr5.fr 0; have f1 := kr5.fr 1; have t0 := ks5.c0; have t1 := ks5.c1; have g0 := ks5.fr 0; have g1 := ks5.fr 1))
    all_goals
      have hs5 := hb5.size
      have hown5 := hownd.below hb5
      have hT5 := Below.step hTd hb5
      have kf := (((kr5.set0 (.int .i64 z)).set1 (.slice q k d)).other (a := ⟨w.heap.size + 1, 0, none⟩) (.int .i64 z) (by dsimp only; omega)).other (a := ⟨w.heap.size + 1, 1, none⟩) (.slice q5 k d5) (by dsimp only; omega)
      have kg := (((ks5.other (a := ⟨w.heap.size, 0, none⟩) (.int .i64 z) (by dsimp only; omega)).other (a := ⟨w.heap.size, 1, none⟩) (.slice q k d) (by dsimp only; omega)).set0 (.int .i64 z)).set1 (.slice q5 k d5)
      have kf0 := kf.c0
      have kf1 := kf.c1
      have kg0 := kg.c0
      have kg1 := kg.c1
      go_wp2_with fail
      refine bodyPost_ret (v := .tuple #[.agg #[.int .i64 z, .slice q k d], .agg #[.int .i64 z, .slice q5 k d5]]) (by simp [results, Tryz.results11, go_sem, kf0, kf1, kg0, kg1]) rfl ?_
      exact ⟨_, _, _, _, _, _, _, _, _, _, rfl, ((((hown5.setBelow (a := ⟨_, _, none⟩) (by dsimp only; omega) _).setBelow (a := ⟨_, _, none⟩) (by dsimp only; omega) _).setBelow (a := ⟨_, _, none⟩) (by dsimp only; omega) _).setBelow (a := ⟨_, _, none⟩) (by dsimp only; omega) _).rd, hk, ((((ho5.setBelow (a := ⟨_, _, none⟩) (by dsimp only; omega) _).setBelow (a := ⟨_, _, none⟩) (by dsimp only; omega) _).setBelow (a := ⟨_, _, none⟩) (by dsimp only; omega) _).setBelow (a := ⟨_, _, none⟩) (by dsimp only; omega) _).rd, hk, (((hT5.setCell (p := ⟨_, _, none⟩) (by dsimp only; omega) _).setCell (p := ⟨_, _, none⟩) (by dsimp only; omega) _).setCell (p := ⟨_, _, none⟩) (by dsimp only; omega) _).setCell (p := ⟨_, _, none⟩) (by dsimp only; omega) _⟩

end Go.Proofs.YtpfklkmmhdpphadGreatDoor
