/- The reference's draws of vectors: what a great law reads. Conditions: sizes. -/
import Derived.Test.YteamihmolpaoeaaGreatDoorVecDraw2
import Derived.Test.YteamihmolpaoeaaGreatDoorTexts
namespace Go.Proofs.YteamihmolpaoeaaGreatDoor
open Go.RowKit
set_option linter.unusedVariables false
set_option linter.unusedSimpArgs false
set_option maxRecDepth 100000

/-- A row that reads as five numbers at most. -/
def ReadRow (w : World) (e : Ending) (w' : World) : Prop := ∃ q m d ys, e = .returned (.slice q m d) ∧ Ints w' q m ys ∧ m ≤ 5 ∧ Below w.heap.size w w'
def ReadTwo (w : World) (e : Ending) (w' : World) : Prop := ∃ q m d ys q' m' d' ys', e = .returned (.tuple #[.slice q m d, .slice q' m' d']) ∧ Ints w' q m ys ∧ m ≤ 5 ∧ Ints w' q' m' ys' ∧ m' ≤ 5 ∧ Below w.heap.size w w'

theorem drawGcd_any (p : Option Addr) (n c : Nat) (xs : List Int) (w : World) (hn : n ≤ 1048576) (hx : BytesZ w p n xs) :
    Calls Tryz.prog 5 #[.slice p n c] w (ReadRow w) := by
  go_enter Tryz.func5, Tryz.ntmps5
  go_wp2_with fail
  refine (l1New_any _ _ _ _ _ hn hx).mono ?_
  rintro e w1 ⟨g, rfl, hg, hC, hb1⟩
  have hgl := hC.lt
  go_wp2_with fail
  refine (l2Bent_any _ _ _ _ _ _ hn hC).mono ?_
  rintro e w2 ⟨q, m, d, ys, rfl, hown, hm, hD⟩
  have hT2 := hD.frame hb1 hg
  cases hr : allR ys (-6) 6
  · go_wp2_with (go_at_call 32; (with_reducible refine (l2Small_any _ _ _ _ _ _ hown.ints (by omega) (by omega) (by omega)).mono ?_); rintro e w' ⟨rfl, rfl⟩)
    go_ret
    exact ⟨_, _, _, _, rfl, hown.ints, hm, hT2⟩
  · go_wp2_with (go_at_call 32; (with_reducible refine (l2Small_any _ _ _ _ _ _ hown.ints (by omega) (by omega) (by omega)).mono ?_); rintro e w' ⟨rfl, rfl⟩)
    refine (l1Below_any _ _ _ _ _ _ _ hn hD.1 (by omega) (by omega)).mono ?_
    rintro e w3 ⟨x, rfl, hx0, hx1, hD3⟩
    have hT3 := hD3.frame hT2 hg
    have hown3 := hown.within hD3.2 (.inr (by omega))
    go_wp2_with fail
    refine (l2Scale_any _ _ _ _ _ _ (by omega) hown3.ints).mono ?_
    rintro e w4 ⟨q4, d4, rfl, ho4, hb4⟩
    go_wp2_with fail
    go_ret
    exact ⟨_, _, _, _, rfl, ho4.ints, hm, Below.step hT3 hb4⟩

set_option maxHeartbeats 1000000 in
theorem l2Two_any (p : Option Addr) (n c : Nat) (xs : List Int) (w : World) (hn : n ≤ 1048576) (hx : BytesZ w p n xs) :
    Calls Tryz.prog 38 #[.slice p n c] w (ReadTwo w) := by
  go_enter Tryz.func38, Tryz.ntmps38
  go_wp2_with fail
  refine (l1New_any _ _ _ _ _ hn hx).mono ?_
  rintro e w1 ⟨g, rfl, hg, hC, hb1⟩
  have hgl := hC.lt
  go_wp2_with fail
  refine (l2Bent_any _ _ _ _ _ _ hn hC).mono ?_
  rintro e w2 ⟨q, m, d, ys, rfl, hown, hm, hD⟩
  have hT2 := hD.frame hb1 hg
  go_wp2_with fail
  refine (l1Once_any _ _ _ _ _ _ _ hn hD.1 (by omega) (by omega)).mono ?_
  rintro e w3 ⟨t, rfl, hD3⟩
  have hT3 := hD3.frame hT2 hg
  have hown3 := hown.within hD3.2 (.inr (by omega))
  cases t
  · go_wp2_with fail
    refine (l2Draw_i _ _ _ _ m _ _ _ _ rfl hn hD3.1 (by omega) (by omega) (by omega)).mono ?_
    rintro e w4 ⟨q4, d4, zs, rfl, ho4, _, hD4⟩
    have hown4 := hown3.within hD4.2 (.inr (by omega))
    go_wp2_with fail
    go_ret2
    exact ⟨_, _, _, _, _, _, _, _, rfl, hown4.ints, hm, ho4.ints, hm, hD4.frame hT3 hg⟩
  · go_wp2_with fail
    refine (l2Bent_any _ _ _ _ _ _ hn hD3.1).mono ?_
    rintro e w4 ⟨q4, m4, d4, zs, rfl, ho4, hm4, hD4⟩
    have hown4 := hown3.within hD4.2 (.inr (by omega))
    go_wp2_with fail
    go_ret2
    exact ⟨_, _, _, _, _, _, _, _, rfl, hown4.ints, hm, ho4.ints, hm4, hD4.frame hT3 hg⟩

theorem drawAdd_any (p : Option Addr) (n c : Nat) (xs : List Int) (w : World) (hn : n ≤ 1048576) (hx : BytesZ w p n xs) :
    Calls Tryz.prog 9 #[.slice p n c] w (ReadTwo w) := by
  go_enter Tryz.func9, Tryz.ntmps9
  go_wp2_with fail
  refine (l2Two_any _ _ _ _ _ hn hx).mono ?_
  rintro e w1 ⟨q, m, d, ys, q', m', d', ys', rfl, h1, h2, h3, h4, h5⟩
  go_wp2_with fail
  go_ret2
  exact ⟨_, _, _, _, _, _, _, _, rfl, h1, h2, h3, h4, h5⟩

def scaleL : List Int := [0, 1, -1, 2, 3, 200, -1000, 1001]
theorem drawScale_any (p : Option Addr) (n c : Nat) (xs : List Int) (w : World) (hn : n ≤ 1048576) (hx : BytesZ w p n xs) :
    Calls Tryz.prog 12 #[.slice p n c] w fun e w' => ∃ q m d ys u, e = .returned (.tuple #[.slice q m d, .int .i64 u]) ∧ Ints w' q m ys ∧ m ≤ 5 ∧ Below w.heap.size w w' := by
  go_enter Tryz.func12, Tryz.ntmps12
  go_wp2_with fail
  refine (l1New_any _ _ _ _ _ hn hx).mono ?_
  rintro e w1 ⟨g, rfl, hg, hC, hb1⟩
  have hgl := hC.lt
  go_wp2_with fail
  refine (l2Bent_any _ _ _ _ _ _ hn hC).mono ?_
  rintro e w2 ⟨q, m, d, ys, rfl, hown, hm, hD⟩
  have hT2 := hD.frame hb1 hg
  have hgl2 := hD.1.lt
  go_wp2_with fail
  have hB := boxed w2 (.cells #[.int .i64 0, .int .i64 1, .int .i64 (-1), .int .i64 2, .int .i64 3, .int .i64 200, .int .i64 (-1000), .int .i64 1001] 3)
  have hi : Ints (w2.alloc (.cells #[.int .i64 0, .int .i64 1, .int .i64 (-1), .int .i64 2, .int .i64 3, .int .i64 200, .int .i64 (-1000), .int .i64 1001] 3)) (some ⟨w2.heap.size, 0, none⟩) 8 scaleL := ⟨rfl, fun k hk => ⟨_, _, rfl, by
    rw [Nat.zero_add]
    match k, hk with
    | 0, _ => exact (cellsNew _ _ _ _).trans rfl
    | 1, _ => exact (cellsNew _ _ _ _).trans rfl
    | 2, _ => exact (cellsNew _ _ _ _).trans rfl
    | 3, _ => exact (cellsNew _ _ _ _).trans rfl
    | 4, _ => exact (cellsNew _ _ _ _).trans rfl
    | 5, _ => exact (cellsNew _ _ _ _).trans rfl
    | 6, _ => exact (cellsNew _ _ _ _).trans rfl
    | 7, _ => exact (cellsNew _ _ _ _).trans rfl⟩⟩
  have hT3 := Below.step hT2 hB
  refine (l1PickInt_any g w2.heap.size _ _ _ 8 8 _ scaleL _ hn (hD.1.below hB) (by omega) (by omega) hi (by omega)).mono ?_
  clear hi
  rintro e w5 ⟨j, hj, rfl, hD7⟩
  have hown5 := (hown.below hB).within hD7.2 (.inr (by omega))
  generalize nth scaleL j = u at *
  go_wp2_with fail
  go_ret2
  exact ⟨_, _, _, _, u, rfl, hown5.ints, hm, hD7.frame hT3 hg⟩

theorem Own.setBelow2 {w : World} {lo hi : Nat} {p : Option Addr} {n c k b : Nat} {xs : List Int} (h : Own w lo hi p n c xs) (hb : hi ≤ b) (u : Value) : Own (w.setCell ⟨b, k, none⟩ u) lo hi p n c xs :=
  h.within (lo' := b) (hi' := b + 1) ((Within.refl b (b + 1) w).setCell (p := ⟨b, k, none⟩) (Nat.le_refl _) (Nat.lt_succ_self _) u) (.inl hb)

set_option maxHeartbeats 2000000 in
theorem drawBefore_any (p : Option Addr) (n c : Nat) (xs : List Int) (w : World) (hn : n ≤ 1048576) (hx : BytesZ w p n xs) :
    Calls Tryz.prog 15 #[.slice p n c] w (ReadTwo w) := by
  go_enter Tryz.func15, Tryz.ntmps15
  go_wp2_with fail
  refine (l1New_any _ _ _ _ _ hn hx).mono ?_
  rintro e w1 ⟨g, rfl, hg, hC, hb1⟩
  have hgl := hC.lt
  go_wp2_with fail
  refine (l2Bent_any _ _ _ _ _ _ hn hC).mono ?_
  rintro e w2 ⟨q, m, d, ys, rfl, hown, hm, hD⟩
  have hT2 := hD.frame hb1 hg
  have hE := Own.empty w2
  have hB := boxed w2 (.cells #[] 3)
  have hB1 := hown.below hB
  have hgl2 := hD.1.lt
  have hs2 := hD.2.size
  rcases Nat.eq_zero_or_pos m with rfl | hmp
  · go_wp2_with (at_builtin; refine append_ints rfl _ _ rfl _ w2.heap.size _ _ _ _ _ rfl hE _ _ _ _ rfl hB1.ints (by omega) (by simp) ?_; intro p' c' w3 hown3 hg3)
    have hb3 : Below w2.heap.size w2 w3 := hB.trans (hg3.below (by simp) fun a ha => (hE.lt a ha).1)
    have hT9 := Below.step hT2 hb3
    have hC9 := (hD.step (Drawn1.new hD.1 hb3)).1
    have ha9 := hown.below hb3
    rw [List.nil_append] at hown3
    have hb9 : Own w3 w2.heap.size w3.heap.size p' 0 c' ys := hown3
    refine (l1Once_any _ _ _ _ _ _ _ hn hC9 (by omega) (by omega)).mono ?_
    rintro e w10 ⟨t9, rfl, hD10⟩
    have hT10 := hD10.frame hT9 hg
    have ha10 := ha9.within hD10.2 (.inr (by omega))
    have hb10 := hb9.within hD10.2 (.inr (by omega))
    cases t9
    · go_wp2_with fail
      go_ret2
      exact ⟨_, _, _, _, _, _, _, _, rfl, ha10.ints, hm, hb10.ints, hm, hT10⟩
    · go_wp2_with fail
      refine (l2Bent_any _ _ _ _ _ _ hn hD10.1).mono ?_
      rintro e w11 ⟨q4, m4, d4, zs4, rfl, ho4, hm4, hD11⟩
      have ha11 := ha10.within hD11.2 (.inr (by omega))
      go_wp2_with fail
      go_ret2
      exact ⟨_, _, _, _, _, _, _, _, rfl, ha11.ints, hm, ho4.ints, hm4, hD11.frame hT10 hg⟩
  · have hdm : decide (0 < (m : Int)) = true := by simp; omega
    go_wp2_with (at_builtin; refine append_ints rfl _ _ rfl _ w2.heap.size _ _ _ _ _ rfl hE _ _ _ _ rfl hB1.ints (by omega) (by simp) ?_; intro p' c' w3 hown3 hg3; simp only [Nat.zero_add] at hown3 ⊢)
    have hb3 : Below w2.heap.size w2 w3 := hB.trans (hg3.below (by simp) fun a ha => (hE.lt a ha).1)
    have hT3 := Below.step hT2 hb3
    have hC3 := (hD.step (Drawn1.new hD.1 hb3)).1
    have ha3 := hown.below hb3
    rw [List.nil_append] at hown3
    obtain ⟨bb, rfl⟩ := hown3.some_S (by omega)
    have hbl := (hown3.lt _ rfl).1
    refine (l1Once_any _ _ _ _ _ _ _ hn hC3 (by omega) (by omega)).mono ?_
    rintro e w4 ⟨t4, rfl, hD4⟩
    have hT4 := hD4.frame hT3 hg
    have ha4 := ha3.within hD4.2 (.inr (by omega))
    have hb4 := (hown3.within hD4.2 (.inr (by omega))).up
    clear hown3
    cases t4
    · have hT9 := hT4
      have hC9 := hD4.1
      have ha9 := ha4
      have hb9 := hb4
      go_wp2_with fail
      refine (l1Once_any _ _ _ _ _ _ _ hn hC9 (by omega) (by omega)).mono ?_
      rintro e w10 ⟨t9, rfl, hD10⟩
      have hT10 := hD10.frame hT9 hg
      have ha10 := ha9.within hD10.2 (.inr (by omega))
      have hb10 := hb9.within hD10.2 (.inr (by omega))
      cases t9
      · go_wp2_with fail
        go_ret2
        exact ⟨_, _, _, _, _, _, _, _, rfl, ha10.ints, hm, hb10.ints, hm, hT10⟩
      · go_wp2_with fail
        refine (l2Bent_any _ _ _ _ _ _ hn hD10.1).mono ?_
        rintro e w11 ⟨q4, m4, d4, zs4, rfl, ho4, hm4, hD11⟩
        have ha11 := ha10.within hD11.2 (.inr (by omega))
        go_wp2_with fail
        go_ret2
        exact ⟨_, _, _, _, _, _, _, _, rfl, ha11.ints, hm, ho4.ints, hm4, hD11.frame hT10 hg⟩
    · obtain ⟨k, rfl⟩ : ∃ k, m = k + 1 := ⟨m - 1, by omega⟩
      go_wp2_with fail
      refine (l1Below_any _ _ _ _ _ _ _ hn hD4.1 (by omega) (by omega)).mono ?_
      rintro e w5 ⟨x, rfl, hx0, hx1, hD5⟩
      have hT5 := hD5.frame hT4 hg
      have ha5 := ha4.within hD5.2 (.inr (by omega))
      have hb5 := (hb4.within hD5.2 (.inr (by omega))).up
      have hc5 := hb5.cell (k := k) (by omega)
      have hf5 := hb5.frozen k
      have hw1 : IntKind.i64.wrap ((k : Int) + 1 - 1) = (k : Int) := by rw [wrapEq, wrap64_id (by omega) (by omega)]; omega
      have hz1 : (0 : Int) ≤ (k : Int) := by omega
      have hz2 : (k : Int) < (k : Int) + 1 := by omega
      generalize nth ys k = u0 at *
      go_wp2_with fail
      have hb9 := (hb5.set k x).up
      have hC9 := hD5.1.low ((Below.refl w2.heap.size w5).setCell (p := ⟨bb, k, none⟩) hbl (.int .i64 x)) (by omega)
      have ha9 := ha5.setBelow2 hbl (.int .i64 x) (k := k)
      have hT9 : Below w.heap.size w (w5.setCell ⟨bb, k, none⟩ (.int .i64 x)) := hT5.setCell (p := ⟨bb, k, none⟩) (by dsimp only; have := hb1.size; omega) _
      refine (l1Once_any _ _ _ _ _ _ _ hn hC9 (by omega) (by omega)).mono ?_
      rintro e w10 ⟨t9, rfl, hD10⟩
      have hT10 := hD10.frame hT9 hg
      have ha10 := ha9.within hD10.2 (.inr (by omega))
      have hb10 := hb9.within hD10.2 (.inr (by omega))
      cases t9
      · go_wp2_with fail
        go_ret2
        exact ⟨_, _, _, _, _, _, _, _, rfl, ha10.ints, hm, hb10.ints, hm, hT10⟩
      · go_wp2_with fail
        refine (l2Bent_any _ _ _ _ _ _ hn hD10.1).mono ?_
        rintro e w11 ⟨q4, m4, d4, zs4, rfl, ho4, hm4, hD11⟩
        have ha11 := ha10.within hD11.2 (.inr (by omega))
        go_wp2_with fail
        go_ret2
        exact ⟨_, _, _, _, _, _, _, _, rfl, ha11.ints, hm, ho4.ints, hm4, hD11.frame hT10 hg⟩

end Go.Proofs.YteamihmolpaoeaaGreatDoor
