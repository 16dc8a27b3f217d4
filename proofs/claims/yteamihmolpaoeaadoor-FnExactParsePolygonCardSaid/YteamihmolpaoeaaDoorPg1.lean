/- Contracts of turns: the cross product of two lists of two numbers, differences, the turn at three points, in the program and in the reference. Conditions: lists of two numbers, bounds. -/
import Derived.Test.YteamihmolpaoeaaDoorPoly4
import Derived.Test.YteamihmolpaoeaaDoorMat
import Derived.Test.YteamihmolpaoeaaDoorWrap
import Derived.Test.YteamihmolpaoeaaDoorLess
import Derived.StillTailTactics
namespace Go.Proofs.YteamihmolpaoeaaDoor
open Go.RowKit
set_option linter.unusedVariables false
set_option linter.unusedSimpArgs false
set_option maxRecDepth 100000

def ptOf (x : List Int) : Pt := (nth x 0, nth x 1)
def turnZ (a b c : List Int) : Int := tn (ptOf a) (ptOf b) (ptOf c)
/-- A point of the plane within bounds. -/
structure PtIn (m : Int) (x : List Int) : Prop where
  len : x.length = 2
  x0 : -m ≤ nth x 0
  x1 : nth x 0 ≤ m
  y0 : -m ≤ nth x 1
  y1 : nth x 1 ≤ m
theorem PtIn.wide {m m' : Int} {x : List Int} (h : PtIn m x) (hm : m ≤ m') : PtIn m' x := ⟨h.len, by have := h.x0; omega, by have := h.x1; omega, by have := h.y0; omega, by have := h.y1; omega⟩
theorem mulIn {a b : Int} {m : Int} (hm : 0 ≤ m) (a0 : -m ≤ a) (a1 : a ≤ m) (b0 : -m ≤ b) (b1 : b ≤ m) : -(m * m) ≤ a * b ∧ a * b ≤ m * m := by
  have h : (a * b).natAbs ≤ (m * m).natAbs := by
    rw [Int.natAbs_mul, Int.natAbs_mul]
    exact Nat.mul_le_mul (by omega) (by omega)
  have h2 : 0 ≤ m * m := Int.mul_nonneg hm hm
  omega

theorem cross_any (p q : Option Addr) (c d : Nat) (xs ys : List Int) (w : World) (hx : Ints w p 2 xs) (hy : Ints w q 2 ys) (bx : PtIn 4000 xs) (by_ : PtIn 4000 ys) :
    Calls Tryd.prog 65 #[.slice p 2 c, .slice q 2 d] w fun e w' => e = .returned (.int .i64 (cr (ptOf xs) (ptOf ys))) ∧ ∃ z, w' = w.drewN z := by
  obtain ⟨b, o, rfl, hc0⟩ := hx.cell 0 (by omega)
  obtain ⟨b', o', e', hc1⟩ := hx.cell 1 (by omega)
  injection e' with e'; injection e' with e1 e2
  subst e1; subst e2
  obtain ⟨g, u, rfl, hd0⟩ := hy.cell 0 (by omega)
  obtain ⟨g', u', e', hd1⟩ := hy.cell 1 (by omega)
  injection e' with e'; injection e' with e1 e2
  subst e1; subst e2
  rw [Nat.add_zero] at hc0 hd0
  obtain ⟨_, a0, a1, a2, a3⟩ := bx
  obtain ⟨_, b0, b1, b2, b3⟩ := by_
  have hcr : cr (ptOf xs) (ptOf ys) = nth xs 0 * nth ys 1 - nth xs 1 * nth ys 0 := rfl
  have Hcr := Lib.hid hcr
  clear hcr
  generalize nth xs 0 = x0 at *
  generalize nth xs 1 = x1 at *
  generalize nth ys 0 = y0 at *
  generalize nth ys 1 = y1 at *
  obtain ⟨m1, m2⟩ := mulIn (m := 4000) (by omega) a0 a1 b2 b3
  obtain ⟨m3, m4⟩ := mulIn (m := 4000) (by omega) a2 a3 b0 b1
  generalize hA : x0 * y1 = A at *
  generalize hB : x1 * y0 = B at *
  have hw1 : wrap64 (x0 * y1) = A := by rw [hA]; exact wrap64_id (by omega) (by omega)
  have hw2 : wrap64 (x1 * y0) = B := by rw [hB]; exact wrap64_id (by omega) (by omega)
  have hk1 : IntKind.i64.wrap (x0 * y1) = A := by rw [wrapEq, hw1]
  have hk2 : IntKind.i64.wrap (x1 * y0) = B := by rw [wrapEq, hw2]
  have hk3 : IntKind.i64.wrap (A - B) = A - B := by rw [wrapEq]; exact wrap64_id (by omega) (by omega)
  clear hA hB hw1 hw2
  go_enter Tryd.func65, Tryd.ntmps65
  go_wp2
  go_quiet (fail)
  go_wp2
  go_ret
  exact ⟨ret_int (by rw [Hcr.out]), _, rfl⟩

theorem specCross_any (p q : Option Addr) (c d : Nat) (xs ys : List Int) (w : World) (hx : Ints w p 2 xs) (hy : Ints w q 2 ys) (bx : PtIn 4000 xs) (by_ : PtIn 4000 ys) :
    Calls Tryd.prog 92 #[.slice p 2 c, .slice q 2 d] w fun e w' => e = .returned (.int .i64 (cr (ptOf xs) (ptOf ys))) ∧ ∃ z, w' = w.drewN z := by
  obtain ⟨b, o, rfl, hc0⟩ := hx.cell 0 (by omega)
  obtain ⟨b', o', e', hc1⟩ := hx.cell 1 (by omega)
  injection e' with e'; injection e' with e1 e2
  subst e1; subst e2
  obtain ⟨g, u, rfl, hd0⟩ := hy.cell 0 (by omega)
  obtain ⟨g', u', e', hd1⟩ := hy.cell 1 (by omega)
  injection e' with e'; injection e' with e1 e2
  subst e1; subst e2
  rw [Nat.add_zero] at hc0 hd0
  obtain ⟨_, a0, a1, a2, a3⟩ := bx
  obtain ⟨_, b0, b1, b2, b3⟩ := by_
  have hcr : cr (ptOf xs) (ptOf ys) = nth xs 0 * nth ys 1 - nth xs 1 * nth ys 0 := rfl
  have Hcr := Lib.hid hcr
  clear hcr
  generalize nth xs 0 = x0 at *
  generalize nth xs 1 = x1 at *
  generalize nth ys 0 = y0 at *
  generalize nth ys 1 = y1 at *
  obtain ⟨m1, m2⟩ := mulIn (m := 4000) (by omega) a0 a1 b2 b3
  obtain ⟨m3, m4⟩ := mulIn (m := 4000) (by omega) a2 a3 b0 b1
  generalize hA : x0 * y1 = A at *
  generalize hB : x1 * y0 = B at *
  have hw1 : wrap64 (x0 * y1) = A := by rw [hA]; exact wrap64_id (by omega) (by omega)
  have hw2 : wrap64 (x1 * y0) = B := by rw [hB]; exact wrap64_id (by omega) (by omega)
  have hk1 : IntKind.i64.wrap (x0 * y1) = A := by rw [wrapEq, hw1]
  have hk2 : IntKind.i64.wrap (x1 * y0) = B := by rw [wrapEq, hw2]
  have hk3 : IntKind.i64.wrap (A - B) = A - B := by rw [wrapEq]; exact wrap64_id (by omega) (by omega)
  clear hA hB hw1 hw2
  go_enter Tryd.func92, Tryd.ntmps92
  go_wp2
  go_quiet (fail)
  go_wp2
  go_ret
  exact ⟨ret_int (by rw [Hcr.out]), _, rfl⟩

/-- The difference of two points. -/
def minusL (xs ys : List Int) : List Int := [nth xs 0 - nth ys 0, nth xs 1 - nth ys 1]
theorem minus_in {m m' : Int} {xs ys : List Int} (bx : PtIn m xs) (by_ : PtIn m' ys) : PtIn (m + m') (minusL xs ys) := by
  obtain ⟨_, a0, a1, a2, a3⟩ := bx
  obtain ⟨_, b0, b1, b2, b3⟩ := by_
  exact ⟨rfl, (show -(m + m') ≤ nth xs 0 - nth ys 0 by omega), (show nth xs 0 - nth ys 0 ≤ m + m' by omega), (show -(m + m') ≤ nth xs 1 - nth ys 1 by omega), (show nth xs 1 - nth ys 1 ≤ m + m' by omega)⟩
theorem ptOf_minus (xs ys : List Int) : ptOf (minusL xs ys) = sb (ptOf xs) (ptOf ys) := rfl
theorem made2 (w : World) (a b : Int) : Own (w.alloc (.cells #[.int .i64 a, .int .i64 b] 3)) w.heap.size (w.heap.size + 1) (some ⟨w.heap.size, 0, none⟩) 2 2 [a, b] :=
  ⟨⟨rfl, .inr ⟨w.heap.size, 2, #[.int .i64 a, .int .i64 b], rfl, Nat.le_refl _, heap_alloc_new w _, Nat.le_refl _, by unfold maxLen; omega, rfl, rfl⟩⟩, fun a ha => by injection ha with ha; subst ha; exact Nat.lt_succ_self _⟩

theorem minus_any (p q : Option Addr) (c d : Nat) (xs ys : List Int) (w : World) (hx : Ints w p 2 xs) (hy : Ints w q 2 ys) (bx : PtIn 1000 xs) (by_ : PtIn 1000 ys) :
    Calls Tryd.prog 66 #[.slice p 2 c, .slice q 2 d] w (NewInts w 2 (minusL xs ys)) := by
  obtain ⟨b, o, rfl, hc0⟩ := hx.cell 0 (by omega)
  obtain ⟨b', o', e', hc1⟩ := hx.cell 1 (by omega)
  injection e' with e'; injection e' with e1 e2
  subst e1; subst e2
  obtain ⟨g, u, rfl, hd0⟩ := hy.cell 0 (by omega)
  obtain ⟨g', u', e', hd1⟩ := hy.cell 1 (by omega)
  injection e' with e'; injection e' with e1 e2
  subst e1; subst e2
  rw [Nat.add_zero] at hc0 hd0
  obtain ⟨_, a0, a1, a2, a3⟩ := bx
  obtain ⟨_, b0, b1, b2, b3⟩ := by_
  have hm : minusL xs ys = [nth xs 0 - nth ys 0, nth xs 1 - nth ys 1] := rfl
  have Hm := Lib.hid hm
  clear hm
  generalize nth xs 0 = x0 at *
  generalize nth xs 1 = x1 at *
  generalize nth ys 0 = y0 at *
  generalize nth ys 1 = y1 at *
  have hk1 : IntKind.i64.wrap (x0 - y0) = x0 - y0 := by rw [wrapEq]; exact wrap64_id (by omega) (by omega)
  have hk2 : IntKind.i64.wrap (x1 - y1) = x1 - y1 := by rw [wrapEq]; exact wrap64_id (by omega) (by omega)
  go_enter Tryd.func66, Tryd.ntmps66
  go_wp2
  go_still_tail 14, (by kernel_rfl)
  change wpList _ _ _ _ _ w.drew
  go_wp2
  go_ret
  refine ⟨_, _, rfl, ?_, ((Below.refl _ _).drew).alloc (Nat.le_refl _) _⟩
  rw [Hm.out]
  have := (made2 w.drew (x0 - y0) (x1 - y1)).up
  exact this

theorem turn_any (p q r : Option Addr) (c d f : Nat) (xs ys zs : List Int) (w : World) (hx : Ints w p 2 xs) (hy : Ints w q 2 ys) (hz : Ints w r 2 zs) (bx : PtIn 1000 xs) (by_ : PtIn 1000 ys) (bz : PtIn 1000 zs) :
    Calls Tryd.prog 49 #[.slice p 2 c, .slice q 2 d, .slice r 2 f] w fun e w' => e = .returned (.int .i64 (turnZ xs ys zs)) ∧ Below w.heap.size w w' := by
  have bq1 : PtIn 4000 (minusL ys xs) := (minus_in by_ bx).wide (by omega)
  have bq2 : PtIn 4000 (minusL zs xs) := (minus_in bz bx).wide (by omega)
  go_enter Tryd.func49, Tryd.ntmps49
  go_wp2_with fail
  refine (minus_any _ _ _ _ _ _ _ hy hx by_ bx).mono ?_
  rintro e w1 ⟨p1, c1, rfl, ho1, hb1⟩
  go_wp2_with fail
  refine (minus_any _ _ _ _ _ _ _ (hz.below hb1) (hx.below hb1) bz bx).mono ?_
  rintro e w2 ⟨p2, c2, rfl, ho2, hb2⟩
  have hT := Below.step hb1 hb2
  go_wp2_with fail
  refine (cross_any _ _ _ _ _ _ _ ((ho1.below hb2).ints) ho2.ints bq1 bq2).mono ?_
  rintro e w3 ⟨rfl, z, rfl⟩
  go_wp2_with fail
  go_ret
  exact ⟨rfl, Below.drawn hT z⟩

theorem less_minus {xs ys : List Int} (bx : PtIn 1000 xs) (by_ : PtIn 1000 ys) : lessW xs ys = minusL xs ys := by
  obtain ⟨l1, a0, a1, a2, a3⟩ := bx
  obtain ⟨l2, b0, b1, b2, b3⟩ := by_
  refine nth_ext (by rw [lessW_length, l1]; rfl) fun k hk => ?_
  rw [lessW_length, l1] at hk
  rw [lessW_nth (by omega)]
  match k, hk with
  | 0, _ => exact wrap64_id (by omega) (by omega)
  | 1, _ => exact wrap64_id (by omega) (by omega)
theorem specTurn_any (p q r : Option Addr) (c d f : Nat) (xs ys zs : List Int) (w : World) (hx : Ints w p 2 xs) (hy : Ints w q 2 ys) (hz : Ints w r 2 zs) (bx : PtIn 1000 xs) (by_ : PtIn 1000 ys) (bz : PtIn 1000 zs) :
    Calls Tryd.prog 80 #[.slice p 2 c, .slice q 2 d, .slice r 2 f] w fun e w' => e = .returned (.int .i64 (turnZ xs ys zs)) ∧ Below w.heap.size w w' := by
  have e0 := Lib.hid (show turnZ xs ys zs = cr (ptOf (minusL ys xs)) (ptOf (minusL zs ys)) by rw [ptOf_minus, ptOf_minus]; exact tn_step _ _ _)
  have e1 := Lib.hid (less_minus by_ bx)
  have e2 := Lib.hid (less_minus bz by_)
  have bq1 : PtIn 4000 (minusL ys xs) := (minus_in by_ bx).wide (by omega)
  have bq2 : PtIn 4000 (minusL zs ys) := (minus_in bz by_).wide (by omega)
  go_enter Tryd.func80, Tryd.ntmps80
  go_wp2_with fail
  refine (l2Less_any _ _ _ _ _ _ _ _ (by omega) hy hx).mono ?_
  rw [e1.out]
  rintro e w1 ⟨p1, c1, rfl, ho1, hb1⟩
  go_wp2_with fail
  refine (l2Less_any _ _ _ _ _ _ _ _ (by omega) (hz.below hb1) (hy.below hb1)).mono ?_
  rw [e2.out]
  rintro e w2 ⟨p2, c2, rfl, ho2, hb2⟩
  have hT := Below.step hb1 hb2
  go_wp2_with fail
  refine (specCross_any _ _ _ _ _ _ _ ((ho1.below hb2).ints) ho2.ints bq1 bq2).mono ?_
  rintro e w3 ⟨rfl, z, rfl⟩
  go_wp2_with fail
  go_ret
  exact ⟨ret_int e0.out.symm, Below.drawn hT z⟩

/-- A point of the plane, as both ask for one. -/
def isPt (m : Int) (x : List Int) : Bool := decide (x.length = 2) && allR x (-m) m
theorem isPt_in {m : Int} {x : List Int} (h : isPt m x = true) : PtIn m x := by
  unfold isPt at h
  rw [Bool.and_eq_true, decide_eq_true_eq] at h
  obtain ⟨hl, ha⟩ := h
  have key : ∀ k, k < 2 → -m ≤ nth x k ∧ nth x k ≤ m := fun k hk => by
    have := List.all_eq_true.1 ha (nth x k) (by rw [nth_eq (by omega)]; exact List.getElem_mem _)
    exact inR_true this
  exact ⟨hl, (key 0 (by omega)).1, (key 0 (by omega)).2, (key 1 (by omega)).1, (key 1 (by omega)).2⟩
theorem isPoint_any (p : Option Addr) (n c : Nat) (xs : List Int) (m : Int) (w : World) (hn : n ≤ 9223372036854775807) (hx : Ints w p n xs) (hm0 : 0 ≤ m) (hm1 : m ≤ 1000) :
    Calls Tryd.prog 48 #[.slice p n c, .int .i64 m] w fun e w' => e = .returned (.bool (isPt m xs)) ∧ w = w' := by
  have hl := Lib.hid hx.len
  by_cases h2 : n = 2
  · subst h2
    go_enter Tryd.func48, Tryd.ntmps48
    go_wp2_with (go_at_call 64; (with_reducible refine (allWithin_any _ _ _ _ _ _ _ hx (by omega)).mono ?_); rintro e w' ⟨rfl, rfl⟩)
    go_ret
    exact ⟨ret_bool (by rw [isPt, decide_eq_true hl.out, Bool.true_and]), rfl⟩
  · have hf : ((n : Int) == 2) = false := by simp; omega
    have H2 := Lib.hid h2
    clear h2
    go_enter Tryd.func48, Tryd.ntmps48
    go_wp2
    go_ret
    exact ⟨ret_bool (by rw [isPt, decide_eq_false (by rw [hl.out]; exact H2.out), Bool.false_and]), rfl⟩

end Go.Proofs.YteamihmolpaoeaaDoor
