/- Contracts of both EqualRegion. Conditions: sizes. -/
import Derived.Test.YtpfklkmmhdpphadGreatDoorEqReg
import Derived.Test.YtpfklkmmhdpphadGreatDoorJnOps2
namespace Go.Proofs.YtpfklkmmhdpphadGreatDoor
open Go.RowKit
set_option linter.unusedVariables false
set_option linter.unusedSimpArgs false
set_option maxRecDepth 100000

theorem l4SameHalf_any (p q : Option Addr) (n c m d : Nat) (xs ys : List Int) (a b : Int) (w : World) (hx : Ints w p n xs) (hy : Ints w q m ys) (hn : n ≤ 9223372036854775807) (hm : m ≤ 9223372036854775807) :
    Calls Tryz.prog 45 #[.agg #[.slice p n c, .int .i64 a], .agg #[.slice q m d, .int .i64 b]] w (Ret (.bool (beqP (xs, a) (ys, b))) w) := by
  have hb := boxed2 w (.cells #[.slice p n c, .int .i64 a] 36) (.cells #[.slice q m d, .int .i64 b] 36)
  cases h1 : beqL xs ys
  · go_enter Tryz.func45, Tryz.ntmps45
    go_wp2_with fail
    refine (l2Same_any _ _ _ _ _ _ _ _ _ (hx.below hb) (hy.below hb) hn hm).mono ?_
    rw [h1]
    rintro e w1 ⟨rfl, z, rfl⟩
    go_wp2
    go_ret
    exact ⟨ret_bool (by simp [beqP, h1]), Below.drawn hb _⟩
  · by_cases h2 : a = b
    · have h2' : (a == b) = true := by simp [h2]
      have H2 := Lib.hid h2
      clear h2
      go_enter Tryz.func45, Tryz.ntmps45
      go_wp2_with fail
      refine (l2Same_any _ _ _ _ _ _ _ _ _ (hx.below hb) (hy.below hb) hn hm).mono ?_
      rw [h1]
      rintro e w1 ⟨rfl, z, rfl⟩
      go_wp2
      go_ret
      exact ⟨ret_bool (by simp [beqP, h1, H2.out]), Below.drawn hb _⟩
    · have h2' : (a == b) = false := by simp [h2]
      have H2 := Lib.hid h2
      clear h2
      go_enter Tryz.func45, Tryz.ntmps45
      go_wp2_with fail
      refine (l2Same_any _ _ _ _ _ _ _ _ _ (hx.below hb) (hy.below hb) hn hm).mono ?_
      rw [h1]
      rintro e w1 ⟨rfl, z, rfl⟩
      go_wp2
      go_ret
      exact ⟨ret_bool (by simp [beqP, h1, H2.out]), Below.drawn hb _⟩

theorem belowCell2 {w w1 : World} (hb : Below w.heap.size w w1) {a : Addr} {v : Value} (h : w.cell? a = some v) : w1.cell? a = some v :=
  (hb.cell (World.block_lt_of_cell? w a h)).trans h
theorem prAt_ext {us vs : List Pr} (h : us.length = vs.length) (hk : ∀ k, k < us.length → prAt us k = prAt vs k) : us = vs :=
  List.ext_getElem h fun i h1 h2 => by have := hk i h1; rwa [prAt_eq h1, prAt_eq h2] at this
def beqH (us vs : List Pr) : Bool := decide (us = vs)
theorem beqH_yes {us vs : List Pr} (h : us.length = vs.length) (hk : ∀ k, k < us.length → prAt us k = prAt vs k) : beqH us vs = true := by simp [beqH, prAt_ext h hk]
theorem beqH_no {us vs : List Pr} {k : Nat} (h : ¬ prAt us k = prAt vs k) : beqH us vs = false := by
  simp only [beqH, decide_eq_false_iff_not]
  intro e; exact h (by rw [e])
theorem beqH_len {us vs : List Pr} (h : ¬ us.length = vs.length) : beqH us vs = false := by
  simp only [beqH, decide_eq_false_iff_not]
  intro e; exact h (by rw [e])

theorem equalFunc_any (p q : Option Addr) (n c m d : Nat) (us vs : List Pr) (w : World) (hx : Prs w p n us) (hy : Prs w q m vs) (hn : n ≤ 9223372036854775807) (hm : m ≤ 9223372036854775807) :
    Calls Tryz.prog 56 #[.slice p n c, .slice q m d, .func (.func 44) #[] #[]] w (Ret (.bool (beqH us vs)) w) := by
  have hl := Lib.hid hx.len
  have hl2 := Lib.hid hy.len
  by_cases hnm : n = m
  · subst hnm
    go_enter Tryz.func56, Tryz.ntmps56
    go_wp2
    go_loopw [17] (fun i wr => ∃ k : Nat, k ≤ n ∧ i = .int .i64 k ∧ Hid (∀ j, j < k → prAt us j = prAt vs j) ∧ Below w.heap.size w wr) (fun i _ => n - (intOf i).toNat)
    case atStart => exact ⟨0, Nat.zero_le _, rfl, fun j h => absurd h (by omega), Below.refl _ _⟩
    case round =>
      obtain ⟨k, hk, rfl, hall, hb⟩ := hrel
      by_cases hlt : k < n
      · obtain ⟨b, o, q1, m1, d1, rfl, hc, hcb, hmd, hd, hi⟩ := (hx.below hb).cell k hlt
        obtain ⟨b2, o2, q2, m2, d2, rfl, hc2, hcb2, hmd2, hd2, hi2⟩ := (hy.below hb).cell k hlt
        have kl1 := World.block_lt_of_cell? wr _ hc2
        have hc2' := belowCell2 (boxed wr (.cells #[.slice q1 m1 d1, .int .i64 (bnd us k)] 36)) hc2
        have hcb2' := belowCell2 (boxed wr (.cells #[.slice q1 m1 d1, .int .i64 (bnd us k)] 36)) hcb2
        have hbx := boxed2 wr (.cells #[.slice q1 m1 d1, .int .i64 (bnd us k)] 36) (.cells #[.slice q2 m2 d2, .int .i64 (bnd vs k)] 36)
        cases hr : beqP (nrm us k, bnd us k) (nrm vs k, bnd vs k)
        all_goals
          go_wp2_with fail
          refine (equalHalf_any _ _ _ _ _ _ _ _ _ _ _ (hi.below hbx) (hi2.below hbx) (by omega) (by omega)).mono ?_
          rw [hr]
          rintro e w1 ⟨rfl, hb1⟩
          have hb2 := Below.step hb (Below.step hbx hb1)
          go_wp2
        · go_ret
          refine ⟨ret_bool (beqH_no (k := k) fun e => ?_).symm, hb2⟩
          have : beqP (nrm us k, bnd us k) (nrm vs k, bnd vs k) = true := beqP_iff.2 e
          rw [hr] at this; cases this
        · go_roundw
          case rel =>
            refine ⟨k + 1, by omega, by go_num, fun j hj => ?_, hb2⟩
            by_cases hjk : j < k
            · exact hall.out j hjk
            · obtain rfl : j = k := by omega
              exact beqP_iff.1 hr
          case measure => simp [intOf]; omega
      · go_wp2
        go_ret
        obtain rfl : k = n := by omega
        exact ⟨ret_bool (beqH_yes (hl.out.trans hl2.out.symm) (fun j hj => hall.out j (by rw [hl.out] at hj; exact hj))).symm, hb⟩
  · go_enter Tryz.func56, Tryz.ntmps56
    go_wp2
    go_ret
    exact ⟨ret_bool (beqH_len (by rw [hl.out, hl2.out]; exact hnm)).symm, Below.refl _ _⟩

def eqRegV (z : Int) (us : List Pr) (y : Int) (vs : List Pr) : Bool := decide (z = y) && beqH us vs

theorem implEqReg_any (z y : Int) (p q : Option Addr) (n c m d : Nat) (us vs : List Pr) (w : World) (hx : Prs w p n us) (hy : Prs w q m vs) (hn : n ≤ 9223372036854775807) (hm : m ≤ 9223372036854775807) :
    Calls Tryz.prog 18 #[.agg #[.int .i64 z, .slice p n c], .agg #[.int .i64 y, .slice q m d]] w (Ret (.bool (eqRegV z us y vs)) w) := by
  have hbx := boxed2 w (.cells #[.int .i64 z, .slice p n c] 26) (.cells #[.int .i64 y, .slice q m d] 26)
  by_cases h : z = y
  · have h' : (z == y) = true := by simp [h]
    have H := Lib.hid h
    clear h
    go_enter Tryz.func18, Tryz.ntmps18
    go_wp2_with fail
    refine (equalFunc_any _ _ _ _ _ _ _ _ _ (hx.below hbx) (hy.below hbx) hn hm).mono ?_
    rintro e w1 ⟨rfl, hb1⟩
    go_wp2
    go_ret
    exact ⟨ret_bool (by simp [eqRegV, H.out]), Below.step hbx hb1⟩
  · have h' : (z == y) = false := by simp [h]
    have H := Lib.hid h
    clear h
    go_enter Tryz.func18, Tryz.ntmps18
    go_wp2
    go_ret
    exact ⟨ret_bool (by simp [eqRegV, H.out]), hbx⟩

theorem specEqReg_any (z y : Int) (p q : Option Addr) (n c m d : Nat) (us vs : List Pr) (w : World) (hx : Prs w p n us) (hy : Prs w q m vs) (hn : n ≤ 9223372036854775807) (hm : m ≤ 9223372036854775807) :
    Calls Tryz.prog 17 #[.agg #[.int .i64 z, .slice p n c], .agg #[.int .i64 y, .slice q m d]] w (Ret (.bool (eqRegV z us y vs)) w) := by
  have hl := Lib.hid hx.len
  have hl2 := Lib.hid hy.len
  have hT := boxed2 w (.cells #[.int .i64 z, .slice p n c] 26) (.cells #[.int .i64 y, .slice q m d] 26)
  by_cases h : z = y
  · by_cases hnm : n = m
    · subst hnm
      have h' : (z != y) = false := by simp [h]
      have hn' : ((n : Int) != (n : Int)) = false := by simp
      have H := Lib.hid h
      clear h
      have ka : Box2 ((w.alloc (.cells #[.int .i64 z, .slice p n c] 26)).alloc (.cells #[.int .i64 y, .slice q n d] 26)) w.heap.size (.int .i64 z) (.slice p n c) 26 := (Box2.new w _ _ _).alloc _
      have kb : Box2 ((w.alloc (.cells #[.int .i64 z, .slice p n c] 26)).alloc (.cells #[.int .i64 y, .slice q n d] 26)) (w.heap.size + 1) (.int .i64 y) (.slice q n d) 26 := by
        have h := Box2.new (w.alloc (.cells #[.int .i64 z, .slice p n c] 26)) (.int .i64 y) (.slice q n d) 26
        rwa [World.size_alloc] at h
      have hx1 := hx.below hT
      have hy1 := hy.below hT
      go_enter Tryz.func17, Tryz.ntmps17
      go_wp2
      generalize ((w.alloc (.cells #[.int .i64 z, .slice p n c] 26)).alloc (.cells #[.int .i64 y, .slice q n d] 26)) = W at *
      go_loopw [5] (fun i wr => ∃ k : Nat, k ≤ n ∧ i = .int .i64 k ∧ Hid (∀ j, j < k → prAt us j = prAt vs j) ∧ Below W.heap.size W wr) (fun i _ => n - (intOf i).toNat)
      case atStart => exact ⟨0, Nat.zero_le _, rfl, fun j h => absurd h (by omega), Below.refl _ _⟩
      case round =>
        obtain ⟨k, hk, rfl, hall, hb⟩ := hrel
        have ka0 := (ka.below hb).c1
        have kb0 := (kb.below hb).c1
        by_cases hlt : k < n
        · obtain ⟨b, o, q1, m1, d1, rfl, hc, hcb, hmd, hd, hi⟩ := (hx1.below hb).cell k hlt
          obtain ⟨b2, o2, q2, m2, d2, rfl, hc2, hcb2, hmd2, hd2, hi2⟩ := (hy1.below hb).cell k hlt
          cases hr : beqP (nrm us k, bnd us k) (nrm vs k, bnd vs k)
          all_goals
            have Hr := Lib.hid hr
            clear hr
            go_wp2
            go_region_held3 (fun w' => w'.cell? ⟨w.heap.size, 1, none⟩ = some (.slice (some ⟨b, o, none⟩) n c) ∧ w'.cell? ⟨w.heap.size + 1, 1, none⟩ = some (.slice (some ⟨b2, o2, none⟩) n d) ∧ w'.cell? ⟨b, o + k * 2, none⟩ = some (.slice q1 m1 d1) ∧ w'.cell? ⟨b, o + k * 2 + 1, none⟩ = some (.int .i64 (bnd us k)) ∧ w'.cell? ⟨b2, o2 + k * 2, none⟩ = some (.slice q2 m2 d2) ∧ w'.cell? ⟨b2, o2 + k * 2 + 1, none⟩ = some (.int .i64 (bnd vs k))) (exact ⟨ka0, kb0, hc, hcb, hc2, hcb2⟩) (first | (go_at_call 45; (with_reducible refine (l4SameHalf_any _ _ _ _ _ _ _ _ _ _ _ hi.drew hi2.drew (by omega) (by omega)).mono ?_); rw [Hr.out]; rintro e w1 ⟨rfl, hb1⟩; replace ka0 := belowCell2 hb1 ka0; replace kb0 := belowCell2 hb1 kb0; replace hc := belowCell2 hb1 hc; replace hcb := belowCell2 hb1 hcb; replace hc2 := belowCell2 hb1 hc2; replace hcb2 := belowCell2 hb1 hcb2))
          · have hb2 := Below.step hb (Below.step (drewBelow _) hb1)
            go_wp2
            go_ret
            refine ⟨ret_bool ?_, Below.step hT hb2⟩
            rw [eqRegV, beqH_no (k := k) (fun e => ?_)]
            · simp
            · have : beqP (nrm us k, bnd us k) (nrm vs k, bnd vs k) = true := beqP_iff.2 e
              rw [Hr.out] at this; cases this
          · have hb2 := Below.step hb (Below.step (drewBelow _) hb1)
            go_wp2
            go_roundw
            case rel =>
              refine ⟨k + 1, by omega, by go_num, fun j hj => ?_, hb2⟩
              by_cases hjk : j < k
              · exact hall.out j hjk
              · obtain rfl : j = k := by omega
                exact beqP_iff.1 Hr.out
            case measure => simp [intOf]; omega
        · go_wp2
          go_ret
          obtain rfl : k = n := by omega
          exact ⟨ret_bool (by rw [eqRegV, H.out, beqH_yes (hl.out.trans hl2.out.symm) (fun j hj => hall.out j (by rw [hl.out] at hj; exact hj))]; simp), Below.step hT hb⟩
    · have h' : (z != y) = false := by simp [h]
      have hn' : ((n : Int) != (m : Int)) = true := by simp; omega
      clear h
      go_enter Tryz.func17, Tryz.ntmps17
      go_wp2
      go_ret
      exact ⟨ret_bool (by rw [eqRegV, beqH_len (by rw [hl.out, hl2.out]; exact hnm)]; simp), hT⟩
  · have h' : (z != y) = true := by simp [h]
    have H := Lib.hid h
    clear h
    go_enter Tryz.func17, Tryz.ntmps17
    go_wp2
    go_ret
    exact ⟨ret_bool (by rw [eqRegV, decide_eq_false H.out]; simp), hT⟩

end Go.Proofs.YtpfklkmmhdpphadGreatDoor
