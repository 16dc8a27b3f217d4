/- Contracts of spec.l5Best, of LeastIn and of MostIn. Conditions: sizes. -/
import Derived.Test.YtpfklkmmhdpphacBest
namespace Go.Proofs.Ytpfklkmmhdpphac
open Go.RowKit
set_option linter.unusedVariables false
set_option linter.unusedSimpArgs false
set_option maxRecDepth 100000

theorem Own.fresh0 (w : World) : Own (w.alloc (.cells #[] 3)) w.heap.size (w.heap.size + 1) (some ⟨w.heap.size, 0, none⟩) 0 0 [] := Own.empty w

set_option maxHeartbeats 1000000 in
theorem l5Best_any (z s : Int) (p q : Option Addr) (n c m d : Nat) (hs : List Pr) (xs : List Int) (w : World) (hsg : s = 1 ∨ s = -1) (hn : n ≤ 9223372036854775807) (hm : m ≤ 9223372036854775807) (hx : Prs w p n hs) (hy : Ints w q m xs) :
    Calls Try.prog 31 #[.agg #[.int .i64 z, .slice p n c], .slice q m d, .int .i64 s] w (NewIB w (bestV (-s) z hs xs)) := by
  have Hs := Lib.hid hsg
  have hl2 := Lib.hid hy.len
  have hv := Lib.hid (show bestV (-s) z hs xs = if isVec xs = true ∧ (xs.length : Int) = z ∧ ptsV z hs ≠ [] then (nthR (ptsV z hs) (bestIdx (-s) xs (ptsV z hs) (ptsV z hs).length), true) else ([], false) from rfl)
  clear hsg
  have hx1 := hx.alloc (.cells #[.int .i64 z, .slice p n c] 26)
  have hy1 := hy.alloc (.cells #[.int .i64 z, .slice p n c] 26)
  obtain ⟨k0, k1⟩ := box1c w (.int .i64 z) (.slice p n c) 26
  have kb := Box2.new w (.int .i64 z) (.slice p n c) 26
  have hT := boxed w (.cells #[.int .i64 z, .slice p n c] 26)
  go_enter Try.func31, Try.ntmps31
  go_wp2_with fail
  refine (specPoints_any _ _ _ _ _ _ hn hx1).mono ?_
  rintro e w2 ⟨pL, N, cL, rfl, ⟨rowsL, hL⟩, hb2⟩
  have hT2 := Below.step hT hb2
  replace k0 := (kb.below hb2).c0
  have hNl : (ptsV z hs).length = N := by rw [← hL.len, hL.count]
  have HNl := Lib.hid hNl
  have hpl := (ptsV_len z hs).1
  rw [hNl] at hpl
  have hy2 := hy1.below hb2
  have hs2 := hT2.size
  have hemp := Own.empty w2
  by_cases hN0 : N = 0
  · subst hN0
    have H0 : Hid (ptsV z hs = []) := Lib.hid (List.eq_nil_of_length_eq_zero hNl)
    clear hNl
    go_wp2
    go_ret2
    rw [hv.out, H0.out, if_neg (by simp)]
    exact ⟨_, _, _, rfl, hemp.widen (by omega) (by simp), hT2.alloc hs2 _⟩
  have hN1 : ((N : Int) == 0) = false := by simp [hN0]
  clear hNl
  cases h2 : isVec xs
  · go_wp2_with fail
    refine (specIsVector_any _ _ _ _ _ hy2 hm).mono ?_
    rw [h2]
    rintro e w3 ⟨rfl, rfl⟩
    go_wp2
    go_ret2
    rw [hv.out, if_neg (by simp [h2])]
    exact ⟨_, _, _, rfl, hemp.widen (by omega) (by simp), hT2.alloc hs2 _⟩
  by_cases h3 : (m : Int) = z
  · subst h3
    go_wp2_with fail
    refine (specIsVector_any _ _ _ _ _ hy2 hm).mono ?_
    rw [h2]
    rintro e w3 ⟨rfl, rfl⟩
    have hrow := Lib.hid (fun r (hr : r ∈ ptsV (m : Int) hs) => ptsV_row r hr)
    have hdot := Lib.hid (pts_dot (hs := hs) h2 (by rw [hl2.out] : ((xs.length : Nat) : Int) = (m : Int)))
    have hv2 : Hid (bestV (-s) (m : Int) hs xs = if ptsV (m : Int) hs ≠ [] then (nthR (ptsV (m : Int) hs) (bestIdx (-s) xs (ptsV (m : Int) hs) N), true) else ([], false)) := by
      show _ = _
      rw [hv.out, h2, hl2.out, HNl.out]; simp
    clear hv
    generalize hA : ptsV (m : Int) hs = A at *
    have HA := Lib.hid hA
    clear hA
    obtain ⟨g0, hg0, hc0, hi0⟩ := hL.cellD (k := 0) (by omega)
    subst hg0
    have hr0 : Hid (Row.val (rowAtD rowsL 0) = Value.slice (rowAtD rowsL 0).1 (rowAtD rowsL 0).2.1 (rowAtD rowsL 0).2.2) := rfl
    generalize hrk0 : rowAtD rowsL 0 = r0 at *
    obtain ⟨q0, m0, d0⟩ := r0
    dsimp only at hc0 hi0 hr0
    have Hrk0 := Lib.hid hrk0
    clear hrk0
    go_wp2
    go_loopw [9, 10] (fun b i wr => ∃ (k : Nat) (q5 : Option Addr) (m5 d5 : Nat), 1 ≤ k ∧ k ≤ N ∧ i = .int .i64 k ∧ b = .slice q5 m5 d5 ∧ Hid (Value.slice q5 m5 d5 = bestAt (-s) xs A rowsL k) ∧ Below w2.heap.size w2 wr) (fun _ i _ => N - (intOf i).toNat)
    case atStart => exact ⟨1, _, _, _, Nat.le_refl _, by omega, rfl, rfl, Lib.hid (by rw [bestAt, bestIdx_one, Hrk0.out]; rfl), Below.refl _ _⟩
    case round =>
      obtain ⟨k, q5, m5, d5, hk1, hk, rfl, rfl, hbe, hb⟩ := hrel
      have hL2 := hL.below hb
      have hy3 := hy2.below hb
      obtain ⟨k, rfl⟩ : ∃ k' : Nat, k = k' + 1 := ⟨k - 1, by omega⟩
      have hj := bestIdx_lt (-s) xs A k
      have hjN : bestIdx (-s) xs A (k + 1) < N := by omega
      have hjA : bestIdx (-s) xs A (k + 1) < A.length := by rw [HNl.out]; exact hjN
      have hrj := hL2.rowI hjN
      have hmj : (rowAtD rowsL (bestIdx (-s) xs A (k + 1))).2.1 = m := by rw [← hrj.len]; have := hrow.out _ (nthR_mem hjA); omega
      have hdj := hdot.out _ (nthR_mem hjA)
      have hbe0 := hbe.out
      rw [bestAt] at hbe0
      clear hbe
      by_cases hlt : k + 1 < N
      · obtain ⟨g, hgg, hcc, hik⟩ := hL2.cellD hlt
        injection hgg with hgg
        injection hgg with hgg
        subst hgg
        have hAl : k + 1 < A.length := by rw [HNl.out]; exact hlt
        have hmk : (rowAtD rowsL (k + 1)).2.1 = m := by rw [← hik.len]; have := hrow.out _ (nthR_mem hAl); omega
        have hdk := hdot.out _ (nthR_mem hAl)
        have hst : Hid (bestAt (-s) xs A rowsL (k + 2) = if -s * dotW xs (nthR A (bestIdx (-s) xs A (k + 1))) < -s * dotW xs (nthR A (k + 1)) then Row.val (rowAtD rowsL (k + 1)) else Row.val (rowAtD rowsL (bestIdx (-s) xs A (k + 1)))) := by
          show _ = _
          rw [bestAt, bestIdx]
          split <;> rfl
        have e1 := sign_wrap Hs.out hdk.1 hdk.2
        have e2 := sign_wrap Hs.out hdj.1 hdj.2
        generalize bestIdx (-s) xs A (k + 1) = j at *
        generalize hrk : rowAtD rowsL (k + 1) = rk at *
        generalize hrj' : rowAtD rowsL j = rj at *
        obtain ⟨qk, mk, dk⟩ := rk
        obtain ⟨qj, mj, dj⟩ := rj
        dsimp only at hcc hik hmk hrj hmj
        unfold Row.val at hbe0 hst
        dsimp only at hbe0 hst
        injection hbe0 with f1 f2 f3
        subst f1 f2 f3 hmk
        subst hmj
        clear hrk hrj'
        have hrj2 := hrj.ints
        go_wp2_with fail
        refine (ret_of_drew (l2Dot_any _ _ _ _ _ _ _ _ hm hy3 hik)).mono ?_
        rintro e w3 ⟨rfl, hb3⟩
        go_wp2_with fail
        refine (ret_of_drew (l2Dot_any _ _ _ _ _ _ _ _ hm (hy3.below hb3) (hrj2.below hb3))).mono ?_
        rintro e w4 ⟨rfl, hb4⟩
        have hcc4 := Below.cells hb4 (Below.cells hb3 hcc)
        by_cases hcmp : s * dotW xs (nthR A (k + 1)) < s * dotW xs (nthR A j)
        · have hc' : -s * dotW xs (nthR A j) < -s * dotW xs (nthR A (k + 1)) := by rw [Int.neg_mul, Int.neg_mul]; omega
          have Hc' := Lib.hid hc'
          clear hc'
          go_wp2
          go_roundw
          case rel => exact ⟨k + 2, _, _, _, by omega, by omega, by go_num, rfl, Lib.hid (by rw [hst.out, if_pos Hc'.out]), Below.step (Below.step hb hb3) hb4⟩
          case measure => simp [intOf]; omega
        · have hc' : ¬ -s * dotW xs (nthR A j) < -s * dotW xs (nthR A (k + 1)) := by rw [Int.neg_mul, Int.neg_mul]; omega
          have Hc' := Lib.hid hc'
          clear hc'
          go_wp2
          go_roundw
          case rel => exact ⟨k + 2, _, _, _, by omega, by omega, by go_num, rfl, Lib.hid (by rw [hst.out, if_neg (Int.not_lt.2 Hc'.out)]), Below.step (Below.step hb hb3) hb4⟩
          case measure => simp [intOf]; omega
      · have e : k + 1 = N := by omega
        subst e
        have hv3 : Hid (bestV (-s) (m : Int) hs xs = (nthR A (bestIdx (-s) xs A (k + 1)), true)) := by
          show _ = _
          rw [hv2.out, if_pos (fun h => by rw [h] at hjA; simp at hjA)]
        generalize bestIdx (-s) xs A (k + 1) = j at *
        generalize hrj' : rowAtD rowsL j = rj at *
        obtain ⟨qj, mj, dj⟩ := rj
        dsimp only at hrj hmj
        unfold Row.val at hbe0
        dsimp only at hbe0
        injection hbe0 with f1 f2 f3
        subst f1 f2 f3
        clear hrj' hmj
        go_wp2
        go_ret2
        rw [hv3.out]
        exact ⟨_, _, _, rfl, hrj.widen (by simp) (by have := hb.size; omega), Below.step hT2 hb⟩
  · have h3' : ((m : Int) == z) = false := by simp [h3]
    have H3 := Lib.hid h3
    clear h3
    go_wp2_with fail
    refine (specIsVector_any _ _ _ _ _ hy2 hm).mono ?_
    rw [h2]
    rintro e w3 ⟨rfl, rfl⟩
    go_wp2
    go_ret2
    rw [hv.out, if_neg (by rw [hl2.out]; exact fun h => H3.out h.2.1)]
    exact ⟨_, _, _, rfl, hemp.widen (by omega) (by simp), hT2.alloc hs2 _⟩

theorem implLeast_any (z : Int) (p q : Option Addr) (n c m d : Nat) (hs : List Pr) (xs : List Int) (w : World) (hn : n ≤ 9223372036854775807) (hm : m ≤ 9223372036854775807) (hx : Prs w p n hs) (hy : Ints w q m xs) :
    Calls Try.prog 8 #[.agg #[.int .i64 z, .slice p n c], .slice q m d] w (NewIB w (bestV (-1) z hs xs)) := by
  have hx1 := hx.alloc (.cells #[.int .i64 z, .slice p n c] 26)
  have hy1 := hy.alloc (.cells #[.int .i64 z, .slice p n c] 26)
  obtain ⟨k0, k1⟩ := box1c w (.int .i64 z) (.slice p n c) 26
  have hT := boxed w (.cells #[.int .i64 z, .slice p n c] 26)
  have hs := hT.size
  go_enter Try.func8, Try.ntmps8
  go_wp2_with fail
  refine (bestIn_any _ (-1) _ _ _ _ _ _ _ _ _ (by decide) hn hm hx1 hy1).mono ?_
  rintro e w1 ⟨p1, n1, c1, rfl, ho1, hb1⟩
  go_wp2
  go_ret2
  exact ⟨_, _, _, rfl, ho1.widen hs (Nat.le_refl _), Below.step hT hb1⟩
theorem specLeast_any (z : Int) (p q : Option Addr) (n c m d : Nat) (hs : List Pr) (xs : List Int) (w : World) (hn : n ≤ 9223372036854775807) (hm : m ≤ 9223372036854775807) (hx : Prs w p n hs) (hy : Ints w q m xs) :
    Calls Try.prog 9 #[.agg #[.int .i64 z, .slice p n c], .slice q m d] w (NewIB w (bestV (-1) z hs xs)) := by
  have hx1 := hx.alloc (.cells #[.int .i64 z, .slice p n c] 26)
  have hy1 := hy.alloc (.cells #[.int .i64 z, .slice p n c] 26)
  obtain ⟨k0, k1⟩ := box1c w (.int .i64 z) (.slice p n c) 26
  have hT := boxed w (.cells #[.int .i64 z, .slice p n c] 26)
  have hs := hT.size
  go_enter Try.func9, Try.ntmps9
  go_wp2_with fail
  refine (l5Best_any _ (1) _ _ _ _ _ _ _ _ _ (by decide) hn hm hx1 hy1).mono ?_
  rintro e w1 ⟨p1, n1, c1, rfl, ho1, hb1⟩
  go_wp2
  go_ret2
  exact ⟨_, _, _, rfl, ho1.widen hs (Nat.le_refl _), Below.step hT hb1⟩
theorem implMost_any (z : Int) (p q : Option Addr) (n c m d : Nat) (hs : List Pr) (xs : List Int) (w : World) (hn : n ≤ 9223372036854775807) (hm : m ≤ 9223372036854775807) (hx : Prs w p n hs) (hy : Ints w q m xs) :
    Calls Try.prog 10 #[.agg #[.int .i64 z, .slice p n c], .slice q m d] w (NewIB w (bestV 1 z hs xs)) := by
  have hx1 := hx.alloc (.cells #[.int .i64 z, .slice p n c] 26)
  have hy1 := hy.alloc (.cells #[.int .i64 z, .slice p n c] 26)
  obtain ⟨k0, k1⟩ := box1c w (.int .i64 z) (.slice p n c) 26
  have hT := boxed w (.cells #[.int .i64 z, .slice p n c] 26)
  have hs := hT.size
  go_enter Try.func10, Try.ntmps10
  go_wp2_with fail
  refine (bestIn_any _ 1 _ _ _ _ _ _ _ _ _ (by decide) hn hm hx1 hy1).mono ?_
  rintro e w1 ⟨p1, n1, c1, rfl, ho1, hb1⟩
  go_wp2
  go_ret2
  exact ⟨_, _, _, rfl, ho1.widen hs (Nat.le_refl _), Below.step hT hb1⟩
theorem specMost_any (z : Int) (p q : Option Addr) (n c m d : Nat) (hs : List Pr) (xs : List Int) (w : World) (hn : n ≤ 9223372036854775807) (hm : m ≤ 9223372036854775807) (hx : Prs w p n hs) (hy : Ints w q m xs) :
    Calls Try.prog 11 #[.agg #[.int .i64 z, .slice p n c], .slice q m d] w (NewIB w (bestV 1 z hs xs)) := by
  have hx1 := hx.alloc (.cells #[.int .i64 z, .slice p n c] 26)
  have hy1 := hy.alloc (.cells #[.int .i64 z, .slice p n c] 26)
  obtain ⟨k0, k1⟩ := box1c w (.int .i64 z) (.slice p n c) 26
  have hT := boxed w (.cells #[.int .i64 z, .slice p n c] 26)
  have hs := hT.size
  go_enter Try.func11, Try.ntmps11
  go_wp2_with fail
  refine (l5Best_any _ (-1) _ _ _ _ _ _ _ _ _ (by decide) hn hm hx1 hy1).mono ?_
  rintro e w1 ⟨p1, n1, c1, rfl, ho1, hb1⟩
  go_wp2
  go_ret2
  exact ⟨_, _, _, rfl, ho1.widen hs (Nat.le_refl _), Below.step hT hb1⟩

theorem bestV_len (s z : Int) (hs : List Pr) (a : List Int) : (bestV s z hs a).1.length ≤ 3 := by
  unfold bestV
  split
  · rename_i h
    have hl : 0 < (ptsV z hs).length := List.length_pos_iff.2 h.2.2
    obtain ⟨k, hk⟩ : ∃ k, (ptsV z hs).length = k + 1 := ⟨(ptsV z hs).length - 1, by omega⟩
    have := bestIdx_lt s a (ptsV z hs) k
    exact (ptsV_row _ (nthR_mem (by rw [hk]; exact this))).2.1
  · simp

end Go.Proofs.Ytpfklkmmhdpphac
