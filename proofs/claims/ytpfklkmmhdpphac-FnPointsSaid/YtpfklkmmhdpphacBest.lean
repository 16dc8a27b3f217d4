/- The first point with the greatest product: plain laws; contract of impl.bestIn. Conditions: sizes. -/
import Derived.Test.YtpfklkmmhdpphacPts3
namespace Go.Proofs.Ytpfklkmmhdpphac
open Go.RowKit
set_option linter.unusedVariables false
set_option linter.unusedSimpArgs false
set_option maxRecDepth 100000

/-- The place of the first list with the greatest product, among the first k. -/
def bestIdx (s : Int) (a : List Int) (L : List (List Int)) : Nat → Nat
  | 0 => 0
  | k + 1 => if s * dotW a (nthR L (bestIdx s a L k)) < s * dotW a (nthR L k) then k else bestIdx s a L k
theorem bestIdx_lt (s : Int) (a : List Int) (L : List (List Int)) : ∀ k, bestIdx s a L (k + 1) < k + 1
  | 0 => by unfold bestIdx; split <;> simp [bestIdx]
  | k + 1 => by
    have := bestIdx_lt s a L k
    unfold bestIdx
    split <;> omega
theorem bestIdx_one (s : Int) (a : List Int) (L : List (List Int)) : bestIdx s a L 1 = 0 := Nat.lt_one_iff.1 (bestIdx_lt s a L 0)

def bestV (s z : Int) (hs : List Pr) (a : List Int) : List Int × Bool :=
  if isVec a = true ∧ (a.length : Int) = z ∧ ptsV z hs ≠ [] then (nthR (ptsV z hs) (bestIdx s a (ptsV z hs) (ptsV z hs).length), true) else ([], false)

theorem mul_bound {x y : Int} (h1 : -1000 ≤ x) (h2 : x ≤ 1000) (h3 : -1000 ≤ y) (h4 : y ≤ 1000) : -1000000 ≤ x * y ∧ x * y ≤ 1000000 := by
  have h : (x * y).natAbs ≤ 1000 * 1000 := by
    rw [Int.natAbs_mul]
    exact Nat.mul_le_mul (by omega) (by omega)
  omega
theorem dotTo_bound {xs ys : List Int} : ∀ k, k ≤ 3 → (∀ j, j < k → -1000 ≤ nth xs j ∧ nth xs j ≤ 1000 ∧ -1000 ≤ nth ys j ∧ nth ys j ≤ 1000) → -1000000 * (k : Int) ≤ dotTo xs ys k ∧ dotTo xs ys k ≤ 1000000 * (k : Int)
  | 0, _, _ => by simp [dotTo]
  | k + 1, hk, h => by
    have ih := dotTo_bound k (by omega) (fun j hj => h j (by omega))
    obtain ⟨h1, h2, h3, h4⟩ := h k (by omega)
    have hm := mul_bound h1 h2 h3 h4
    unfold dotTo wrap64
    generalize nth xs k * nth ys k = m at *
    omega
theorem pts_dot {z : Int} {hs : List Pr} {a : List Int} (ha : isVec a = true) (hl : (a.length : Int) = z) : ∀ r ∈ ptsV z hs, -3000000 ≤ dotW a r ∧ dotW a r ≤ 3000000 := fun r hr => by
  have hrl := ptsV_row r hr
  have hv := isVec_all ha
  have h6 : ∀ x ∈ r, -6 ≤ x ∧ x ≤ 6 := by
    cases h : isReg z hs
    · rw [ptsV_no h] at hr; cases hr
    · rw [ptsV, if_pos h] at hr
      exact allTo_all (-6) 6 z.toNat r (List.mem_filter.1 hr).1
  have hb := dotTo_bound (xs := a) (ys := r) a.length (by omega) fun j hj => by
    have h1 := hv j hj
    have hjr : j < r.length := by omega
    have h2 := h6 (nth r j) (by rw [nth_eq hjr]; exact List.getElem_mem hjr)
    omega
  unfold dotW
  omega
theorem sign_wrap {s d : Int} (hs : s = 1 ∨ s = -1) (h1 : -3000000 ≤ d) (h2 : d ≤ 3000000) : (s * d + 9223372036854775808) % 18446744073709551616 - 9223372036854775808 = s * d := by
  rcases hs with rfl | rfl <;> omega

theorem Own2.rowI {w : World} {lo hi : Nat} {p : Option Addr} {n c : Nat} {rows : List Row} {xss : List (List Int)} (h : Own2 w lo hi p n c rows xss) {k : Nat} (hk : k < n) :
    Own w lo hi (rowAtD rows k).1 (rowAtD rows k).2.1 (rowAtD rows k).2.2 (nthR xss k) := by
  have hkr : k < rows.length := by rw [h.count]; exact hk
  rw [rowAtD_eq hkr]
  exact h.inner k hkr
theorem Own.some_ {w : World} {lo hi : Nat} {p : Option Addr} {n c : Nat} {xs : List Int} (h : Own w lo hi p n c xs) (hn : 1 ≤ n) : ∃ g, p = some ⟨g, 0, none⟩ := by
  rcases h.row.2 with ⟨hv, h0⟩ | ⟨g, cap, cur, hv, _⟩
  · omega
  · injection hv with h1 h2 h3
    exact ⟨g, h1⟩
def bestAt (s : Int) (xs : List Int) (L : List (List Int)) (rows : List Row) : Nat → Value
  | 0 => .slice none 0 0
  | k + 1 => Row.val (rowAtD rows (bestIdx s xs L (k + 1)))

set_option maxHeartbeats 1000000 in
theorem bestIn_any (z s : Int) (p q : Option Addr) (n c m d : Nat) (hs : List Pr) (xs : List Int) (w : World) (hsg : s = 1 ∨ s = -1) (hn : n ≤ 9223372036854775807) (hm : m ≤ 9223372036854775807) (hx : Prs w p n hs) (hy : Ints w q m xs) :
    Calls Try.prog 30 #[.agg #[.int .i64 z, .slice p n c], .slice q m d, .int .i64 s] w (NewIB w (bestV s z hs xs)) := by
  have qe0 : ∀ W, (binOp .eql 30 (.slice none 0 0) (.slice none 0 0)).run Try.prog W = .ok (.bool true) W := fun W => Lib.run_eql_slice_nil W _ _ none 0 0 0 0 Try.underlying30
  have qe1 : ∀ (W : World) (g n' c' : Nat), (binOp .eql 30 (.slice (some ⟨g, 0, none⟩) n' c') (.slice none 0 0)).run Try.prog W = .ok (.bool false) W := fun W g n' c' => Lib.run_eql_slice_nil W _ _ (some ⟨g, 0, none⟩) n' c' 0 0 Try.underlying30
  have qn0 : ∀ W, (binOp .neq 30 (.slice none 0 0) (.slice none 0 0)).run Try.prog W = .ok (.bool false) W := fun W => run_neq_slice_nil_any W _ _ none 0 0 0 0 Try.underlying30
  have qn1 : ∀ (W : World) (g n' c' : Nat), (binOp .neq 30 (.slice (some ⟨g, 0, none⟩) n' c') (.slice none 0 0)).run Try.prog W = .ok (.bool true) W := fun W g n' c' => run_neq_slice_nil_any W _ _ (some ⟨g, 0, none⟩) n' c' 0 0 Try.underlying30
  have Hs := Lib.hid hsg
  have hl2 := Lib.hid hy.len
  have hv := Lib.hid (show bestV s z hs xs = if isVec xs = true ∧ (xs.length : Int) = z ∧ ptsV z hs ≠ [] then (nthR (ptsV z hs) (bestIdx s xs (ptsV z hs) (ptsV z hs).length), true) else ([], false) from rfl)
  clear hsg
  have hx1 := hx.alloc (.cells #[.int .i64 z, .slice p n c] 26)
  have hy1 := hy.alloc (.cells #[.int .i64 z, .slice p n c] 26)
  obtain ⟨k0, k1⟩ := box1c w (.int .i64 z) (.slice p n c) 26
  have hT := boxed w (.cells #[.int .i64 z, .slice p n c] 26)
  cases h2 : isVec xs
  · go_enter Try.func30, Try.ntmps30
    go_wp2_with fail
    refine (implIsVector_any _ _ _ _ _ hy1 hm).mono ?_
    rw [h2]
    rintro e w2 ⟨rfl, rfl⟩
    go_wp2
    go_ret2
    rw [hv.out, if_neg (by simp [h2])]
    exact ⟨_, _, _, rfl, Own.nil _ _ _, hT⟩
  by_cases h3 : (m : Int) = z
  · subst h3
    have hd0 : (!decide ((m : Int) = (m : Int))) = false := by simp
    go_enter Try.func30, Try.ntmps30
    go_wp2_with fail
    refine (implIsVector_any _ _ _ _ _ hy1 hm).mono ?_
    rw [h2]
    rintro e w2 ⟨rfl, rfl⟩
    go_wp2_with fail
    refine (implPoints_any _ _ _ _ _ _ hn hx1).mono ?_
    rintro e w2 ⟨pL, N, cL, rfl, ⟨rowsL, hL⟩, hb2⟩
    have hT2 := Below.step hT hb2
    have hrow := Lib.hid (fun r (hr : r ∈ ptsV (m : Int) hs) => ptsV_row r hr)
    have hdot := Lib.hid (pts_dot (hs := hs) h2 (by rw [hl2.out] : ((xs.length : Nat) : Int) = (m : Int)))
    have hNl : (ptsV (m : Int) hs).length = N := by rw [← hL.len, hL.count]
    have HNl := Lib.hid hNl
    have hpl := (ptsV_len (m : Int) hs).1
    rw [hNl] at hpl
    have hm0 : 0 < N → 1 ≤ m := fun h => by
      have := hrow.out (nthR (ptsV (m : Int) hs) 0) (nthR_mem (by rw [hNl]; exact h))
      omega
    clear hNl
    have hv2 : Hid (bestV s (m : Int) hs xs = if ptsV (m : Int) hs ≠ [] then (nthR (ptsV (m : Int) hs) (bestIdx s xs (ptsV (m : Int) hs) N), true) else ([], false)) := by
      show _ = _
      rw [hv.out, h2, hl2.out, HNl.out]; simp
    clear hv
    generalize hA : ptsV (m : Int) hs = A at *
    have HA := Lib.hid hA
    clear hA
    have hy2 := hy1.below hb2
    go_wp2
    go_loopw [8, 24] (fun b i wr => ∃ (k : Nat) (q5 : Option Addr) (m5 d5 : Nat), k ≤ N ∧ i = .int .i64 k ∧ b = .slice q5 m5 d5 ∧ Hid (Value.slice q5 m5 d5 = bestAt s xs A rowsL k) ∧ Below w2.heap.size w2 wr) (fun _ i _ => N - (intOf i).toNat)
    case atStart => exact ⟨0, _, _, _, Nat.zero_le _, rfl, rfl, rfl, Below.refl _ _⟩
    case round =>
      obtain ⟨k, q5, m5, d5, hk, rfl, rfl, hbe, hb⟩ := hrel
      have hL2 := hL.below hb
      have hy3 := hy2.below hb
      by_cases hlt : k < N
      · obtain ⟨g, rfl, hcc, hik⟩ := hL2.cellD hlt
        have hAl : k < A.length := by rw [HNl.out]; exact hlt
        have hm1 := hm0 (by omega)
        have hmk : (rowAtD rowsL k).2.1 = m := by rw [← hik.len]; have := hrow.out _ (nthR_mem hAl); omega
        obtain ⟨g2, hg2⟩ := (hL2.rowI hlt).some_ (by rw [hmk]; exact hm1)
        have hdk := hdot.out _ (nthR_mem hAl)
        cases k with
        | zero =>
          have hbe0 := hbe.out
          rw [bestAt] at hbe0
          injection hbe0 with e1 e2 e3
          subst e1 e2 e3
          have hnx : Hid (bestAt s xs A rowsL 1 = Row.val (rowAtD rowsL 0)) := by show _ = _; rw [bestAt, bestIdx_one]
          generalize hrk : rowAtD rowsL 0 = rk at *
          obtain ⟨qk, mk, dk⟩ := rk
          dsimp only at hcc hik hmk hg2
          subst hmk hg2
          clear hrk
          go_wp2
          go_roundw
          case rel => exact ⟨1, _, _, _, by omega, by go_num, rfl, hnx.out.symm, hb⟩
          case measure => simp [intOf]; omega
        | succ k =>
          have hj := bestIdx_lt s xs A k
          have hjN : bestIdx s xs A (k + 1) < N := by omega
          have hjA : bestIdx s xs A (k + 1) < A.length := by rw [HNl.out]; exact hjN
          have hrj := hL2.rowI hjN
          have hmj : (rowAtD rowsL (bestIdx s xs A (k + 1))).2.1 = m := by rw [← hrj.len]; have := hrow.out _ (nthR_mem hjA); omega
          obtain ⟨g3, hg3⟩ := hrj.some_ (by rw [hmj]; exact hm1)
          have hdj := hdot.out _ (nthR_mem hjA)
          have hst : Hid (bestAt s xs A rowsL (k + 2) = if s * dotW xs (nthR A (bestIdx s xs A (k + 1))) < s * dotW xs (nthR A (k + 1)) then Row.val (rowAtD rowsL (k + 1)) else Row.val (rowAtD rowsL (bestIdx s xs A (k + 1)))) := by
            show _ = _
            rw [bestAt, bestIdx]
            split <;> rfl
          have e1 := sign_wrap Hs.out hdk.1 hdk.2
          have e2 := sign_wrap Hs.out hdj.1 hdj.2
          have hbe0 := hbe.out
          rw [bestAt] at hbe0
          clear hbe
          generalize bestIdx s xs A (k + 1) = j at *
          generalize hrk : rowAtD rowsL (k + 1) = rk at *
          generalize hrj' : rowAtD rowsL j = rj at *
          obtain ⟨qk, mk, dk⟩ := rk
          obtain ⟨qj, mj, dj⟩ := rj
          dsimp only at hcc hik hmk hg2 hrj hmj hg3
          unfold Row.val at hbe0 hst
          dsimp only at hbe0 hst
          injection hbe0 with f1 f2 f3
          subst f1 f2 f3 hmk hg2 hg3
          subst hmj
          clear hrk hrj'
          have hrj2 := hrj.ints
          go_wp2_with fail
          refine (ret_of_drew (dot_any _ _ _ _ _ _ _ _ hm hy3 hik)).mono ?_
          rintro e w3 ⟨rfl, hb3⟩
          go_wp2_with fail
          refine (ret_of_drew (dot_any _ _ _ _ _ _ _ _ hm (hy3.below hb3) (hrj2.below hb3))).mono ?_
          rintro e w4 ⟨rfl, hb4⟩
          by_cases hcmp : s * dotW xs (nthR A j) < s * dotW xs (nthR A (k + 1))
          · go_wp2
            go_roundw
            case rel => exact ⟨k + 2, _, _, _, by omega, by go_num, rfl, Lib.hid (by rw [hst.out, if_pos hcmp]), Below.step (Below.step hb hb3) hb4⟩
            case measure => simp [intOf]; omega
          · go_wp2
            go_roundw
            case rel => exact ⟨k + 2, _, _, _, by omega, by go_num, rfl, Lib.hid (by rw [hst.out, if_neg (by omega)]), Below.step (Below.step hb hb3) hb4⟩
            case measure => simp [intOf]; omega
      · have e : k = N := by omega
        subst e
        cases k with
        | zero =>
          have hbe0 := hbe.out
          rw [bestAt] at hbe0
          injection hbe0 with e1 e2 e3
          subst e1 e2 e3
          have hA0 : A = [] := List.eq_nil_of_length_eq_zero HNl.out
          go_wp2
          go_ret2
          rw [hv2.out, if_neg (by simp [hA0])]
          exact ⟨_, _, _, rfl, Own.nil _ _ _, Below.step hT2 hb⟩
        | succ k =>
          have hj := bestIdx_lt s xs A k
          have hjA : bestIdx s xs A (k + 1) < A.length := by rw [HNl.out]; exact hj
          have hrj := hL2.rowI hj
          have hmj : (rowAtD rowsL (bestIdx s xs A (k + 1))).2.1 = m := by rw [← hrj.len]; have := hrow.out _ (nthR_mem hjA); omega
          obtain ⟨g3, hg3⟩ := hrj.some_ (by rw [hmj]; exact hm0 (by omega))
          have hbe0 := hbe.out
          rw [bestAt] at hbe0
          clear hbe
          have hv3 : Hid (bestV s (m : Int) hs xs = (nthR A (bestIdx s xs A (k + 1)), true)) := by
            show _ = _
            rw [hv2.out, if_pos (fun h => by rw [h] at hjA; simp at hjA)]
          generalize bestIdx s xs A (k + 1) = j at *
          generalize hrj' : rowAtD rowsL j = rj at *
          obtain ⟨qj, mj, dj⟩ := rj
          dsimp only at hrj hmj hg3
          unfold Row.val at hbe0
          dsimp only at hbe0
          injection hbe0 with f1 f2 f3
          subst f1 f2 f3 hg3
          clear hrj' hmj
          go_wp2
          go_ret2
          rw [hv3.out]
          exact ⟨_, _, _, rfl, hrj.widen (by simp) (by have := hb.size; omega), Below.step hT2 hb⟩
  · have h3' : ((m : Int) == z) = false := by simp [h3]
    have H3 := Lib.hid h3
    clear h3
    go_enter Try.func30, Try.ntmps30
    go_wp2_with fail
    refine (implIsVector_any _ _ _ _ _ hy1 hm).mono ?_
    rw [h2]
    rintro e w2 ⟨rfl, rfl⟩
    go_wp2
    go_ret2
    rw [hv.out, if_neg (by rw [hl2.out]; exact fun h => H3.out h.2.1)]
    exact ⟨_, _, _, rfl, Own.nil _ _ _, hT⟩

end Go.Proofs.Ytpfklkmmhdpphac
