/- Contract of spec.MoveRegion. Conditions: sizes. -/
import Derived.Test.YtpfklkmmhdpphadGreatDoorMove
import Derived.Deep.DrawnRows
namespace Go.Proofs.YtpfklkmmhdpphadGreatDoor
open Go.RowKit
set_option linter.unusedVariables false
set_option linter.unusedSimpArgs false
set_option maxRecDepth 100000

attribute [local go_sem ↓] Go.wp_at_zero Go.wp_at_succ

set_option maxHeartbeats 4000000 in
theorem specMove_any (z : Int) (p q : Option Addr) (n c m d : Nat) (hs : List Pr) (xs : List Int) (w : World) (hn : n ≤ 1048576) (hm : m ≤ 1048576) (hx : Prs w p n hs) (hy : Ints w q m xs) (hm2 : totH hs ≤ 1048576) :
    Calls Tryz.prog 7 #[.agg #[.int .i64 z, .slice p n c], .slice q m d] w (NewRB w (moveV z hs xs)) := by
  have hl := Lib.hid hx.len
  have hl2 := Lib.hid hy.len
  obtain ⟨kb, kr, hsz⟩ := boxes2 w z p n c
  have hT := boxed2 w (.cells #[.int .i64 z, .slice p n c] 26) (.cells #[.int .i64 0, .slice none 0 0] 26)
  have hx1 := hx.below hT
  have hy1 := hy.below hT
  by_cases hok : isReg z hs = true ∧ isVec xs = true ∧ (xs.length : Int) = z
  · obtain ⟨h1, h2, h3⟩ := hok
    have H : Hid (moveV z hs xs = regIf z (moveW hs xs)) := by show _ = _; simp [moveV, h1, h2, h3]
    rw [hl2.out] at h3
    subst h3
    have Hlen : Hid (∀ k, k < hs.length → (nrm hs k).length = m) := Lib.hid fun k hk => by have := isReg_len h1 k hk; omega
    have hl4 := Lib.hid (moveW_length hs xs)
    go_enter Tryz.func7, Tryz.ntmps7
    go_wp2_with fail
    generalize ((w.alloc (.cells #[.int .i64 (m : Int), .slice p n c] 26)).alloc (.cells #[.int .i64 0, .slice none 0 0] 26)) = W0 at *
    refine (specIsRegion_any _ _ _ _ _ _ (by omega) hx1).mono ?_
    rw [h1]
    rintro e w1 ⟨rfl, hb1⟩
    have hT1 := Below.step hT hb1
    have kb1 := kb.below hb1
    have kr1 := kr.below hb1
    have hs1 := hb1.size
    have b0 := kb1.c0
    have b1 := kb1.c1
    go_wp2_with fail
    refine (specIsVector_any _ _ _ _ _ (hy1.below hb1) (by omega)).mono ?_
    rw [h2]
    rintro e w2 ⟨rfl, rfl⟩
    go_wp2_with fail
    refine (l4Copy_any _ _ _ _ _ _ hn (hx1.below hb1) hm2).mono ?_
    rintro e w2 ⟨p2, c2, rfl, ⟨rows, ho2⟩, hb2⟩
    have hT2 := Below.step hT1 hb2
    have kb2 := kb1.below hb2
    have kr2 := kr1.below hb2
    have hs2 := hb2.size
    have hx2 := (hx1.below hb1).below hb2
    have hy2 := (hy1.below hb1).below hb2
    clear b0 b1
    have b0 := kb2.c0
    have b1 := kb2.c1
    have kb3 := kb2.alloc (.cells #[.int .i64 (m : Int), .slice p2 n c2] 26)
    have b2 := kb3.c1
    have kr3 := kr2.alloc (.cells #[.int .i64 (m : Int), .slice p2 n c2] 26)
    have ko3 := Box2.new w2 (.int .i64 (m : Int)) (.slice p2 n c2) 26
    have ho3 := ho2.below (boxed w2 (.cells #[.int .i64 (m : Int), .slice p2 n c2] 26))
    have hx3 := hx2.alloc (.cells #[.int .i64 (m : Int), .slice p2 n c2] 26)
    have hy3 := hy2.alloc (.cells #[.int .i64 (m : Int), .slice p2 n c2] 26)
    have hT3 := Below.step hT2 (boxed w2 (.cells #[.int .i64 (m : Int), .slice p2 n c2] 26))
    have hs3 : w2.heap.size + 1 ≤ (w2.alloc (.cells #[.int .i64 (m : Int), .slice p2 n c2] 26)).heap.size := by simp
    go_wp2
    generalize w2.alloc (.cells #[.int .i64 (m : Int), .slice p2 n c2] 26) = W2 at *
    go_loopw [7] (fun i wr => ∃ k : Nat, k ≤ n ∧ i = .int .i64 k ∧ OwnP 36 wr w1.heap.size w2.heap.size p2 n c2 rows (mixP (moveW hs xs) hs k) ∧ Within w1.heap.size w2.heap.size W2 wr) (fun i _ => n - (intOf i).toNat)
    case atStart => exact ⟨0, Nat.zero_le _, rfl, by rw [mixP_zero]; exact ho3, Within.refl _ _ _⟩
    case round =>
      obtain ⟨k, hk, rfl, hown, hw⟩ := hrel
      have hbt := Below.mark hT3 hw (by omega)
      have ko4 := ko3.within hw (.inr (Nat.le_refl _))
      have kr4 := kr3.within hw (.inl (by omega))
      have hsw := hw.size
      by_cases hlt : k < n
      · have hkr : k < rows.length := by rw [hown.count]; exact hlt
        have hmx : prAt (mixP (moveW hs xs) hs k) k = prAt hs k := mixP_at (by rw [hl4.out, hl.out]; exact hk)
        have hl' : k < hs.length := by rw [hl.out]; exact hlt
        have hn1 : nrm (mixP (moveW hs xs) hs k) k = nrm hs k := by rw [nrm, hmx]; rfl
        have hn2 : bnd (mixP (moveW hs xs) hs k) k = bnd hs k := by rw [bnd, hmx]; rfl
        have hi5 := (hown.inner k hkr).ints
        rw [hn1] at hi5
        have hmk : rows[k].2.1 = m := by rw [← hi5.len]; exact Hlen.out k hl'
        obtain ⟨g, rfl, hg1, hg2, hgc, hgb, hgf⟩ := hown.rowAt k hlt hkr
        have hset := hown.setB halfNe k hlt (wrap64 (bnd hs k + dotW (nrm hs k) xs))
        rw [hn1, ← moveW_at hl', mixP_set (by rw [hl4.out]; exact hl') hl'] at hset
        rw [hn2] at hgb
        rw [hmk] at hi5 hgc
        clear hn1 hn2 hmk
        generalize rows[k].1 = q1 at *
        generalize rows[k].2.2 = d1 at *
        have hy5 := hy.below hbt
        have hw5 := hw
        have o1 := ko4.c1
        have hgf1 := hgf (k * 2 + 1)
        clear hgf hmx
        go_wp2
        generalize wr = W4 at *
        go_region_law ((go_simp; go_at_call 34; (with_reducible refine (l2Dot_any _ _ _ _ _ _ _ _ (by omega) hi5.drew hy5.drew).mono ?_); rintro e w' ⟨rfl, zz, rfl⟩))
        all_goals
          have hs9 := hset.drewN (1 + zz)
          go_wp2
          go_roundw
          case rel =>
            exact ⟨k + 1, by omega, by go_num, hs9, (hw5.drewN (1 + zz)).setCell hg1 hg2 _⟩
          case measure => simp [intOf]; omega
      · have e : k = n := by omega
        subst e
        rw [mixP_all (by rw [hl4.out, hl.out]; exact Nat.le_refl _) (by rw [hl.out]; exact Nat.le_refl _)] at hown
        have o0 := ko4.c0
        have o1 := ko4.c1
        have hM : OwnPM 36 _ _ _ _ _ _ _ := ⟨rows, hown⟩
        cases h9 : isReg (m : Int) (moveW hs xs)
        all_goals
          go_wp2_with fail
          refine (specIsRegion_any _ _ _ _ _ _ (by omega) hM.rd).mono ?_
          rw [h9]
          rintro e w9 ⟨rfl, hb9⟩
          have kr9 := kr4.below hb9
          have ko9 := ko4.below hb9
          have o0' := ko9.c0
          have o1' := ko9.c1
          have r0 := kr9.c0
          have r1 := kr9.c1
          have f0 := kr9.fr 0
          have f1 := kr9.fr 1
          have hbb := Below.step hbt hb9
          have hs9 := hb9.size
          have ho9 := hM.below hb9
        · have kf := (kr9.set0 (.int .i64 0)).set1 (.slice none 0 0)
          have kf0 := kf.c0
          have kf1 := kf.c1
          go_wp2
          rw [H.out, regIf_no h9]
          refine bodyPost_ret (v := .tuple #[.agg #[.int .i64 0, .slice none 0 0], .bool false]) (by simp [results, Tryz.results7, go_sem, kf0, kf1]) rfl ?_
          exact ⟨_, _, _, rfl, OwnPM.nil _ _ _ _, back2 hbb 1 _ _⟩
        · have kf := (kr9.set0 (.int .i64 (m : Int))).set1 (.slice p2 k c2)
          have kf0 := kf.c0
          have kf1 := kf.c1
          go_wp2
          rw [H.out, regIf_yes h9]
          refine bodyPost_ret (v := .tuple #[.agg #[.int .i64 (m : Int), .slice p2 k c2], .bool true]) (by simp [results, Tryz.results7, go_sem, kf0, kf1]) rfl ?_
          refine ⟨_, _, _, rfl, ?_, back2 hbb 1 _ _⟩
          exact ((ho9.widen (lo' := w.heap.size + 2) (by omega) (Nat.le_refl _)).setBelow (a := ⟨_, _, none⟩) (by dsimp only; omega) _ |>.setBelow (a := ⟨_, _, none⟩) (by dsimp only; omega) _).up.widen (by omega) (Nat.le_refl _)
  · have H : Hid (moveV z hs xs = ((0, []), false)) := by show _ = _; simp only [moveV, if_neg hok]
    have r0 := kr.c0
    have hfin : ∀ w1 : World, Below ((w.alloc (.cells #[.int .i64 z, .slice p n c] 26)).alloc (.cells #[.int .i64 0, .slice none 0 0] 26)).heap.size ((w.alloc (.cells #[.int .i64 z, .slice p n c] 26)).alloc (.cells #[.int .i64 0, .slice none 0 0] 26)) w1 →
        Box2 ((w1.setCell ⟨w.heap.size + 1, 0, none⟩ (.int .i64 0)).setCell ⟨w.heap.size + 1, 1, none⟩ (.slice none 0 0)) (w.heap.size + 1) (.int .i64 0) (.slice none 0 0) 26 ∧
        NewRB w ((0, []), false) (.returned (.tuple #[.agg #[.int .i64 0, .slice none 0 0], .bool false])) ((w1.setCell ⟨w.heap.size + 1, 0, none⟩ (.int .i64 0)).setCell ⟨w.heap.size + 1, 1, none⟩ (.slice none 0 0)) := fun w1 hb1 =>
      ⟨((kr.below hb1).set0 _).set1 _, ⟨_, _, _, rfl, OwnPM.nil _ _ _ _, back2 (Below.step hT hb1) 1 _ _⟩⟩
    have Hfin := Lib.hid hfin
    clear hfin r0
    generalize hWg : ((w.alloc (.cells #[.int .i64 z, .slice p n c] 26)).alloc (.cells #[.int .i64 0, .slice none 0 0] 26)) = W0 at *
    have HW := Lib.hid hWg
    clear hWg
    cases h1 : isReg z hs
    · go_enter Tryz.func7, Tryz.ntmps7
      go_wp2_with fail
      rw [HW.out]
      refine (specIsRegion_any _ _ _ _ _ _ (by omega) hx1).mono ?_
      rw [h1]
      rintro e w1 ⟨rfl, hb1⟩
      have kr1 := kr.below hb1
      have r0 := kr1.c0
      have r1 := kr1.c1
      have f0 := kr1.fr 0
      have f1 := kr1.fr 1
      obtain ⟨kf, hpost⟩ := Hfin.out _ hb1
      have kf0 := kf.c0
      have kf1 := kf.c1
      have Hpost := Lib.hid hpost
      clear hpost kf
      go_wp2
      rw [H.out]
      exact bodyPost_ret (v := .tuple #[.agg #[.int .i64 0, .slice none 0 0], .bool false]) (by simp [results, Tryz.results7, go_sem, kf0, kf1]) rfl Hpost.out
    cases h2 : isVec xs
    · go_enter Tryz.func7, Tryz.ntmps7
      go_wp2_with fail
      rw [HW.out]
      refine (specIsRegion_any _ _ _ _ _ _ (by omega) hx1).mono ?_
      rw [h1]
      rintro e w1 ⟨rfl, hb1⟩
      have kr1 := kr.below hb1
      have r0 := kr1.c0
      have r1 := kr1.c1
      have f0 := kr1.fr 0
      have f1 := kr1.fr 1
      obtain ⟨kf, hpost⟩ := Hfin.out _ hb1
      have kf0 := kf.c0
      have kf1 := kf.c1
      have Hpost := Lib.hid hpost
      clear hpost kf
      go_wp2_with fail
      refine (specIsVector_any _ _ _ _ _ (hy1.below hb1) (by omega)).mono ?_
      rw [h2]
      rintro e w2 ⟨rfl, rfl⟩
      go_wp2
      rw [H.out]
      exact bodyPost_ret (v := .tuple #[.agg #[.int .i64 0, .slice none 0 0], .bool false]) (by simp [results, Tryz.results7, go_sem, kf0, kf1]) rfl Hpost.out
    · have h3 : ((m : Int) != z) = true := by
        rw [bne_iff_ne]
        intro e
        exact hok ⟨h1, h2, by rw [hl2.out]; exact e⟩
      clear hok
      go_enter Tryz.func7, Tryz.ntmps7
      go_wp2_with fail
      rw [HW.out]
      refine (specIsRegion_any _ _ _ _ _ _ (by omega) hx1).mono ?_
      rw [h1]
      rintro e w1 ⟨rfl, hb1⟩
      have kb1 := kb.below hb1
      have b0 := kb1.c0
      have kr1 := kr.below hb1
      have r0 := kr1.c0
      have r1 := kr1.c1
      have f0 := kr1.fr 0
      have f1 := kr1.fr 1
      obtain ⟨kf, hpost⟩ := Hfin.out _ hb1
      have kf0 := kf.c0
      have kf1 := kf.c1
      have Hpost := Lib.hid hpost
      clear hpost kf
      go_wp2_with fail
      refine (specIsVector_any _ _ _ _ _ (hy1.below hb1) (by omega)).mono ?_
      rw [h2]
      rintro e w2 ⟨rfl, rfl⟩
      go_wp2
      rw [H.out]
      exact bodyPost_ret (v := .tuple #[.agg #[.int .i64 0, .slice none 0 0], .bool false]) (by simp [results, Tryz.results7, go_sem, kf0, kf1]) rfl Hpost.out

end Go.Proofs.YtpfklkmmhdpphadGreatDoor
