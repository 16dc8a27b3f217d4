/- Contract of impl.MoveRegion. Conditions: sizes. -/
import Derived.Test.YtpfklkmmhdpphadGreatDoorCopy2
namespace Go.Proofs.YtpfklkmmhdpphadGreatDoor
open Go.RowKit
set_option linter.unusedVariables false
set_option linter.unusedSimpArgs false
set_option maxRecDepth 100000

/-- The halves, each bound moved. -/
def moveW (hs : List Pr) (xs : List Int) : List Pr := hs.map fun h => (h.1, wrap64 (h.2 + dotW h.1 xs))
theorem moveW_length (hs : List Pr) (xs : List Int) : (moveW hs xs).length = hs.length := by simp [moveW]
theorem moveW_at {hs : List Pr} {xs : List Int} {k : Nat} (h : k < hs.length) : prAt (moveW hs xs) k = (nrm hs k, wrap64 (bnd hs k + dotW (nrm hs k) xs)) := by
  rw [prAt_eq (by rw [moveW_length]; exact h)]; simp [moveW, nrm, bnd, prAt_eq h]
def moveV (z : Int) (hs : List Pr) (xs : List Int) : (Int × List Pr) × Bool := if isReg z hs = true ∧ isVec xs = true ∧ (xs.length : Int) = z then regIf z (moveW hs xs) else ((0, []), false)

/-- A struct that the call keeps, and its result's, both new. -/
theorem boxes2 (w : World) (z : Int) (p : Option Addr) (n c : Nat) :
    Box2 ((w.alloc (.cells #[.int .i64 z, .slice p n c] 26)).alloc (.cells #[.int .i64 0, .slice none 0 0] 26)) w.heap.size (.int .i64 z) (.slice p n c) 26 ∧
    Box2 ((w.alloc (.cells #[.int .i64 z, .slice p n c] 26)).alloc (.cells #[.int .i64 0, .slice none 0 0] 26)) (w.heap.size + 1) (.int .i64 0) (.slice none 0 0) 26 ∧
    w.heap.size + 2 ≤ ((w.alloc (.cells #[.int .i64 z, .slice p n c] 26)).alloc (.cells #[.int .i64 0, .slice none 0 0] 26)).heap.size := by
  refine ⟨(Box2.new w _ _ _).alloc _, ?_, by simp⟩
  have h := Box2.new (w.alloc (.cells #[.int .i64 z, .slice p n c] 26)) (.int .i64 0) (.slice none 0 0) 26
  rwa [World.size_alloc] at h

theorem back2 {w w1 : World} (hb : Below w.heap.size w w1) (k : Nat) (u v : Value) : Below w.heap.size w ((w1.setCell ⟨w.heap.size + k, 0, none⟩ u).setCell ⟨w.heap.size + k, 1, none⟩ v) :=
  (hb.setCell (p := ⟨_, _, none⟩) (by dsimp only; omega) _).setCell (p := ⟨_, _, none⟩) (by dsimp only; omega) _

theorem OwnP.drewN {E : TypeId} {w : World} {lo hi : Nat} {p : Option Addr} {n c : Nat} {rows : List Row} {hs : List Pr} (h : OwnP E w lo hi p n c rows hs) (z : Nat) : OwnP E (w.drewN z) lo hi p n c rows hs :=
  h.below (Below.drawn (Below.refl _ _) z)

set_option maxHeartbeats 1000000 in
theorem implMove_any (z : Int) (p q : Option Addr) (n c m d : Nat) (hs : List Pr) (xs : List Int) (w : World) (hn : n ≤ 1048576) (hm : m ≤ 1048576) (hx : Prs w p n hs) (hy : Ints w q m xs) (hm2 : totH hs ≤ 1048576) :
    Calls Tryz.prog 6 #[.agg #[.int .i64 z, .slice p n c], .slice q m d] w (NewRB w (moveV z hs xs)) := by
  have hl := Lib.hid hx.len
  have hl2 := Lib.hid hy.len
  obtain ⟨kb, kr, hsz⟩ := boxes2 w z p n c
  have hT := boxed2 w (.cells #[.int .i64 z, .slice p n c] 26) (.cells #[.int .i64 0, .slice none 0 0] 26)
  have hx1 := hx.below hT
  have hy1 := hy.below hT
  by_cases hok : isReg z hs = true ∧ isVec xs = true ∧ (xs.length : Int) = z
  · obtain ⟨h1, h2, h3⟩ := hok
    have H : Hid (moveV z hs xs = regIf z (moveW hs xs)) := by show _ = _; simp [moveV, h1, h2, h3]
    rw [hl2.out] at h3
    subst h3
    have Hlen : Hid (∀ k, k < hs.length → (nrm hs k).length = m) := Lib.hid fun k hk => by have := isReg_len h1 k hk; omega
    have hl4 := Lib.hid (moveW_length hs xs)
    go_enter Tryz.func6, Tryz.ntmps6
    go_wp2_with fail
    generalize ((w.alloc (.cells #[.int .i64 (m : Int), .slice p n c] 26)).alloc (.cells #[.int .i64 0, .slice none 0 0] 26)) = W0 at *
    refine (implIsRegion_any _ _ _ _ _ _ (by omega) hx1).mono ?_
    rw [h1]
    rintro e w1 ⟨rfl, hb1⟩
    have hT1 := Below.step hT hb1
    have kb1 := kb.below hb1
    have kr1 := kr.below hb1
    have hs1 := hb1.size
    have b0 := kb1.c0
    have b1 := kb1.c1
    go_wp2_with fail
    refine (implIsVector_any _ _ _ _ _ (hy1.below hb1) (by omega)).mono ?_
    rw [h2]
    rintro e w2 ⟨rfl, rfl⟩
    go_wp2_with fail
    refine (copyRegion_any _ _ _ _ _ _ hn (hx1.below hb1) hm2).mono ?_
    rintro e w2 ⟨p2, c2, rfl, ⟨rows, ho2⟩, hb2⟩
    have hT2 := Below.step hT1 hb2
    have kb2 := kb1.below hb2
    have kr2 := kr1.below hb2
    have hs2 := hb2.size
    have hx2 := (hx1.below hb1).below hb2
    have hy2 := (hy1.below hb1).below hb2
    clear b0 b1
    have b0 := kb2.c0
    have b1 := kb2.c1
    have kb3 := kb2.alloc (.cells #[.int .i64 (m : Int), .slice p2 n c2] 26)
    have b2 := kb3.c1
    have kr3 := kr2.alloc (.cells #[.int .i64 (m : Int), .slice p2 n c2] 26)
    have ko3 := Box2.new w2 (.int .i64 (m : Int)) (.slice p2 n c2) 26
    have ho3 := ho2.below (boxed w2 (.cells #[.int .i64 (m : Int), .slice p2 n c2] 26))
    have hx3 := hx2.alloc (.cells #[.int .i64 (m : Int), .slice p2 n c2] 26)
    have hy3 := hy2.alloc (.cells #[.int .i64 (m : Int), .slice p2 n c2] 26)
    have hT3 := Below.step hT2 (boxed w2 (.cells #[.int .i64 (m : Int), .slice p2 n c2] 26))
    have hs3 : w2.heap.size + 1 ≤ (w2.alloc (.cells #[.int .i64 (m : Int), .slice p2 n c2] 26)).heap.size := by simp
    go_wp2
    generalize w2.alloc (.cells #[.int .i64 (m : Int), .slice p2 n c2] 26) = W2 at *
    go_loopw [30] (fun i wr => ∃ k : Nat, k ≤ n ∧ i = .int .i64 k ∧ OwnP 36 wr w1.heap.size w2.heap.size p2 n c2 rows (mixP (moveW hs xs) hs k) ∧ Within w1.heap.size w2.heap.size W2 wr) (fun i _ => n - (intOf i).toNat)
    case atStart => exact ⟨0, Nat.zero_le _, rfl, by rw [mixP_zero]; exact ho3, Within.refl _ _ _⟩
    case round =>
      obtain ⟨k, hk, rfl, hown, hw⟩ := hrel
      have hbt := Below.mark hT3 hw (by omega)
      have ko4 := ko3.within hw (.inr (Nat.le_refl _))
      have kr4 := kr3.within hw (.inl (by omega))
      have hsw := hw.size
      by_cases hlt : k < n
      · have hkr : k < rows.length := by rw [hown.count]; exact hlt
        have hmx : prAt (mixP (moveW hs xs) hs k) k = prAt hs k := mixP_at (by rw [hl4.out, hl.out]; exact hk)
        obtain ⟨b, o, q1, m1, d1, rfl, hc, hcb, hmd, hd, hi⟩ := (hx.below hbt).cell k hlt
        have hl' : k < hs.length := by rw [hl.out]; exact hlt
        obtain rfl : m1 = m := by rw [← hi.len]; exact Hlen.out k hl'
        have bx := boxed wr (.cells #[.slice q1 m1 d1, .int .i64 (bnd hs k)] 36)
        have kh := Box2.new wr (.slice q1 m1 d1) (.int .i64 (bnd hs k)) 36
        have ko5 := ko4.below bx
        have hown5 := hown.below bx
        have hi5 := hi.below bx
        have hy5 := (hy.below hbt).below bx
        have hw5 := hw.trans (Within.of_below bx)
        obtain ⟨g, rfl, hg1, hg2, hgc, hgb, hgf⟩ := hown5.rowAt k hlt hkr
        have hset := hown5.setB halfNe k hlt (wrap64 (bnd hs k + dotW (nrm hs k) xs))
        have hn1 : nrm (mixP (moveW hs xs) hs k) k = nrm hs k := by rw [nrm, hmx]; rfl
        have hn2 : bnd (mixP (moveW hs xs) hs k) k = bnd hs k := by rw [bnd, hmx]; rfl
        rw [hn1, ← moveW_at hl', mixP_set (by rw [hl4.out]; exact hl') hl'] at hset
        rw [hn2] at hgb
        clear hn1 hn2
        have o1 := ko5.c1
        have h0 := kh.c0
        have hgf1 := hgf (k * 2 + 1)
        clear hgf hmx hgc
        go_wp2
        generalize wr.alloc (.cells #[.slice q1 m1 d1, .int .i64 (bnd hs k)] 36) = W4 at *
        go_region_law ((go_simp; go_at_call 30; (with_reducible refine (dot_any _ _ _ _ _ _ _ _ (by omega) hi5.drew hy5.drew).mono ?_); rintro e w' ⟨rfl, zz, rfl⟩))
        all_goals
          have hs9 := hset.drewN (1 + zz)
          go_wp2
          go_roundw
          case rel =>
            exact ⟨k + 1, by omega, by go_num, hs9, (hw5.drewN (1 + zz)).setCell hg1 hg2 _⟩
          case measure => simp [intOf]; omega
      · have e : k = n := by omega
        subst e
        rw [mixP_all (by rw [hl4.out, hl.out]; exact Nat.le_refl _) (by rw [hl.out]; exact Nat.le_refl _)] at hown
        have o0 := ko4.c0
        have o1 := ko4.c1
        go_wp2_with fail
        refine (regionOf_any _ _ _ _ _ _ _ _ (by omega) ⟨rows, hown⟩).mono ?_
        rintro e w9 ⟨⟨p9, n9, c9, rfl, ho9⟩, hb9⟩
        have kr9 := kr4.below hb9
        have r0 := kr9.c0
        have r1 := kr9.c1
        have f0 := kr9.fr 0
        have f1 := kr9.fr 1
        have hbb := Below.step hbt hb9
        have hs9 := hb9.size
        have kf := (kr9.set0 (.int .i64 (regIf (m : Int) (moveW hs xs)).1.1)).set1 (.slice p9 n9 c9)
        have kf0 := kf.c0
        have kf1 := kf.c1
        go_wp2
        rw [H.out]
        refine bodyPost_ret (v := .tuple #[.agg #[.int .i64 (regIf (m : Int) (moveW hs xs)).1.1, .slice p9 n9 c9], .bool (regIf (m : Int) (moveW hs xs)).2]) (by simp [results, Tryz.results6, go_sem, kf0, kf1]) rfl ?_
        refine ⟨_, _, _, rfl, ?_, back2 hbb 1 _ _⟩
        refine ((ho9.widen (lo' := w.heap.size + 2) (by omega) (Nat.le_refl _)).setBelow (a := ⟨_, _, none⟩) (by dsimp only; omega) _ |>.setBelow (a := ⟨_, _, none⟩) (by dsimp only; omega) _).up.widen (by omega) (Nat.le_refl _)
  · have H : Hid (moveV z hs xs = ((0, []), false)) := by show _ = _; simp only [moveV, if_neg hok]
    have r0 := kr.c0
    have hfin : ∀ w1 : World, Below ((w.alloc (.cells #[.int .i64 z, .slice p n c] 26)).alloc (.cells #[.int .i64 0, .slice none 0 0] 26)).heap.size ((w.alloc (.cells #[.int .i64 z, .slice p n c] 26)).alloc (.cells #[.int .i64 0, .slice none 0 0] 26)) w1 →
        Box2 ((w1.setCell ⟨w.heap.size + 1, 0, none⟩ (.int .i64 0)).setCell ⟨w.heap.size + 1, 1, none⟩ (.slice none 0 0)) (w.heap.size + 1) (.int .i64 0) (.slice none 0 0) 26 ∧
        NewRB w ((0, []), false) (.returned (.tuple #[.agg #[.int .i64 0, .slice none 0 0], .bool false])) ((w1.setCell ⟨w.heap.size + 1, 0, none⟩ (.int .i64 0)).setCell ⟨w.heap.size + 1, 1, none⟩ (.slice none 0 0)) := fun w1 hb1 =>
      ⟨((kr.below hb1).set0 _).set1 _, ⟨_, _, _, rfl, OwnPM.nil _ _ _ _, back2 (Below.step hT hb1) 1 _ _⟩⟩
    have Hfin := Lib.hid hfin
    clear hfin r0
    generalize hWg : ((w.alloc (.cells #[.int .i64 z, .slice p n c] 26)).alloc (.cells #[.int .i64 0, .slice none 0 0] 26)) = W0 at *
    have HW := Lib.hid hWg
    clear hWg
    cases h1 : isReg z hs
    · go_enter Tryz.func6, Tryz.ntmps6
      go_wp2_with fail
      rw [HW.out]
      refine (implIsRegion_any _ _ _ _ _ _ (by omega) hx1).mono ?_
      rw [h1]
      rintro e w1 ⟨rfl, hb1⟩
      have kr1 := kr.below hb1
      have r0 := kr1.c0
      have r1 := kr1.c1
      have f0 := kr1.fr 0
      have f1 := kr1.fr 1
      obtain ⟨kf, hpost⟩ := Hfin.out _ hb1
      have kf0 := kf.c0
      have kf1 := kf.c1
      have Hpost := Lib.hid hpost
      clear hpost kf
      go_wp2
      rw [H.out]
      exact bodyPost_ret (v := .tuple #[.agg #[.int .i64 0, .slice none 0 0], .bool false]) (by simp [results, Tryz.results6, go_sem, kf0, kf1]) rfl Hpost.out
    cases h2 : isVec xs
    · go_enter Tryz.func6, Tryz.ntmps6
      go_wp2_with fail
      rw [HW.out]
      refine (implIsRegion_any _ _ _ _ _ _ (by omega) hx1).mono ?_
      rw [h1]
      rintro e w1 ⟨rfl, hb1⟩
      have kr1 := kr.below hb1
      have r0 := kr1.c0
      have r1 := kr1.c1
      have f0 := kr1.fr 0
      have f1 := kr1.fr 1
      obtain ⟨kf, hpost⟩ := Hfin.out _ hb1
      have kf0 := kf.c0
      have kf1 := kf.c1
      have Hpost := Lib.hid hpost
      clear hpost kf
      go_wp2_with fail
      refine (implIsVector_any _ _ _ _ _ (hy1.below hb1) (by omega)).mono ?_
      rw [h2]
      rintro e w2 ⟨rfl, rfl⟩
      go_wp2
      rw [H.out]
      exact bodyPost_ret (v := .tuple #[.agg #[.int .i64 0, .slice none 0 0], .bool false]) (by simp [results, Tryz.results6, go_sem, kf0, kf1]) rfl Hpost.out
    · have h3 : ((m : Int) != z) = true := by
        rw [bne_iff_ne]
        intro e
        exact hok ⟨h1, h2, by rw [hl2.out]; exact e⟩
      clear hok
      go_enter Tryz.func6, Tryz.ntmps6
      go_wp2_with fail
      rw [HW.out]
      refine (implIsRegion_any _ _ _ _ _ _ (by omega) hx1).mono ?_
      rw [h1]
      rintro e w1 ⟨rfl, hb1⟩
      have kb1 := kb.below hb1
      have b0 := kb1.c0
      have kr1 := kr.below hb1
      have r0 := kr1.c0
      have r1 := kr1.c1
      have f0 := kr1.fr 0
      have f1 := kr1.fr 1
      obtain ⟨kf, hpost⟩ := Hfin.out _ hb1
      have kf0 := kf.c0
      have kf1 := kf.c1
      have Hpost := Lib.hid hpost
      clear hpost kf
      go_wp2_with fail
      refine (implIsVector_any _ _ _ _ _ (hy1.below hb1) (by omega)).mono ?_
      rw [h2]
      rintro e w2 ⟨rfl, rfl⟩
      go_wp2
      rw [H.out]
      exact bodyPost_ret (v := .tuple #[.agg #[.int .i64 0, .slice none 0 0], .bool false]) (by simp [results, Tryz.results6, go_sem, kf0, kf1]) rfl Hpost.out

end Go.Proofs.YtpfklkmmhdpphadGreatDoor
