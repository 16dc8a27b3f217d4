/- Contract of impl.ParseRegion. Conditions: sizes; the library's variables. -/
import Derived.Test.YtpfklkmmhdpphadGreatDoorPRegP
import Derived.Test.YtpfklkmmhdpphadGreatDoorCopy2
namespace Go.Proofs.YtpfklkmmhdpphadGreatDoor
open Go.RowKit
set_option linter.unusedVariables false
set_option linter.unusedSimpArgs false
set_option maxRecDepth 100000

attribute [local go_sem ↓] Go.wp_at_zero Go.wp_at_succ

theorem nthS_tail (ps : List (List UInt8)) (k : Nat) : nthS ps.tail k = nthS ps (k + 1) := by
  cases ps with
  | nil => rfl
  | cons a r => rfl
theorem pregV_no0 {l : List UInt8} (h : (numP (nthS (splitW (byteD 59) l) 0)).2 = false) : pregV l = ((0, []), false) := by unfold pregV; rw [if_neg]; rw [h]; simp
theorem pregV_noH {l : List UInt8} (h : okH (splitW (byteD 59) l).tail = false) : pregV l = ((0, []), false) := by unfold pregV; rw [if_neg]; rw [h]; simp
theorem pregV_end {l : List UInt8} (h0 : (numP (nthS (splitW (byteD 59) l) 0)).2 = true) (h1 : okH (splitW (byteD 59) l).tail = true) : pregV l = regIf (numP (nthS (splitW (byteD 59) l) 0)).1 (halvesP (splitW (byteD 59) l).tail) := by
  unfold pregV regIf
  by_cases h : isReg (numP (nthS (splitW (byteD 59) l) 0)).1 (halvesP (splitW (byteD 59) l).tail) = true
  · rw [if_pos ⟨h0, h1, h⟩, if_pos h]
  · rw [if_neg fun k => h k.2.2, if_neg h]

set_option maxHeartbeats 4000000 in
theorem implPReg_any (l : List UInt8) (w : World) (hl : l.length ≤ 1048576) (ht : TabW w) (he : ErrW w) (hm : MaxW w) :
    Calls Tryz.prog 14 #[.string ⟨l.toArray⟩] w (NewRB w (pregV l)) := by
  have Hpl : Hid (∀ k, k < (splitW (byteD 59) l).length → (nthS (splitW (byteD 59) l) k).length ≤ 1048576) := Lib.hid fun k hk => Nat.le_trans (piece_len hk) hl
  have HL := splitA_length (byteD 59) l []
  have HL2 : (splitW (byteD 59) l).length ≤ 1048577 := by unfold splitW; omega
  have HN0 : 0 < (splitW (byteD 59) l).length := List.length_pos_iff.2 (splitW_ne _ _)
  have HV0 := Lib.hid (pregV_no0 (l := l))
  have HVH := Lib.hid (pregV_noH (l := l))
  have HVE := Lib.hid (pregV_end (l := l))
  have kr := Box2.new w (.int .i64 0) (.slice none 0 0) 26
  have hB0 := boxed w (.cells #[.int .i64 0, .slice none 0 0] 26)
  clear HL
  go_enter Tryz.func14, Tryz.ntmps14
  go_wp2_with fail
  refine (implSplit_any _ _ _ hl (by omega) (by omega) (hm.below hB0)).mono ?_
  rintro e w1 ⟨p1, N, c1, rfl, hps, hb1⟩
  have hN := Lib.hid hps.len
  generalize splitW (byteD 59) l = ps at *
  have hN1 : N ≤ 1048577 := by rw [← hN.out]; exact HL2
  have hN2 : 0 < N := by rw [← hN.out]; exact HN0
  have hT1 := Below.step hB0 hb1
  have kr1 := kr.below hb1
  obtain ⟨b, rfl⟩ : ∃ b, p1 = some ⟨b, 0, none⟩ := by
    rcases OwnV.form1 hps with ⟨_, h0, _⟩ | ⟨g, e, _⟩
    · omega
    · exact ⟨g, e⟩
  have hNc : N ≤ c1 := by
    rcases OwnV.form1 hps with ⟨_, h0, _⟩ | ⟨g, _, _, _, _, hc, _⟩
    · omega
    · exact hc
  have hc0 := hps.cell hN2
  have C0 := Lib.hid (fun W (h1 : TabW W) (h2 : ErrW W) => implParseInt_any (nthS ps 0) W (Hpl.out 0 (by rw [hN.out]; exact hN2)) h1 h2)
  have HR0 : Hid (numP (nthS ps 0) = parseW 999999999999 (nthS ps 0)) := rfl
  generalize hR0 : parseW 999999999999 (nthS ps 0) = R0 at *
  obtain ⟨z, ok⟩ := R0
  generalize nthS ps 0 = t0 at *
  rw [HR0.out] at HV0 HVE
  clear hR0
  have hz0i : (0 : Int) < (N : Int) := by omega
  go_wp2_with fail
  refine (C0.out w1 (ht.below hT1) (he.below hT1)).mono ?_
  rintro e w2 ⟨rfl, hb2⟩
  have hT2 := Below.step hT1 hb2
  have kr2 := kr1.below hb2
  have hs2 := hT2.size
  cases ok
  · have HV4 : Hid (pregV l = ((0, []), false)) := Lib.hid (HV0.out rfl)
    have r0 := kr2.c0
    have r1 := kr2.c1
    have f0 := kr2.fr 0
    have f1 := kr2.fr 1
    have kf := (kr2.set0 (.int .i64 0)).set1 (.slice none 0 0)
    have kf0 := kf.c0
    have kf1 := kf.c1
    have hbb : Below w.heap.size w ((w2.setCell ⟨w.heap.size, 0, none⟩ (.int .i64 0)).setCell ⟨w.heap.size, 1, none⟩ (.slice none 0 0)) :=
      (hT2.setCell (p := ⟨_, _, none⟩) (by dsimp only; omega) _).setCell (p := ⟨_, _, none⟩) (by dsimp only; omega) _
    go_wp2_with fail
    rw [HV4.out]
    refine bodyPost_ret (v := .tuple #[.agg #[.int .i64 0, .slice none 0 0], .bool false]) (by simp [results, Tryz.results14, go_sem, kf0, kf1]) rfl ?_
    exact ⟨_, _, _, rfl, OwnPM.nil _ _ _ _, hbb⟩
  · have HV5 : Hid (okH ps.tail = true → pregV l = regIf z (halvesP ps.tail)) := Lib.hid fun h => HVE.out rfl h
    obtain ⟨M, hM⟩ : ∃ M, N = M + 1 := ⟨N - 1, by omega⟩
    subst hM
    have hps2 := hps.below hb2
    have HC : Hid (∀ k, k < M → w2.cell? ⟨b, 1 + k, none⟩ = some (.string ⟨(nthS ps.tail k).toArray⟩)) := Lib.hid fun k hk => by
      rw [nthS_tail, Nat.add_comm 1 k]; exact hps2.cell (k := k + 1) (by omega)
    have HTl : Hid (ps.tail.length = M) := Lib.hid (by rw [List.length_tail, hN.out]; omega)
    have HPl : Hid (∀ k, k < M → (nthS ps.tail k).length ≤ 1048576) := Lib.hid fun k hk => by rw [nthS_tail]; exact Hpl.out (k + 1) (by rw [hN.out]; omega)
    have hblt := (OwnV.lt hps2 _ rfl).2.2
    generalize ps.tail = tl at *
    have kr3 := kr2.alloc (.cells #[.int .i64 z, .slice none 0 0] 26)
    have ko3 := Box2.new w2 (.int .i64 z) (.slice none 0 0) 26
    have hB3 := boxed w2 (.cells #[.int .i64 z, .slice none 0 0] 26)
    by_cases hc1 : c1 = 1
    · subst hc1
      obtain rfl : M = 0 := by omega
      go_wp2_with fail
      go_loopw [32] (fun i wr => ∃ (k : Nat) (p' : Option Addr) (c' : Nat) (rows : List Row), k ≤ 0 ∧ i = .int .i64 k ∧ Box2 wr w2.heap.size (.int .i64 z) (.slice p' k c') 26 ∧ OwnP 36 wr (w2.heap.size + 1) wr.heap.size p' k c' rows (halvesP (tl.take k)) ∧ Hid (okH (tl.take k) = true) ∧ Below w2.heap.size w2 wr ∧ w2.heap.size + 1 ≤ wr.heap.size) (fun i _ => 0 - (intOf i).toNat)
      case atStart => exact ⟨0, _, _, [], Nat.zero_le _, rfl, ko3, by simpa [halvesP] using OwnP.nil 36 (w2.alloc (.cells #[.int .i64 z, .slice none 0 0] 26)) (w2.heap.size + 1) (w2.alloc (.cells #[.int .i64 z, .slice none 0 0] 26)).heap.size, Lib.hid (by simp [okH]), hB3, by simp⟩
      case round =>
        clear ko3 hB3
        obtain ⟨k, p', c', rows, hk, rfl, ko, hown, hok, hb, hsz⟩ := hrel
        have hbT := Below.step hT2 hb
        have kr4 := kr2.below hb
        by_cases hlt : k < 0
        · omega
        · obtain rfl : k = 0 := by omega
          generalize wr = W at *
          rw [List.take_of_length_le (by rw [HTl.out]; exact Nat.le_refl _)] at hown hok
          have HV6 : Hid (pregV l = regIf z (halvesP tl)) := Lib.hid (HV5.out hok.out)
          have o0 := ko.c0
          have o1 := ko.c1
          go_wp2_with fail
          refine (regionOf_any _ _ _ _ _ _ _ _ (by omega) ⟨rows, hown⟩).mono ?_
          rintro e w9 ⟨⟨p9, n9, c9, rfl, ho9⟩, hb9⟩
          have kr9 := kr4.below hb9
          have r0 := kr9.c0
          have r1 := kr9.c1
          have f0 := kr9.fr 0
          have f1 := kr9.fr 1
          have hbb := Below.step hbT hb9
          have hs9 := hb9.size
          have kf := (kr9.set0 (.int .i64 (regIf z (halvesP tl)).1.1)).set1 (.slice p9 n9 c9)
          have kf0 := kf.c0
          have kf1 := kf.c1
          go_wp2_with fail
          rw [HV6.out]
          refine bodyPost_ret (v := .tuple #[.agg #[.int .i64 (regIf z (halvesP tl)).1.1, .slice p9 n9 c9], .bool (regIf z (halvesP tl)).2]) (by simp [results, Tryz.results14, go_sem, kf0, kf1]) rfl ?_
          refine ⟨_, _, _, rfl, ?_, (hbb.setCell (p := ⟨_, _, none⟩) (by dsimp only; omega) _).setCell (p := ⟨_, _, none⟩) (by dsimp only; omega) _⟩
          exact ((ho9.widen (lo' := w.heap.size + 1) (by omega) (Nat.le_refl _)).setBelow (a := ⟨_, _, none⟩) (by dsimp only; omega) _ |>.setBelow (a := ⟨_, _, none⟩) (by dsimp only; omega) _).up.widen (by omega) (Nat.le_refl _)
    · have hc2 : ¬ (c1 - 1 = 0) := by omega
      go_wp2_with fail
      go_loopw [32] (fun i wr => ∃ (k : Nat) (p' : Option Addr) (c' : Nat) (rows : List Row), k ≤ M ∧ i = .int .i64 k ∧ Box2 wr w2.heap.size (.int .i64 z) (.slice p' k c') 26 ∧ OwnP 36 wr (w2.heap.size + 1) wr.heap.size p' k c' rows (halvesP (tl.take k)) ∧ Hid (okH (tl.take k) = true) ∧ Below w2.heap.size w2 wr ∧ w2.heap.size + 1 ≤ wr.heap.size) (fun i _ => M - (intOf i).toNat)
      case atStart => exact ⟨0, _, _, [], Nat.zero_le _, rfl, ko3, by simpa [halvesP] using OwnP.nil 36 (w2.alloc (.cells #[.int .i64 z, .slice none 0 0] 26)) (w2.heap.size + 1) (w2.alloc (.cells #[.int .i64 z, .slice none 0 0] 26)).heap.size, Lib.hid (by simp [okH]), hB3, by simp⟩
      case round =>
        clear ko3 hB3
        obtain ⟨k, p', c', rows, hk, rfl, ko, hown, hok, hb, hsz⟩ := hrel
        have hbT := Below.step hT2 hb
        have kr4 := kr2.below hb
        by_cases hlt : k < M
        · have hkl : k < tl.length := by rw [HTl.out]; exact hlt
          have hc := HC.out k hlt
          replace hc := (hb.cell (show b < w2.heap.size by omega)).trans hc
          have hpl := HPl.out k hlt
          have hd1 : decide ((k : Int) < (M : Int)) = true := by simp; omega
          have E := Lib.hid (halvesP_take hkl)
          have HO1 : Hid ((halfP (nthS tl k)).2 = false → okH tl = false) := Lib.hid (okH_no hkl)
          have HO2 : Hid ((halfP (nthS tl k)).2 = true → okH (tl.take (k + 1)) = true) := Lib.hid (okH_take hkl hok.out)
          have HVF1 : Hid (okH tl = false → pregV l = ((0, []), false)) := Lib.hid fun h => HVH.out h
          generalize nthS tl k = part at *
          have HP : Hid (halfP part = if (splitW (byteD 60) part).length = 2 ∧ (pvecV (nthS (splitW (byteD 60) part) 0)).2 = true ∧ (numP (nthS (splitW (byteD 60) part) 1)).2 = true then (((pvecV (nthS (splitW (byteD 60) part) 0)).1, (numP (nthS (splitW (byteD 60) part) 1)).1), true) else (([], 0), false)) := rfl
          have Hsl : Hid (∀ j, j < (splitW (byteD 60) part).length → (nthS (splitW (byteD 60) part) j).length ≤ 1048576) := Lib.hid fun j hj => Nat.le_trans (piece_len hj) hpl
          have CS := Lib.hid (fun W (h : MaxW W) => implSplit_any part 60 W hpl (by omega) (by omega) h)
          generalize splitW (byteD 60) part = sd at *
          generalize wr = W at *
          clear hkl hpl
          go_wp2_with fail
          refine (CS.out W (hm.below hbT)).mono ?_
          rintro e w4 ⟨p4, n4, c4, rfl, ho4, hb4⟩
          have hT4 := Below.step hbT hb4
          have kr5 := kr4.below hb4
          have hl4 := Lib.hid ho4.len
          by_cases h2 : n4 = 2
          · subst h2
            obtain ⟨b4, rfl⟩ : ∃ b4, p4 = some ⟨b4, 0, none⟩ := by
              rcases OwnV.form1 ho4 with ⟨_, h0, _⟩ | ⟨g, e, _⟩
              · omega
              · exact ⟨g, e⟩
            have s0 := ho4.cell (k := 0) (by omega)
            have s1 := ho4.cell (k := 1) (by omega)
            have hb4lt := (OwnV.lt ho4 _ rfl).2.2
            have hx0 := Hsl.out 0 (by rw [hl4.out]; omega)
            have hx1 := Hsl.out 1 (by rw [hl4.out]; omega)
            have CV := Lib.hid (fun W (h1 : TabW W) (h2 : ErrW W) (h3 : MaxW W) => implPVec_any (nthS sd 0) W hx0 h1 h2 h3)
            have CI := Lib.hid (fun W (h1 : TabW W) (h2 : ErrW W) => implParseInt_any (nthS sd 1) W hx1 h1 h2)
            have HPn : Hid (numP (nthS sd 1) = parseW 999999999999 (nthS sd 1)) := rfl
            rw [HPn.out] at HP
            have HPl3 := pvecV_len (nthS sd 0)
            generalize pvecV (nthS sd 0) = RV at *
            generalize parseW 999999999999 (nthS sd 1) = RI at *
            obtain ⟨xs, one⟩ := RV
            obtain ⟨b5, two⟩ := RI
            generalize nthS sd 0 = t1 at *
            generalize nthS sd 1 = t2 at *
            clear hx0 hx1 HPn
            go_wp2_with fail
            refine (CV.out w4 (ht.below hT4) (he.below hT4) (hm.below hT4)).mono ?_
            rintro e w5 ⟨q, m, d, rfl, ho5, hb5⟩
            dsimp only at ho5 HPl3
            have hT5 := Below.step hT4 hb5
            replace s1 := (hb5.cell hb4lt).trans s1
            go_wp2_with fail
            refine (CI.out w5 (ht.below hT5) (he.below hT5)).mono ?_
            rintro e w6 ⟨rfl, hb6⟩
            have hT6 := Below.step hT5 hb6
            have kr6 := (kr5.below hb5).below hb6
            have ko6 := ((ko.below hb4).below hb5).below hb6
            have hown6 := ((hown.below hb4).below hb5).below hb6
            cases one
            · have HVF : Hid (pregV l = ((0, []), false)) := Lib.hid (HVF1.out (HO1.out (by rw [HP.out, if_neg]; rintro ⟨_, h, _⟩; cases h)))
              have r0 := kr6.c0
              have r1 := kr6.c1
              have f0 := kr6.fr 0
              have f1 := kr6.fr 1
              have kf := (kr6.set0 (.int .i64 0)).set1 (.slice none 0 0)
              have kf0 := kf.c0
              have kf1 := kf.c1
              go_wp2_with fail
              rw [HVF.out]
              refine bodyPost_ret (v := .tuple #[.agg #[.int .i64 0, .slice none 0 0], .bool false]) (by simp [results, Tryz.results14, go_sem, kf0, kf1]) rfl ?_
              exact ⟨_, _, _, rfl, OwnPM.nil _ _ _ _, (hT6.setCell (p := ⟨_, _, none⟩) (by dsimp only; omega) _).setCell (p := ⟨_, _, none⟩) (by dsimp only; omega) _⟩
            · cases two
              · have HVF : Hid (pregV l = ((0, []), false)) := Lib.hid (HVF1.out (HO1.out (by rw [HP.out, if_neg]; rintro ⟨_, _, h⟩; cases h)))
                have r0 := kr6.c0
                have r1 := kr6.c1
                have f0 := kr6.fr 0
                have f1 := kr6.fr 1
                have kf := (kr6.set0 (.int .i64 0)).set1 (.slice none 0 0)
                have kf0 := kf.c0
                have kf1 := kf.c1
                go_wp2_with fail
                rw [HVF.out]
                refine bodyPost_ret (v := .tuple #[.agg #[.int .i64 0, .slice none 0 0], .bool false]) (by simp [results, Tryz.results14, go_sem, kf0, kf1]) rfl ?_
                exact ⟨_, _, _, rfl, OwnPM.nil _ _ _ _, (hT6.setCell (p := ⟨_, _, none⟩) (by dsimp only; omega) _).setCell (p := ⟨_, _, none⟩) (by dsimp only; omega) _⟩
              · have HH : Hid (halfP part = ((xs, b5), true)) := Lib.hid (by rw [HP.out, if_pos ⟨hl4.out, rfl, rfl⟩])
                have HO := Lib.hid (HO2.out (by rw [HH.out]))
                have koc1 := ko6.c1
                have hs4 := hb4.size
                have hs5 := hb5.size
                have hs6 := hb6.size
                have ko7 := ko6.alloc (.cells #[.slice q m d, .int .i64 b5] 36)
                go_wp2_with (at_builtin; refine append_half rfl _ _ rfl _ (w2.heap.size + 1) _ _ _ _ _ rfl (hown6.up.outer.alloc _) _ _ _ _ _ rfl (Box2.new _ _ _ _) (by omega) (by simp; omega) ?_; intro p3 c3 w3 ho3 hg3; have ko8 := ko7.grow hg3 (fun a ha => by have := (hown6.outer.lt a ha).1; omega); have kof := ko8.fr 1; have koc4 := ko8.c1)
                have ho5' := (ho5.below hb6).widen (lo' := W.heap.size) (hi' := w6.heap.size) (by omega) (by omega)
                have h3 := (((hown.below hb4).below hb5).below hb6).app halfNe ho5' (by omega) (boxed _ _) ho3 hg3
                have low3 : Below w2.heap.size w2 w3 := (Below.step (Below.step (Below.step hb hb4) hb5) hb6).trans (((boxed w6 (.cells #[.slice q m d, .int .i64 b5] 36)).mono (by omega)).trans (hg3.below (by simp; omega) (fun a ha => by have := (hown6.outer.lt a ha).1; omega)))
                have hs7 : w2.heap.size + 1 ≤ w3.heap.size := by have := hg3.by_.size; simp at this; omega
                go_wp2_with fail
                go_roundw
                case rel =>
                  refine ⟨k + 1, _, _, rows ++ [(q, m, d)], by omega, by go_num, ko8.set1 _, ?_, HO, low3.setCell (by dsimp only; omega) _, by simpa using hs7⟩
                  rw [E.out, HH.out]
                  exact (h3.setBelow (by dsimp only; omega) _).up
                case measure => simp [intOf]; omega
          · have HVF : Hid (pregV l = ((0, []), false)) := Lib.hid (HVF1.out (HO1.out (by rw [HP.out, if_neg]; rintro ⟨h, _⟩; rw [hl4.out] at h; exact h2 h)))
            have hne1 : ((n4 : Int) != 2) = true := by simp; omega
            have hne2 : (n4 != 2) = true := by simp; omega
            have hT6 := hT4
            have kr6 := kr5
            have r0 := kr6.c0
            have r1 := kr6.c1
            have f0 := kr6.fr 0
            have f1 := kr6.fr 1
            have kf := (kr6.set0 (.int .i64 0)).set1 (.slice none 0 0)
            have kf0 := kf.c0
            have kf1 := kf.c1
            go_wp2_with fail
            rw [HVF.out]
            refine bodyPost_ret (v := .tuple #[.agg #[.int .i64 0, .slice none 0 0], .bool false]) (by simp [results, Tryz.results14, go_sem, kf0, kf1]) rfl ?_
            exact ⟨_, _, _, rfl, OwnPM.nil _ _ _ _, (hT6.setCell (p := ⟨_, _, none⟩) (by dsimp only; omega) _).setCell (p := ⟨_, _, none⟩) (by dsimp only; omega) _⟩
        · obtain rfl : k = M := by omega
          generalize wr = W at *
          rw [List.take_of_length_le (by rw [HTl.out]; exact Nat.le_refl _)] at hown hok
          have HV6 : Hid (pregV l = regIf z (halvesP tl)) := Lib.hid (HV5.out hok.out)
          have o0 := ko.c0
          have o1 := ko.c1
          go_wp2_with fail
          refine (regionOf_any _ _ _ _ _ _ _ _ (by omega) ⟨rows, hown⟩).mono ?_
          rintro e w9 ⟨⟨p9, n9, c9, rfl, ho9⟩, hb9⟩
          have kr9 := kr4.below hb9
          have r0 := kr9.c0
          have r1 := kr9.c1
          have f0 := kr9.fr 0
          have f1 := kr9.fr 1
          have hbb := Below.step hbT hb9
          have hs9 := hb9.size
          have kf := (kr9.set0 (.int .i64 (regIf z (halvesP tl)).1.1)).set1 (.slice p9 n9 c9)
          have kf0 := kf.c0
          have kf1 := kf.c1
          go_wp2_with fail
          rw [HV6.out]
          refine bodyPost_ret (v := .tuple #[.agg #[.int .i64 (regIf z (halvesP tl)).1.1, .slice p9 n9 c9], .bool (regIf z (halvesP tl)).2]) (by simp [results, Tryz.results14, go_sem, kf0, kf1]) rfl ?_
          refine ⟨_, _, _, rfl, ?_, (hbb.setCell (p := ⟨_, _, none⟩) (by dsimp only; omega) _).setCell (p := ⟨_, _, none⟩) (by dsimp only; omega) _⟩
          exact ((ho9.widen (lo' := w.heap.size + 1) (by omega) (Nat.le_refl _)).setBelow (a := ⟨_, _, none⟩) (by dsimp only; omega) _ |>.setBelow (a := ⟨_, _, none⟩) (by dsimp only; omega) _).up.widen (by omega) (Nat.le_refl _)

end Go.Proofs.YtpfklkmmhdpphadGreatDoor
