/- Contract of spec.ParseRegion. Conditions: sizes. -/
import Derived.Test.YtpfklkmmhdpphadGreatDoorPReg
namespace Go.Proofs.YtpfklkmmhdpphadGreatDoor
open Go.RowKit
set_option linter.unusedVariables false
set_option linter.unusedSimpArgs false
set_option maxRecDepth 100000

attribute [local go_sem ↓] Go.wp_at_zero Go.wp_at_succ

set_option maxHeartbeats 4000000 in
theorem specPReg_any (l : List UInt8) (w : World) (hl : l.length ≤ 1048576) :
    Calls Tryz.prog 15 #[.string ⟨l.toArray⟩] w (NewRB w (pregV l)) := by
  have Hpl : Hid (∀ k, k < (splitW (byteD 59) l).length → (nthS (splitW (byteD 59) l) k).length ≤ 1048576) := Lib.hid fun k hk => Nat.le_trans (piece_len hk) hl
  have HL := splitA_length (byteD 59) l []
  have HL2 : (splitW (byteD 59) l).length ≤ 1048577 := by unfold splitW; omega
  have HN0 : 0 < (splitW (byteD 59) l).length := List.length_pos_iff.2 (splitW_ne _ _)
  have HV0 := Lib.hid (pregV_no0 (l := l))
  have HVH := Lib.hid (pregV_noH (l := l))
  have HVE := Lib.hid (pregV_end (l := l))
  have HVB := Lib.hid (reg_back (l := l))
  have kr := Box2.new w (.int .i64 0) (.slice none 0 0) 26
  have hB0 := boxed w (.cells #[.int .i64 0, .slice none 0 0] 26)
  have hdl : (⟨l.toArray⟩ : ByteArray).data.toList = l := by simp
  have CS0 := Lib.hid (fun W => specSplit_any ⟨l.toArray⟩ l 59 W hdl hl (by omega) (by omega))
  clear HL hdl
  go_enter Tryz.func15, Tryz.ntmps15
  go_wp2_with fail
  refine (CS0.out _).mono ?_
  rintro e w1 ⟨p1, N, c1, rfl, hps, hb1⟩
  have hN := Lib.hid hps.len
  generalize splitW (byteD 59) l = ps at *
  have hN1 : N ≤ 1048577 := by rw [← hN.out]; exact HL2
  have hN2 : 0 < N := by rw [← hN.out]; exact HN0
  have hT1 := Below.step hB0 hb1
  have kr1 := kr.below hb1
  obtain ⟨b, rfl⟩ : ∃ b, p1 = some ⟨b, 0, none⟩ := by
    rcases OwnV.form1 hps with ⟨_, h0, _⟩ | ⟨g, e, _⟩
    · omega
    · exact ⟨g, e⟩
  have hc0 := hps.cell hN2
  have C0 := Lib.hid (fun W => specParseInt_any (nthS ps 0) W (Hpl.out 0 (by rw [hN.out]; exact hN2)))
  have HR0 : Hid (numP (nthS ps 0) = parseW 999999999999 (nthS ps 0)) := rfl
  generalize hR0 : parseW 999999999999 (nthS ps 0) = R0 at *
  obtain ⟨z, ok⟩ := R0
  generalize nthS ps 0 = t0 at *
  rw [HR0.out] at HV0 HVE HVB
  clear hR0
  have hz0i : (0 : Int) < (N : Int) := by omega
  go_wp2_with fail
  refine (C0.out w1).mono ?_
  rintro e w2 ⟨rfl, hb2⟩
  have hT2 := Below.step hT1 hb2
  have kr2 := kr1.below hb2
  have hs2 := hT2.size
  obtain ⟨M, hM⟩ : ∃ M, N = M + 1 := ⟨N - 1, by omega⟩
  have HM := Lib.hid hM
  have hps2 := hps.below hb2
  have HC : Hid (∀ k, k < M → w2.cell? ⟨b, k + 1, none⟩ = some (.string ⟨(nthS ps.tail k).toArray⟩)) := Lib.hid fun k hk => by
    rw [nthS_tail]; exact hps2.cell (k := k + 1) (by omega)
  have HTl : Hid (ps.tail.length = M) := Lib.hid (by rw [List.length_tail, hN.out]; omega)
  have HPl : Hid (∀ k, k < M → (nthS ps.tail k).length ≤ 1048576) := Lib.hid fun k hk => by rw [nthS_tail]; exact Hpl.out (k + 1) (by rw [hN.out]; omega)
  have hblt := (OwnV.lt hps2 _ rfl).2.2
  have hMb : M ≤ 1048577 := by omega
  clear hM
  generalize ps.tail = tl at *
  have kr3 := kr2.alloc (.cells #[.int .i64 z, .slice none 0 0] 26)
  have ko3 := Box2.new w2 (.int .i64 z) (.slice none 0 0) 26
  have hB3 := boxed w2 (.cells #[.int .i64 z, .slice none 0 0] 26)
  clear hc0
  go_wp2_with fail
  go_loopw [8] (fun i wr => ∃ (k : Nat) (p' : Option Addr) (c' : Nat) (rows : List Row), k ≤ M ∧ i = .int .i64 ((k : Int) + 1) ∧ Box2 wr w2.heap.size (.int .i64 z) (.slice p' k c') 26 ∧ OwnP 36 wr (w2.heap.size + 1) wr.heap.size p' k c' rows (halvesP (tl.take k)) ∧ Hid (okH (tl.take k) = true) ∧ Below w2.heap.size w2 wr ∧ w2.heap.size + 1 ≤ wr.heap.size) (fun i _ => N - (intOf i).toNat)
  case atStart => exact ⟨0, _, _, [], Nat.zero_le _, by simp, ko3, by simpa [halvesP] using OwnP.nil 36 (w2.alloc (.cells #[.int .i64 z, .slice none 0 0] 26)) (w2.heap.size + 1) (w2.alloc (.cells #[.int .i64 z, .slice none 0 0] 26)).heap.size, Lib.hid (by simp [okH]), hB3, by simp⟩
  case round =>
    clear ko3 hB3
    obtain ⟨k, p', c', rows, hk, rfl, ko, hown, hok, hb, hsz⟩ := hrel
    have hbT := Below.step hT2 hb
    have kr4 := kr2.below hb
    by_cases hlt : k < M
    · have hkl : k < tl.length := by rw [HTl.out]; exact hlt
      have hc := HC.out k hlt
      replace hc := (hb.cell (show b < w2.heap.size by omega)).trans hc
      have hpl := HPl.out k hlt
      have hd1 : decide ((k : Int) + 1 < (N : Int)) = true := by have := HM.out; simp; omega
      have hi1 : (0 : Int) ≤ (k : Int) + 1 := by omega
      have hi2 : (k : Int) + 1 < (N : Int) := by have := HM.out; omega
      have E := Lib.hid (halvesP_take hkl)
      have HO1 : Hid ((halfP (nthS tl k)).2 = false → okH tl = false) := Lib.hid (okH_no hkl)
      have HO2 : Hid ((halfP (nthS tl k)).2 = true → okH (tl.take (k + 1)) = true) := Lib.hid (okH_take hkl hok.out)
      have HVF1 : Hid (okH tl = false → pregV l = ((0, []), false)) := Lib.hid fun h => HVH.out h
      generalize nthS tl k = part at *
      have HP : Hid (halfP part = if (splitW (byteD 60) part).length = 2 ∧ (pvecV (nthS (splitW (byteD 60) part) 0)).2 = true ∧ (numP (nthS (splitW (byteD 60) part) 1)).2 = true then (((pvecV (nthS (splitW (byteD 60) part) 0)).1, (numP (nthS (splitW (byteD 60) part) 1)).1), true) else (([], 0), false)) := rfl
      have Hsl : Hid (∀ j, j < (splitW (byteD 60) part).length → (nthS (splitW (byteD 60) part) j).length ≤ 1048576) := Lib.hid fun j hj => Nat.le_trans (piece_len hj) hpl
      have hdp : (⟨part.toArray⟩ : ByteArray).data.toList = part := by simp
      have CS := Lib.hid (fun W => specSplit_any ⟨part.toArray⟩ part 60 W hdp hpl (by omega) (by omega))
      clear hdp
      generalize splitW (byteD 60) part = sd at *
      generalize wr = W at *
      clear hkl hpl
      go_wp2_with fail
      refine (CS.out W).mono ?_
      rintro e w4 ⟨p4, n4, c4, rfl, ho4, hb4⟩
      have hT4 := Below.step hbT hb4
      have kr5 := kr4.below hb4
      have hl4 := Lib.hid ho4.len
      by_cases h2 : n4 = 2
      · subst h2
        obtain ⟨b4, rfl⟩ : ∃ b4, p4 = some ⟨b4, 0, none⟩ := by
          rcases OwnV.form1 ho4 with ⟨_, h0, _⟩ | ⟨g, e, _⟩
          · omega
          · exact ⟨g, e⟩
        have s0 := ho4.cell (k := 0) (by omega)
        have s1 := ho4.cell (k := 1) (by omega)
        have hb4lt := (OwnV.lt ho4 _ rfl).2.2
        have hx0 := Hsl.out 0 (by rw [hl4.out]; omega)
        have hx1 := Hsl.out 1 (by rw [hl4.out]; omega)
        have CV := Lib.hid (fun W => specPVec_any (nthS sd 0) W hx0)
        have CI := Lib.hid (fun W => specParseInt_any (nthS sd 1) W hx1)
        have HPn : Hid (numP (nthS sd 1) = parseW 999999999999 (nthS sd 1)) := rfl
        rw [HPn.out] at HP
        have HPl3 := pvecV_len (nthS sd 0)
        generalize pvecV (nthS sd 0) = RV at *
        generalize parseW 999999999999 (nthS sd 1) = RI at *
        obtain ⟨xs, one⟩ := RV
        obtain ⟨b5, two⟩ := RI
        generalize nthS sd 0 = t1 at *
        generalize nthS sd 1 = t2 at *
        clear hx0 hx1 HPn
        go_wp2_with fail
        refine (CV.out w4).mono ?_
        rintro e w5 ⟨q, m, d, rfl, ho5, hb5⟩
        dsimp only at ho5 HPl3
        have hT5 := Below.step hT4 hb5
        replace s1 := (hb5.cell hb4lt).trans s1
        go_wp2_with fail
        refine (CI.out w5).mono ?_
        rintro e w6 ⟨rfl, hb6⟩
        have hT6 := Below.step hT5 hb6
        have kr6 := (kr5.below hb5).below hb6
        have ko6 := ((ko.below hb4).below hb5).below hb6
        have hown6 := ((hown.below hb4).below hb5).below hb6
        cases one
        · have HVF : Hid (pregV l = ((0, []), false)) := Lib.hid (HVF1.out (HO1.out (by rw [HP.out, if_neg]; rintro ⟨_, h, _⟩; cases h)))
          have r0 := kr6.c0
          have r1 := kr6.c1
          have f0 := kr6.fr 0
          have f1 := kr6.fr 1
          have kf := (kr6.set0 (.int .i64 0)).set1 (.slice none 0 0)
          have kf0 := kf.c0
          have kf1 := kf.c1
          go_wp2_with fail
          rw [HVF.out]
          refine bodyPost_ret (v := .tuple #[.agg #[.int .i64 0, .slice none 0 0], .bool false]) (by simp [results, Tryz.results15, go_sem, kf0, kf1]) rfl ?_
          exact ⟨_, _, _, rfl, OwnPM.nil _ _ _ _, (hT6.setCell (p := ⟨_, _, none⟩) (by dsimp only; omega) _).setCell (p := ⟨_, _, none⟩) (by dsimp only; omega) _⟩
        · cases two
          · have HVF : Hid (pregV l = ((0, []), false)) := Lib.hid (HVF1.out (HO1.out (by rw [HP.out, if_neg]; rintro ⟨_, _, h⟩; cases h)))
            have r0 := kr6.c0
            have r1 := kr6.c1
            have f0 := kr6.fr 0
            have f1 := kr6.fr 1
            have kf := (kr6.set0 (.int .i64 0)).set1 (.slice none 0 0)
            have kf0 := kf.c0
            have kf1 := kf.c1
            go_wp2_with fail
            rw [HVF.out]
            refine bodyPost_ret (v := .tuple #[.agg #[.int .i64 0, .slice none 0 0], .bool false]) (by simp [results, Tryz.results15, go_sem, kf0, kf1]) rfl ?_
            exact ⟨_, _, _, rfl, OwnPM.nil _ _ _ _, (hT6.setCell (p := ⟨_, _, none⟩) (by dsimp only; omega) _).setCell (p := ⟨_, _, none⟩) (by dsimp only; omega) _⟩
          · have HH : Hid (halfP part = ((xs, b5), true)) := Lib.hid (by rw [HP.out, if_pos ⟨hl4.out, rfl, rfl⟩])
            have HO := Lib.hid (HO2.out (by rw [HH.out]))
            have koc1 := ko6.c1
            have hs4 := hb4.size
            have hs5 := hb5.size
            have hs6 := hb6.size
            have ko7 := ko6.alloc (.cells #[.slice q m d, .int .i64 b5] 36)
            go_wp2_with (at_builtin; refine append_half rfl _ _ rfl _ (w2.heap.size + 1) _ _ _ _ _ rfl (hown6.up.outer.alloc _) _ _ _ _ _ rfl (Box2.new _ _ _ _) (by omega) (by simp; omega) ?_; intro p3 c3 w3 ho3 hg3; have ko8 := ko7.grow hg3 (fun a ha => by have := (hown6.outer.lt a ha).1; omega); have kof := ko8.fr 1; have koc4 := ko8.c1)
            have ho5' := (ho5.below hb6).widen (lo' := W.heap.size) (hi' := w6.heap.size) (by omega) (by omega)
            have h3 := (((hown.below hb4).below hb5).below hb6).app halfNe ho5' (by omega) (boxed _ _) ho3 hg3
            have low3 : Below w2.heap.size w2 w3 := (Below.step (Below.step (Below.step hb hb4) hb5) hb6).trans (((boxed w6 (.cells #[.slice q m d, .int .i64 b5] 36)).mono (by omega)).trans (hg3.below (by simp; omega) (fun a ha => by have := (hown6.outer.lt a ha).1; omega)))
            have hs7 : w2.heap.size + 1 ≤ w3.heap.size := by have := hg3.by_.size; simp at this; omega
            go_wp2_with fail
            go_roundw
            case rel =>
              refine ⟨k + 1, _, _, rows ++ [(q, m, d)], by omega, by go_num, ko8.set1 _, ?_, HO, low3.setCell (by dsimp only; omega) _, by simpa using hs7⟩
              rw [E.out, HH.out]
              exact (h3.setBelow (by dsimp only; omega) _).up
            case measure => have := HM.out; simp [intOf]; omega
      · have HVF : Hid (pregV l = ((0, []), false)) := Lib.hid (HVF1.out (HO1.out (by rw [HP.out, if_neg]; rintro ⟨h, _⟩; rw [hl4.out] at h; exact h2 h)))
        have hne1 : ((n4 : Int) != 2) = true := by simp; omega
        have hne2 : (n4 != 2) = true := by simp; omega
        have hT6 := hT4
        have kr6 := kr5
        have r0 := kr6.c0
        have r1 := kr6.c1
        have f0 := kr6.fr 0
        have f1 := kr6.fr 1
        have kf := (kr6.set0 (.int .i64 0)).set1 (.slice none 0 0)
        have kf0 := kf.c0
        have kf1 := kf.c1
        go_wp2_with fail
        rw [HVF.out]
        refine bodyPost_ret (v := .tuple #[.agg #[.int .i64 0, .slice none 0 0], .bool false]) (by simp [results, Tryz.results15, go_sem, kf0, kf1]) rfl ?_
        exact ⟨_, _, _, rfl, OwnPM.nil _ _ _ _, (hT6.setCell (p := ⟨_, _, none⟩) (by dsimp only; omega) _).setCell (p := ⟨_, _, none⟩) (by dsimp only; omega) _⟩
    · obtain rfl : k = M := by omega
      have hd1 : decide ((k : Int) + 1 < (N : Int)) = false := by have := HM.out; simp; omega
      generalize wr = W at *
      rw [List.take_of_length_le (by rw [HTl.out]; exact Nat.le_refl _)] at hown hok
      have o0 := ko.c0
      have o1 := ko.c1
      cases ok
      · have HVF : Hid (pregV l = ((0, []), false)) := Lib.hid (HV0.out rfl)
        have hT6 := hbT
        have kr6 := kr4
        have r0 := kr6.c0
        have r1 := kr6.c1
        have f0 := kr6.fr 0
        have f1 := kr6.fr 1
        have kf := (kr6.set0 (.int .i64 0)).set1 (.slice none 0 0)
        have kf0 := kf.c0
        have kf1 := kf.c1
        go_wp2_with fail
        rw [HVF.out]
        refine bodyPost_ret (v := .tuple #[.agg #[.int .i64 0, .slice none 0 0], .bool false]) (by simp [results, Tryz.results15, go_sem, kf0, kf1]) rfl ?_
        exact ⟨_, _, _, rfl, OwnPM.nil _ _ _ _, (hT6.setCell (p := ⟨_, _, none⟩) (by dsimp only; omega) _).setCell (p := ⟨_, _, none⟩) (by dsimp only; omega) _⟩
      · cases hrg : isReg z (halvesP tl)
        · have HVF : Hid (pregV l = ((0, []), false)) := Lib.hid (by rw [HVE.out rfl hok.out, regIf_no hrg])
          go_wp2_with fail
          refine (specIsRegion_any _ _ _ _ _ _ (by omega) hown.rd).mono ?_
          rw [hrg]
          rintro e w6 ⟨rfl, hb6⟩
          have hT6 := Below.step hbT hb6
          have kr6 := kr4.below hb6
          have r0 := kr6.c0
          have r1 := kr6.c1
          have f0 := kr6.fr 0
          have f1 := kr6.fr 1
          have kf := (kr6.set0 (.int .i64 0)).set1 (.slice none 0 0)
          have kf0 := kf.c0
          have kf1 := kf.c1
          go_wp2_with fail
          rw [HVF.out]
          refine bodyPost_ret (v := .tuple #[.agg #[.int .i64 0, .slice none 0 0], .bool false]) (by simp [results, Tryz.results15, go_sem, kf0, kf1]) rfl ?_
          exact ⟨_, _, _, rfl, OwnPM.nil _ _ _ _, (hT6.setCell (p := ⟨_, _, none⟩) (by dsimp only; omega) _).setCell (p := ⟨_, _, none⟩) (by dsimp only; omega) _⟩
        · have HV6 : Hid (pregV l = ((z, halvesP tl), true)) := Lib.hid (by rw [HVE.out rfl hok.out, regIf_yes hrg])
          have HB : Hid (regT z (halvesP tl) = l) := Lib.hid (HVB.out rfl hok.out hrg)
          go_wp2_with fail
          refine (specIsRegion_any _ _ _ _ _ _ (by omega) hown.rd).mono ?_
          rw [hrg]
          rintro e w6 ⟨rfl, hb6⟩
          have hT6 := Below.step hbT hb6
          have kr6 := kr4.below hb6
          have ko6 := ko.below hb6
          have hown6 := hown.below hb6
          clear o0 o1
          have o0 := ko6.c0
          have o1 := ko6.c1
          go_wp2_with fail
          refine (specRegText_any _ _ _ _ _ _ (by omega) hown6.rd).mono ?_
          rw [HB.out]
          rintro e w7 ⟨rfl, hb7⟩
          have hT7 := Below.step hT6 hb7
          have kr7 := kr6.below hb7
          have ko7 := ko6.below hb7
          have hown7 := (hown6.below hb7).up
          have hs6 := hb6.size
          have hs7 := hb7.size
          clear o0 o1
          have o0 := ko7.c0
          have o1 := ko7.c1
          have r0 := kr7.c0
          have r1 := kr7.c1
          have f0 := kr7.fr 0
          have f1 := kr7.fr 1
          have kf := (kr7.set0 (.int .i64 z)).set1 (.slice p' k c')
          have kf0 := kf.c0
          have kf1 := kf.c1
          go_wp2_with fail
          rw [HV6.out]
          refine bodyPost_ret (v := .tuple #[.agg #[.int .i64 z, .slice p' k c'], .bool true]) (by simp [results, Tryz.results15, go_sem, kf0, kf1]) rfl ?_
          refine ⟨_, _, _, rfl, ⟨rows, ?_⟩, (hT7.setCell (p := ⟨_, _, none⟩) (by dsimp only; omega) _).setCell (p := ⟨_, _, none⟩) (by dsimp only; omega) _⟩
          exact ((hown7.widen (lo' := w.heap.size + 1) (by omega) (Nat.le_refl _)).setBelow (a := ⟨_, _, none⟩) (by dsimp only; omega) _ |>.setBelow (a := ⟨_, _, none⟩) (by dsimp only; omega) _).up.widen (by omega) (Nat.le_refl _)

theorem totR_rows (B : Nat) (hs : List Pr) (h : ∀ r, r ∈ hs → r.1.length ≤ B) : totH hs ≤ B * hs.length := by
  induction hs with
  | nil => simp [totH, nrms, tot]
  | cons r t ih =>
    have h1 := h r (by simp)
    have h2 := ih (fun s hs => h s (by simp [hs]))
    simp only [totH, nrms, tot, List.map_cons, List.sum_cons, List.length_cons, Nat.mul_succ] at h2 ⊢
    omega
theorem pregV_len (l : List UInt8) : (pregV l).1.2.length ≤ 8 ∧ totH (pregV l).1.2 ≤ 24 := by
  unfold pregV
  split
  · rename_i h
    obtain ⟨h1, h3, h8, hh⟩ := isReg_facts h.2.2
    have := totR_rows 3 (halvesP (splitW (byteD 59) l).tail) (fun r hr => by
      obtain ⟨k, hk, rfl⟩ := List.getElem_of_mem hr
      have := (isHalf_facts (hh k hk)).1
      have e : nrm (halvesP (splitW (byteD 59) l).tail) k = (halvesP (splitW (byteD 59) l).tail)[k].1 := by rw [nrm, prAt_eq hk]
      rw [e] at this
      omega)
    refine ⟨h8, ?_⟩
    show totH (halvesP (splitW (byteD 59) l).tail) ≤ 24
    omega
  · simp [totH, nrms, tot]

end Go.Proofs.YtpfklkmmhdpphadGreatDoor
