/- Contracts of both RegionText. Conditions: sizes; the library's table. -/
import Derived.Test.YtpfklkmmhdpphadGreatDoorRatTx
import Derived.Test.YtpfklkmmhdpphadGreatDoorReg2
namespace Go.Proofs.YtpfklkmmhdpphadGreatDoor
open Go.RowKit
set_option linter.unusedVariables false
set_option linter.unusedSimpArgs false
set_option maxRecDepth 100000

def halfT (h : Pr) : List UInt8 := [59] ++ commaT h.1 ++ [60] ++ Lib.itoa h.2
def regTo (z : Int) (hs : List Pr) (k : Nat) : List UInt8 := Lib.itoa z ++ ((hs.take k).map halfT).flatten
def regT (z : Int) (hs : List Pr) : List UInt8 := if isReg z hs = true then regTo z hs hs.length else []
theorem regTo_succ {z : Int} {hs : List Pr} {k : Nat} (h : k < hs.length) : regTo z hs (k + 1) = regTo z hs k ++ ([59] ++ commaT (nrm hs k) ++ [60] ++ Lib.itoa (bnd hs k)) := by
  rw [regTo, take_prAt h, List.map_append, List.flatten_append, ← List.append_assoc]
  simp [regTo, halfT, nrm, bnd]
theorem half_in {z : Int} {xs : List Int} {b : Int} (h1 : 1 ≤ z) (h3 : z ≤ 3) (h : isHalf z xs b = true) : isVec xs = true ∧ AllIn xs ∧ xs.length ≤ 3 ∧ -200 ≤ b ∧ b ≤ 200 := by
  obtain ⟨hl, ha, _, hb1, hb2⟩ := isHalf_facts h
  have hv : isVec xs = true := by
    simp only [isVec, Bool.and_eq_true, inR, allR, List.all_eq_true, decide_eq_true_eq]
    refine ⟨⟨by omega, by omega⟩, fun x hx => ?_⟩
    have := List.all_eq_true.1 ha x hx
    have := inR_true this
    omega
  exact ⟨hv, vec_in hv, by omega, hb1, hb2⟩
theorem regTo_length {z : Int} {hs : List Pr} (h : isReg z hs = true) : ∀ k, k ≤ hs.length → (regTo z hs k).length ≤ 21 + 100 * k := by
  obtain ⟨h1, h3, h8, hh⟩ := isReg_facts h
  intro k
  induction k with
  | zero =>
    intro _
    have := Lib.itoa_length_le z (by omega) (by omega)
    simp [regTo]; omega
  | succ k ih =>
    intro hk
    obtain ⟨_, hin, hl, hb1, hb2⟩ := half_in h1 h3 (hh k (by omega))
    have h5 := commaT_length hin
    have h6 := Lib.itoa_length_le (bnd hs k) (by omega) (by omega)
    have h7 := ih (by omega)
    rw [regTo_succ (by omega)]
    simp only [List.length_append, List.length_cons, List.length_nil]
    omega

set_option maxHeartbeats 4000000 in
theorem implRegText_any (z : Int) (p : Option Addr) (n c : Nat) (hs : List Pr) (w : World) (hn : n ≤ 9223372036854775807) (hx : Prs w p n hs) (htab : TabW w) :
    Calls Tryz.prog 25 #[.agg #[.int .i64 z, .slice p n c]] w (NewText w (regT z hs)) := by
  have hl := Lib.hid hx.len
  have kb := box1c w (.int .i64 z) (.slice p n c) 26
  obtain ⟨b0, b1⟩ := kb
  have hT := boxed w (.cells #[.int .i64 z, .slice p n c] 26)
  have hx1 := hx.below hT
  cases h1 : isReg z hs
  · have HV : Hid (regT z hs = []) := Lib.hid (by unfold regT; rw [h1]; rfl)
    go_enter Tryz.func25, Tryz.ntmps25
    go_wp2_with fail
    refine (implIsRegion_any _ _ _ _ _ _ hn hx1).mono ?_
    rw [h1]
    rintro e w1 ⟨rfl, hb1⟩
    go_wp2
    go_ret
    exact ⟨ret_str HV.out.symm, Below.step hT hb1⟩
  · have HV : Hid (regT z hs = regTo z hs n) := Lib.hid (by unfold regT; rw [if_pos h1, hl.out])
    have HL := Lib.hid (regTo_length h1)
    obtain ⟨z1, z3, h8, hh⟩ := isReg_facts h1
    rw [hl.out] at h8
    have HH : Hid (∀ k, k < n → isVec (nrm hs k) = true ∧ AllIn (nrm hs k) ∧ (nrm hs k).length ≤ 3 ∧ -200 ≤ bnd hs k ∧ bnd hs k ≤ 200) := Lib.hid fun k hk => half_in z1 z3 (hh k (by rw [hl.out]; exact hk))
    have H1 := Lib.hid h1
    clear hh
    go_enter Tryz.func25, Tryz.ntmps25
    go_wp2_with fail
    refine (implIsRegion_any _ _ _ _ _ _ hn hx1).mono ?_
    rw [H1.out]
    rintro e w1 ⟨rfl, hb1⟩
    have hT1 := Below.step hT hb1
    replace b0 := Below.cells hb1 b0
    replace b1 := Below.cells hb1 b1
    go_wp2_with fail
    refine (implFormat_any _ _ (by omega) (by omega) (htab.below hT1)).mono ?_
    rintro e w2 ⟨rfl, hb2⟩
    have hT2 := Below.step hT1 hb2
    replace b0 := Below.cells hb2 b0
    replace b1 := Below.cells hb2 b1
    have hx2 := hx.below hT2
    have E0 : Hid (Lib.itoa z = regTo z hs 0) := Lib.hid (by simp [regTo])
    generalize Lib.itoa z = t0 at *
    go_wp2_with fail
    go_loopw [3, 15] (fun v i wr => ∃ (k : Nat) (t : List UInt8), k ≤ n ∧ i = .int .i64 k ∧ v = .string ⟨t.toArray⟩ ∧ Hid (t = regTo z hs k) ∧ Below w2.heap.size w2 wr) (fun _ i _ => n - (intOf i).toNat)
    case atStart => exact ⟨0, t0, by omega, rfl, rfl, Lib.hid E0.out, Below.refl _ _⟩
    case round =>
      obtain ⟨k, t, hk, rfl, rfl, Ht, hb⟩ := hrel
      by_cases hlt : k < n
      · obtain ⟨b, o, q, m, d, rfl, hc, hcb, hmd, hd, hi⟩ := (hx2.below hb).cell k hlt
        obtain ⟨hv, hai, hl3, hv1, hv2⟩ := HH.out k hlt
        have hm3 : m ≤ 3 := by rw [← hi.len]; exact hl3
        have hbT := Below.step hT2 hb
        have hd1 : decide ((k : Int) < (n : Int)) = true := by simp; omega
        have htl := HL.out k (by rw [hl.out]; omega)
        rw [← Ht.out] at htl
        have hcl := commaT_length hai
        have hfl := Lib.itoa_length_le (bnd hs k) (by omega) (by omega)
        have Hnx : Hid (regTo z hs (k + 1) = t ++ ([59] ++ commaT (nrm hs k) ++ [60] ++ Lib.itoa (bnd hs k))) := Lib.hid (by rw [regTo_succ (by rw [hl.out]; exact hlt), ← Ht.out])
        have hev : vecT (nrm hs k) = commaT (nrm hs k) := by rw [vecT, hv]; rfl
        generalize wr = W at *
        have hbx := boxed W (.cells #[.slice q m d, .int .i64 (bnd hs k)] 36)
        obtain ⟨x0, x1⟩ := box1c W (.slice q m d) (.int .i64 (bnd hs k)) 36
        have hi1 := hi.below hbx
        have hB1 := Below.step hb hbx
        have hTB := Below.step hT2 hB1
        generalize nrm hs k = ys at *
        generalize bnd hs k = b5 at *
        go_wp2_with fail
        generalize hW1 : W.alloc (.cells #[.slice q m d, .int .i64 b5] 36) = W1 at *
        have c0 := cell_regrown x0
        have c1 := cell_regrown x1
        have K1 : Hid (∀ d' os, Calls Tryz.prog 65 #[.slice q m d] (Sort.grow (redrawn W1 d') os) fun e w' => e = .returned (.string ⟨(commaT ys).toArray⟩) ∧ ∃ r : Regrown, w' = Sort.grow (redrawn W1 r.d) r.os) :=
          Lib.hid fun d' os => Calls.regrown_of (by rw [← hev]; exact implVecText_any _ _ _ _ _ (hi1.below (below_regrown W1 d' os)) (by omega) (htab.below (Below.step hTB (below_regrown W1 d' os))))
        have K2 : Hid (∀ d' os, Calls Tryz.prog 64 #[.int .i64 b5] (Sort.grow (redrawn W1 d') os) fun e w' => e = .returned (.string ⟨(Lib.itoa b5).toArray⟩) ∧ ∃ r : Regrown, w' = Sort.grow (redrawn W1 r.d) r.os) :=
          Lib.hid fun d' os => Calls.regrown_of (implFormat_any _ _ (by omega) (by omega) (htab.below (Below.step hTB (below_regrown W1 d' os))))
        generalize hs1 : commaT ys = s1 at *
        generalize hs2 : Lib.itoa b5 = s2 at *
        have a1 : ∀ W, (Op.stringOp .add ⟨#[59]⟩ ⟨s1.toArray⟩).run Tryz.prog W = .ok (.string ⟨([59] ++ s1).toArray⟩) W := fun W => addS [59] s1 (show 1 + s1.length ≤ _ by omega) W
        have a2 : ∀ W, (Op.stringOp .add ⟨([59] ++ s1).toArray⟩ ⟨#[60]⟩).run Tryz.prog W = .ok (.string ⟨([59] ++ s1 ++ [60]).toArray⟩) W := fun W => addS ([59] ++ s1) [60] (by simp; omega) W
        have a3 : ∀ W, (Op.stringOp .add ⟨([59] ++ s1 ++ [60]).toArray⟩ ⟨s2.toArray⟩).run Tryz.prog W = .ok (.string ⟨([59] ++ s1 ++ [60] ++ s2).toArray⟩) W := fun W => addS ([59] ++ s1 ++ [60]) s2 (by simp; omega) W
        have a4 : ∀ W, (Op.stringOp .add ⟨t.toArray⟩ ⟨([59] ++ s1 ++ [60] ++ s2).toArray⟩).run Tryz.prog W = .ok (.string ⟨(t ++ ([59] ++ s1 ++ [60] ++ s2)).toArray⟩) W := fun W => addS t _ (by simp; omega) W
        generalize hs6 : t ++ ([59] ++ s1 ++ [60] ++ s2) = s6 at *
        generalize hs5 : [59] ++ s1 ++ [60] ++ s2 = s5 at *
        generalize hs4 : [59] ++ s1 ++ [60] = s4 at *
        generalize hs3 : [59] ++ s1 = s3 at *
        clear hs1 hs2 hs3 hs4 hs5 hs6 x0 x1 hev hcl hfl htl
        refine wp_region_quiet_below (by kernel_rfl) (by kernel_rfl) ?_
        repeat (go_big_quiet_step (first | (with_reducible exact K1.out _ _) | (with_reducible exact K2.out _ _)))
        refine wpQuiet_nil ?_
        intro _ hw'
        obtain ⟨⟨dq, osq⟩, hw''⟩ := hw'
        subst hw''
        go_wp2_with fail
        go_roundw
        case rel => exact ⟨k + 1, s6, by omega, by go_num, rfl, Lib.hid Hnx.out.symm, Below.step hB1 (below_regrown W1 dq osq)⟩
        case measure => simp [intOf]; omega
      · obtain rfl : k = n := by omega
        go_wp2_with fail
        go_ret
        exact ⟨ret_str (Ht.out.trans HV.out.symm), Below.step hT2 hb⟩

set_option maxHeartbeats 4000000 in
theorem specRegText_any (z : Int) (p : Option Addr) (n c : Nat) (hs : List Pr) (w : World) (hn : n ≤ 9223372036854775807) (hx : Prs w p n hs) :
    Calls Tryz.prog 26 #[.agg #[.int .i64 z, .slice p n c]] w (NewText w (regT z hs)) := by
  have hl := Lib.hid hx.len
  have kb := box1c w (.int .i64 z) (.slice p n c) 26
  obtain ⟨b0, b1⟩ := kb
  have hT := boxed w (.cells #[.int .i64 z, .slice p n c] 26)
  have hx1 := hx.below hT
  cases h1 : isReg z hs
  · have HV : Hid (regT z hs = []) := Lib.hid (by unfold regT; rw [h1]; rfl)
    go_enter Tryz.func26, Tryz.ntmps26
    go_wp2_with fail
    refine (specIsRegion_any _ _ _ _ _ _ hn hx1).mono ?_
    rw [h1]
    rintro e w1 ⟨rfl, hb1⟩
    go_wp2
    go_ret
    exact ⟨ret_str HV.out.symm, Below.step hT hb1⟩
  · have HV : Hid (regT z hs = regTo z hs n) := Lib.hid (by unfold regT; rw [if_pos h1, hl.out])
    have HL := Lib.hid (regTo_length h1)
    obtain ⟨z1, z3, h8, hh⟩ := isReg_facts h1
    rw [hl.out] at h8
    have HH : Hid (∀ k, k < n → isVec (nrm hs k) = true ∧ AllIn (nrm hs k) ∧ (nrm hs k).length ≤ 3 ∧ -200 ≤ bnd hs k ∧ bnd hs k ≤ 200) := Lib.hid fun k hk => half_in z1 z3 (hh k (by rw [hl.out]; exact hk))
    have H1 := Lib.hid h1
    clear hh
    go_enter Tryz.func26, Tryz.ntmps26
    go_wp2_with fail
    refine (specIsRegion_any _ _ _ _ _ _ hn hx1).mono ?_
    rw [H1.out]
    rintro e w1 ⟨rfl, hb1⟩
    have hT1 := Below.step hT hb1
    replace b0 := Below.cells hb1 b0
    replace b1 := Below.cells hb1 b1
    go_wp2_with fail
    refine (specFormat_any _ _ (by omega) (by omega)).mono ?_
    rintro e w2 ⟨rfl, hb2⟩
    have hT2 := Below.step hT1 hb2
    replace b0 := Below.cells hb2 b0
    replace b1 := Below.cells hb2 b1
    have hx2 := hx.below hT2
    have E0 : Hid (Lib.itoa z = regTo z hs 0) := Lib.hid (by simp [regTo])
    generalize Lib.itoa z = t0 at *
    have B1 := Lib.hid b1
    clear b0 b1
    go_wp2_with fail
    go_loopw [3, 4] (fun v i wr => ∃ (k : Nat) (t : List UInt8), k ≤ n ∧ i = .int .i64 k ∧ v = .string ⟨t.toArray⟩ ∧ Hid (t = regTo z hs k) ∧ Below w2.heap.size w2 wr) (fun _ i _ => n - (intOf i).toNat)
    case atStart => exact ⟨0, t0, by omega, rfl, rfl, Lib.hid E0.out, Below.refl _ _⟩
    case round =>
      obtain ⟨k, t, hk, rfl, rfl, Ht, hb⟩ := hrel
      have b1 := Below.cells hb B1.out
      by_cases hlt : k < n
      · obtain ⟨b, o, q, m, d, rfl, hc, hcb, hmd, hd, hi⟩ := (hx2.below hb).cell k hlt
        obtain ⟨hv, hai, hl3, hv1, hv2⟩ := HH.out k hlt
        have hm3 : m ≤ 3 := by rw [← hi.len]; exact hl3
        have hd1 : decide ((k : Int) < (n : Int)) = true := by simp; omega
        have hz1 : (0 : Int) ≤ (k : Int) := by omega
        have htl := HL.out k (by rw [hl.out]; omega)
        rw [← Ht.out] at htl
        have hcl := commaT_length hai
        have hfl := Lib.itoa_length_le (bnd hs k) (by omega) (by omega)
        have Hnx : Hid (regTo z hs (k + 1) = t ++ [59] ++ commaT (nrm hs k) ++ [60] ++ Lib.itoa (bnd hs k)) := Lib.hid (by rw [regTo_succ (by rw [hl.out]; exact hlt), ← Ht.out]; simp)
        generalize wr = W at *
        generalize nrm hs k = ys at *
        generalize bnd hs k = b5 at *
        have c0 := cell_regrown hc
        have c1 := cell_regrown hcb
        have c2 := cell_regrown b1
        have K1 : Hid (∀ d' os, Calls Tryz.prog 67 #[.slice q m d] (Sort.grow (redrawn W d') os) fun e w' => e = .returned (.string ⟨(commaT ys).toArray⟩) ∧ ∃ r : Regrown, w' = Sort.grow (redrawn W r.d) r.os) :=
          Lib.hid fun d' os => Calls.regrown_of (l2Text_any _ _ _ _ _ (hi.below (below_regrown W d' os)) (by omega) hai)
        have K2 : Hid (∀ d' os, Calls Tryz.prog 66 #[.int .i64 b5] (Sort.grow (redrawn W d') os) fun e w' => e = .returned (.string ⟨(Lib.itoa b5).toArray⟩) ∧ ∃ r : Regrown, w' = Sort.grow (redrawn W r.d) r.os) :=
          Lib.hid fun d' os => Calls.regrown_of (specFormat_any _ _ (by omega) (by omega))
        generalize hs1 : commaT ys = s1 at *
        generalize hs2 : Lib.itoa b5 = s2 at *
        have a1 : ∀ W, (Op.stringOp .add ⟨t.toArray⟩ ⟨#[59]⟩).run Tryz.prog W = .ok (.string ⟨(t ++ [59]).toArray⟩) W := fun W => addS t [59] (show t.length + 1 ≤ _ by omega) W
        have a2 : ∀ W, (Op.stringOp .add ⟨(t ++ [59]).toArray⟩ ⟨s1.toArray⟩).run Tryz.prog W = .ok (.string ⟨(t ++ [59] ++ s1).toArray⟩) W := fun W => addS (t ++ [59]) s1 (by simp; omega) W
        have a3 : ∀ W, (Op.stringOp .add ⟨(t ++ [59] ++ s1).toArray⟩ ⟨#[60]⟩).run Tryz.prog W = .ok (.string ⟨(t ++ [59] ++ s1 ++ [60]).toArray⟩) W := fun W => addS (t ++ [59] ++ s1) [60] (by simp; omega) W
        have a4 : ∀ W, (Op.stringOp .add ⟨(t ++ [59] ++ s1 ++ [60]).toArray⟩ ⟨s2.toArray⟩).run Tryz.prog W = .ok (.string ⟨(t ++ [59] ++ s1 ++ [60] ++ s2).toArray⟩) W := fun W => addS (t ++ [59] ++ s1 ++ [60]) s2 (by simp; omega) W
        generalize hs6 : t ++ [59] ++ s1 ++ [60] ++ s2 = s6 at *
        generalize hs5 : t ++ [59] ++ s1 ++ [60] = s5 at *
        generalize hs4 : t ++ [59] ++ s1 = s4 at *
        generalize hs3 : t ++ [59] = s3 at *
        clear hs1 hs2 hs3 hs4 hs5 hs6 hcl hfl htl
        go_wp2_with fail
        refine wp_region_quiet_below (by kernel_rfl) (by kernel_rfl) ?_
        repeat (go_big_quiet_step (first | (with_reducible exact K1.out _ _) | (with_reducible exact K2.out _ _)))
        refine wpQuiet_nil ?_
        intro _ hw'
        obtain ⟨⟨dq, osq⟩, hw''⟩ := hw'
        subst hw''
        go_wp2_with fail
        go_roundw
        case rel => exact ⟨k + 1, s6, by omega, by go_num, rfl, Lib.hid Hnx.out.symm, Below.step hb (below_regrown W dq osq)⟩
        case measure => simp [intOf]; omega
      · obtain rfl : k = n := by omega
        go_wp2_with fail
        go_ret
        exact ⟨ret_str (Ht.out.trans HV.out.symm), Below.step hT2 hb⟩

end Go.Proofs.YtpfklkmmhdpphadGreatDoor
