/- Contract of spec.MeetRegions. Conditions: sizes. -/
import Derived.Test.YtpfklkmmhdpphadGreatDoorMeet
import Derived.Deep.DrawnRows
namespace Go.Proofs.YtpfklkmmhdpphadGreatDoor
open Go.RowKit
set_option linter.unusedVariables false
set_option linter.unusedSimpArgs false
set_option maxRecDepth 100000

attribute [local go_sem ↓] Go.wp_at_zero Go.wp_at_succ

theorem spec_off_ne {p : Option Addr} {b : Nat} (h : blk p ≠ some b) : ∀ a, p = some a → a.block ≠ b := fun a e h1 => h (by subst e; simp [blk, h1])

theorem mem_step {us : List Pr} {h : Pr} {t : Nat} (ht : t < us.length) : decide (h ∈ us.take (t + 1)) = (decide (h ∈ us.take t) || beqP (prAt us t) h) := by
  rw [take_prAt ht]
  have e : beqP (prAt us t) h = decide (prAt us t = h) := by
    cases hb : beqP (prAt us t) h
    · symm; simp only [decide_eq_false_iff_not]; intro e; rw [beqP_iff.2 e] at hb; cases hb
    · symm; simp only [decide_eq_true_eq]; exact beqP_iff.1 hb
  rw [e]
  by_cases h1 : h ∈ us.take t
  · simp [h1]
  · by_cases h2 : prAt us t = h
    · simp [h2]
    · have h3 : ¬ h = prAt us t := fun e => h2 e.symm
      simp [h1, h2, h3]

set_option maxHeartbeats 4000000 in
theorem specMeet_any (z y : Int) (p q : Option Addr) (n c m d : Nat) (us vs : List Pr) (w : World) (hn : n ≤ 1048576) (hm : m ≤ 1048576) (hx : Prs w p n us) (hy : Prs w q m vs) :
    Calls Tryz.prog 10 #[.agg #[.int .i64 z, .slice p n c], .agg #[.int .i64 y, .slice q m d]] w (NewRB w (meetV z us y vs)) := by
  have hl := Lib.hid hx.len
  have hl2 := Lib.hid hy.len
  obtain ⟨kb, ks, kr, hsz, hT⟩ := boxes3 w z y p q n c m d
  have hx1 := hx.below hT
  have hy1 := hy.below hT
  by_cases hok : isReg z us = true ∧ isReg y vs = true ∧ z = y
  · obtain ⟨h1, h2, h3⟩ := hok
    subst h3
    have H : Hid (meetV z us z vs = regIf z (meetW us vs)) := by show _ = _; simp [meetV, h1, h2]
    have nu : n ≤ 8 := by rw [← hx.len]; exact (reg_small h1).1
    have mv : m ≤ 8 := by rw [← hy.len]; exact (reg_small h2).1
    have tu := (reg_small h1).2
    have tv := (reg_small h2).2
    go_enter Tryz.func10, Tryz.ntmps10
    go_wp2_with fail
    generalize (((w.alloc (.cells #[.int .i64 z, .slice p n c] 26)).alloc (.cells #[.int .i64 z, .slice q m d] 26)).alloc (.cells #[.int .i64 0, .slice none 0 0] 26)) = W0 at *
    refine (specIsRegion_any _ _ _ _ _ _ (by omega) hx1).mono ?_
    rw [h1]
    rintro e w1 ⟨rfl, hb1⟩
    have hT1 := Below.step hT hb1
    replace kb := kb.below hb1
    replace ks := ks.below hb1
    replace kr := kr.below hb1
    have s0 := ks.c0
    have s1 := ks.c1
    have hz1 := hb1.size
    go_wp2_with fail
    refine (specIsRegion_any _ _ _ _ _ _ (by omega) (hy1.below hb1)).mono ?_
    rw [h2]
    rintro e w2 ⟨rfl, hb2⟩
    have hT2 := Below.step hT1 hb2
    replace kb := kb.below hb2
    replace ks := ks.below hb2
    replace kr := kr.below hb2
    clear s0 s1
    have b0 := kb.c0
    have b1 := kb.c1
    have s0 := ks.c0
    have s1 := ks.c1
    have hz2 := hb2.size
    go_wp2_with fail
    refine (l4Copy_any _ _ _ _ _ _ (by omega) ((hx1.below hb1).below hb2) tu).mono ?_
    rintro e w3 ⟨p3, c3, rfl, ⟨rows, ho3⟩, hb3⟩
    have hT3 := Below.step hT2 hb3
    replace kb := kb.below hb3
    replace ks := ks.below hb3
    replace kr := kr.below hb3
    clear b0 b1 s0 s1
    have hz3 := hb3.size
    have ko := Box2.new w3 (.int .i64 z) (.slice p3 n c3) 26
    have hof := ho3.offOf (b := w3.heap.size) (Nat.le_refl _)
    have bx3 := boxed w3 (.cells #[.int .i64 z, .slice p3 n c3] 26)
    have own3 := (ho3.below bx3).up
    replace kb := kb.below bx3
    replace ks := ks.below bx3
    replace kr := kr.below bx3
    have hz4 : w3.heap.size + 1 ≤ (w3.alloc (.cells #[.int .i64 z, .slice p3 n c3] 26)).heap.size := by simp
    have hT4 := Below.step hT3 bx3
    have s1 := ks.c1
    have s0 := ks.c0
    have b1 := kb.c1
    go_wp2
    generalize w3.alloc (.cells #[.int .i64 z, .slice p3 n c3] 26) = W3 at *
    clear s0 s1 b1
    go_loopw [7] (fun i wr => ∃ (k : Nat) (p' : Option Addr) (n' c' : Nat) (rows' : List Row), k ≤ m ∧ i = .int .i64 k ∧ n' ≤ n + k ∧ Meeting wr w2.heap.size w3.heap.size z p' n' c' rows' (us ++ selH us (vs.take k)) ∧ Below w2.heap.size W3 wr ∧ W3.heap.size ≤ wr.heap.size) (fun i _ => m - (intOf i).toNat)
    case atStart => exact ⟨0, p3, n, c3, rows, Nat.zero_le _, rfl, by omega, ⟨ko, by simpa [selH] using own3, hof.1, hof.2⟩, Below.refl _ _, Nat.le_refl _⟩
    case round =>
      obtain ⟨k, p', n', c', rows', hk, rfl, hn', hM, hb, hsw⟩ := hrel
      clear ko own3 bx3
      have hkb := kb.ofBelow hb (by omega)
      have hks := ks.ofBelow hb (by omega)
      have hkr := kr.ofBelow hb (by omega)
      have hbw : Below w.heap.size w wr := hT4.trans (hb.mono (by omega))
      have b1 := hkb.c1
      have s1 := hks.c1
      by_cases hlt : k < m
      · obtain ⟨b, o, q1, m1, d1, rfl, hc, hcb, hmd, hd, hi⟩ := (hy.below hbw).cell k hlt
        have hxw := hx.below hbw
        have hl8 : m1 ≤ 1048576 := by rw [← hi.len]; exact Nat.le_trans (len_le_totH (by rw [hl2.out]; exact hlt)) tv
        go_wp2
        generalize wr = W at *
        go_loopw [8, 9] (fun f i wr => ∃ t : Nat, t ≤ n ∧ i = .int .i64 t ∧ f = .bool (decide (prAt vs k ∈ us.take t)) ∧ Below W.heap.size W wr) (fun _ i _ => n - (intOf i).toNat)
        case atStart => exact ⟨0, Nat.zero_le _, rfl, by simp, Below.refl _ _⟩
        case round =>
          obtain ⟨t, ht, rfl, rfl, hbt⟩ := hrel
          have b2 := (hkb.below hbt).c1
          have s2 := (hks.below hbt).c1
          clear b1 s1
          by_cases hlt2 : t < n
          · have hkt : t < us.length := by rw [hl.out]; exact hlt2
            have Hst : Hid (decide (prAt vs k ∈ us.take (t + 1)) = (decide (prAt vs k ∈ us.take t) || beqP (prAt us t) (prAt vs k))) := Lib.hid (mem_step hkt)
            obtain ⟨b3, o3, q3, m3, d3, rfl, hc3, hcb3, hmd3, hd3, hi3⟩ := (hxw.below hbt).cell t hlt2
            have hc4 := belowCell2 hbt hc
            have hcb4 := belowCell2 hbt hcb
            have hi4 := hi.below hbt
            clear hc hcb
            cases hf : decide (prAt vs k ∈ us.take t)
            · cases hr : beqP (nrm us t, bnd us t) (nrm vs k, bnd vs k)
              all_goals
                have Hf := Lib.hid hf
                have Hr := Lib.hid hr
                clear hf hr
                go_wp2
                go_region_held3 (fun w' => w'.cell? ⟨w.heap.size, 1, none⟩ = some (.slice (some ⟨b3, o3, none⟩) n c) ∧ w'.cell? ⟨w.heap.size + 1, 1, none⟩ = some (.slice (some ⟨b, o, none⟩) m d) ∧ w'.cell? ⟨b3, o3 + t * 2, none⟩ = some (.slice q3 m3 d3) ∧ w'.cell? ⟨b3, o3 + t * 2 + 1, none⟩ = some (.int .i64 (bnd us t)) ∧ w'.cell? ⟨b, o + k * 2, none⟩ = some (.slice q1 m1 d1) ∧ w'.cell? ⟨b, o + k * 2 + 1, none⟩ = some (.int .i64 (bnd vs k))) (exact ⟨b2, s2, hc3, hcb3, hc4, hcb4⟩) (first | (go_at_call 45; (with_reducible refine (l4SameHalf_any _ _ _ _ _ _ _ _ _ _ _ hi3.drew hi4.drew (by omega) (by omega)).mono ?_); rw [Hr.out]; rintro e w5 ⟨rfl, hb5⟩; replace b2 := belowCell2 hb5 b2; replace s2 := belowCell2 hb5 s2; replace hc3 := belowCell2 hb5 hc3; replace hcb3 := belowCell2 hb5 hcb3; replace hc4 := belowCell2 hb5 hc4; replace hcb4 := belowCell2 hb5 hcb4))
                all_goals
                  have hb6 := Below.step hbt (Below.step (drewBelow _) hb5)
                  go_wp2
                  go_roundw
                  case rel => exact ⟨t + 1, by omega, by go_num, by rw [Hst.out, Hf.out, show beqP (prAt us t) (prAt vs k) = _ from Hr.out]; rfl, hb6⟩
                  case measure => simp [intOf]; omega
            · have Hf := Lib.hid hf
              clear hf
              go_wp2
              go_quiet (fail)
              all_goals
                go_wp2
                go_roundw
                case rel => exact ⟨t + 1, by omega, by go_num, by rw [Hst.out, Hf.out]; rfl, by first | exact Below.step hbt (drewBelow _) | exact Below.drawn hbt _⟩
                case measure => simp [intOf]; omega
          · obtain rfl : t = n := by omega
            rw [List.take_of_length_le (by rw [hl.out]; exact Nat.le_refl _)]
            generalize wr = W1 at *
            have hkv : k < vs.length := by rw [hl2.out]; exact hlt
            have hM1 := hM.below hbt
            have hb1' : Below w2.heap.size W3 W1 := hb.trans (hbt.mono (by have := hb.size; omega))
            have hsw1 := hbt.size
            cases hf : decide (prAt vs k ∈ us)
            · have HS := Lib.hid (selH_yes hkv hf)
              have Hf := Lib.hid hf
              clear hf
              have hc4 := belowCell2 hbt hc
              have hcb4 := belowCell2 hbt hcb
              have hi4 := hi.below hbt
              clear hc hcb
              have hMo := hM1.off
              have hne := spec_off_ne hMo
              have ko1 := hM1.out
              have own1 := hM1.own
              have koc1 := ko1.c1
              have hlow := fun (a : Addr) (ha : p' = some a) => (own1.outer.lt a ha).1
              go_wp2
              go_region_law (first | (go_simp; go_at_call 41; (with_reducible refine (l4One_any _ _ _ _ _ _ (by omega) hi4.drew).mono ?_); rintro e w5 ⟨p5, c5, rfl, ho5, hb5⟩; have ko2 := ko1.drew.below hb5; have own2 := own1.drew.below hb5; have koc2 := ko2.c1; have koc3 := (ko2.alloc (.cells #[.slice p5 m1 c5, .int .i64 (bnd vs k)] 36)).c1; have hs3 := hb5.size) | (refine step_append_half rfl (.tmp 59) (.tmp 66) rfl _ w2.heap.size _ _ _ _ _ rfl (own2.outer.alloc _) _ _ _ _ _ rfl (Box2.new _ _ _ _) (by omega) (by simp at hs3 ⊢; omega) ?_; intro p7 c7 w7 ho7 hg7; have ko3 := (ko2.alloc _).grow hg7 hne; have kof := ko3.fr 1; have koc4 := ko3.c1))
              all_goals
                have ho5' := ho5.widen (lo' := W1.heap.size) (hi' := w5.heap.size) (Nat.le_refl _) (Nat.le_refl _)
                have h3 := own2.app halfNe ho5' (by omega) (boxed _ _) ho7 hg7
                have off3 := hg7.off hMo (by simp at hs3 ⊢; omega)
                have offs3 : ∀ r ∈ rows' ++ [(p5, m1, c5)], blk r.1 ≠ some w3.heap.size := fun r hr => by
                  rcases List.mem_append.1 hr with h | h
                  · exact hM1.offs r h
                  · simp only [List.mem_singleton] at h
                    subst h
                    intro e
                    cases hp5 : p5 with
                    | none => rw [hp5] at e; cases e
                    | some a => rw [hp5] at e; simp only [blk, Option.map_some, Option.some.injEq] at e; have := (ho5'.lt a hp5).1; omega
                have low3 : Below w2.heap.size W3 w7 := hb1'.trans ((Below.of (Below.step (drewBelow _) hb5) (by omega)).trans ((Below.of (boxed w5 (.cells #[.slice p5 m1 c5, .int .i64 (bnd vs k)] 36)) (by simp at hs3; omega)).trans (hg7.below (by simp at hs3 ⊢; omega) hlow)))
                have hs7 := hg7.by_.size
                go_wp2
                go_roundw
                case rel =>
                  refine ⟨k + 1, p7, n' + 1, c7, rows' ++ [(p5, m1, c5)], by omega, by go_num, by omega, ⟨ko3.set1 _, ?_, off3, offs3⟩, low3.setCell (by dsimp only; omega) _, ?_⟩
                  · rw [HS.out, ← List.append_assoc]
                    exact (h3.setOff off3 offs3 1 _).up
                  · simp at hs7 hs3 ⊢; omega
                case measure => simp [intOf]; omega
            · have HS := Lib.hid (selH_no hkv hf)
              clear hf
              go_wp2
              go_roundw
              case rel => exact ⟨k + 1, p', n', c', rows', by omega, by go_num, by omega, by rw [HS.out]; exact hM1, hb1', by omega⟩
              case measure => simp [intOf]; omega
      · obtain rfl : k = m := by omega
        rw [List.take_of_length_le (by rw [hl2.out]; exact Nat.le_refl _)] at hM
        have HMW : Hid (us ++ selH us vs = meetW us vs) := Lib.hid rfl
        rw [HMW.out] at hM
        generalize wr = W at *
        have o0 := hM.out.c0
        have o1 := hM.out.c1
        have hrd := hM.own.rd
        cases h9 : isReg z (meetW us vs)
        · go_wp2_with fail
          refine (specIsRegion_any _ _ _ _ _ _ (by omega) hrd).mono ?_
          rw [h9]
          rintro e w9 ⟨rfl, hb9⟩
          have kr9 := hkr.below hb9
          have r0 := kr9.c0
          have r1 := kr9.c1
          have f0 := kr9.fr 0
          have f1 := kr9.fr 1
          have hbb := Below.step hbw hb9
          have kf := (kr9.set0 (.int .i64 0)).set1 (.slice none 0 0)
          have kf0 := kf.c0
          have kf1 := kf.c1
          go_wp2
          rw [H.out, regIf_no h9]
          refine bodyPost_ret (v := .tuple #[.agg #[.int .i64 0, .slice none 0 0], .bool false]) (by simp [results, Tryz.results10, go_sem, kf0, kf1]) rfl ?_
          exact ⟨_, _, _, rfl, OwnPM.nil _ _ _ _, (hbb.setCell (p := ⟨_, _, none⟩) (by dsimp only; omega) _).setCell (p := ⟨_, _, none⟩) (by dsimp only; omega) _⟩
        · go_wp2_with fail
          refine (specIsRegion_any _ _ _ _ _ _ (by omega) hrd).mono ?_
          rw [h9]
          rintro e w9 ⟨rfl, hb9⟩
          have hM9 := hM.below hb9
          have kr9 := hkr.below hb9
          have o2 := hM9.out.c0
          have o3 := hM9.out.c1
          have r0 := kr9.c0
          have r1 := kr9.c1
          have f0 := kr9.fr 0
          have f1 := kr9.fr 1
          have hbb := Below.step hbw hb9
          have hs9 := hb9.size
          have kf := (kr9.set0 (.int .i64 z)).set1 (.slice p' n' c')
          have kf0 := kf.c0
          have kf1 := kf.c1
          have ho9 : OwnPM 36 w9 w2.heap.size w9.heap.size p' n' c' (meetW us vs) := ⟨_, hM9.own⟩
          go_wp2
          rw [H.out, regIf_yes h9]
          refine bodyPost_ret (v := .tuple #[.agg #[.int .i64 z, .slice p' n' c'], .bool true]) (by simp [results, Tryz.results10, go_sem, kf0, kf1]) rfl ?_
          exact ⟨_, _, _, rfl, (((ho9.widen (lo' := w.heap.size + 3) (by omega) (Nat.le_refl _)).setBelow (a := ⟨_, _, none⟩) (by dsimp only; omega) _).setBelow (a := ⟨_, _, none⟩) (by dsimp only; omega) _).up.widen (by omega) (Nat.le_refl _), (hbb.setCell (p := ⟨_, _, none⟩) (by dsimp only; omega) _).setCell (p := ⟨_, _, none⟩) (by dsimp only; omega) _⟩
  · have H : Hid (meetV z us y vs = ((0, []), false)) := by show _ = _; simp only [meetV, if_neg hok]
    have hfin : ∀ w1 : World, Below (((w.alloc (.cells #[.int .i64 z, .slice p n c] 26)).alloc (.cells #[.int .i64 y, .slice q m d] 26)).alloc (.cells #[.int .i64 0, .slice none 0 0] 26)).heap.size (((w.alloc (.cells #[.int .i64 z, .slice p n c] 26)).alloc (.cells #[.int .i64 y, .slice q m d] 26)).alloc (.cells #[.int .i64 0, .slice none 0 0] 26)) w1 →
        Box2 ((w1.setCell ⟨w.heap.size + 1 + 1, 0, none⟩ (.int .i64 0)).setCell ⟨w.heap.size + 1 + 1, 1, none⟩ (.slice none 0 0)) (w.heap.size + 1 + 1) (.int .i64 0) (.slice none 0 0) 26 ∧
        NewRB w ((0, []), false) (.returned (.tuple #[.agg #[.int .i64 0, .slice none 0 0], .bool false])) ((w1.setCell ⟨w.heap.size + 1 + 1, 0, none⟩ (.int .i64 0)).setCell ⟨w.heap.size + 1 + 1, 1, none⟩ (.slice none 0 0)) := fun w1 hb1 =>
      ⟨((kr.below hb1).set0 _).set1 _, ⟨_, _, _, rfl, OwnPM.nil _ _ _ _, ((Below.step hT hb1).setCell (p := ⟨_, _, none⟩) (by dsimp only; omega) _).setCell (p := ⟨_, _, none⟩) (by dsimp only; omega) _⟩⟩
    have Hfin := Lib.hid hfin
    clear hfin
    generalize hWg : (((w.alloc (.cells #[.int .i64 z, .slice p n c] 26)).alloc (.cells #[.int .i64 y, .slice q m d] 26)).alloc (.cells #[.int .i64 0, .slice none 0 0] 26)) = W0 at *
    have HW := Lib.hid hWg
    clear hWg
    cases h1 : isReg z us
    · go_enter Tryz.func10, Tryz.ntmps10
      go_wp2_with fail
      rw [HW.out]
      refine (specIsRegion_any _ _ _ _ _ _ (by omega) hx1).mono ?_
      rw [h1]
      rintro e w1 ⟨rfl, hb1⟩
      have kr1 := kr.below hb1
      have r0 := kr1.c0
      have r1 := kr1.c1
      have f0 := kr1.fr 0
      have f1 := kr1.fr 1
      obtain ⟨kf, hpost⟩ := Hfin.out _ hb1
      have kf0 := kf.c0
      have kf1 := kf.c1
      have Hpost := Lib.hid hpost
      clear hpost kf
      go_wp2
      rw [H.out]
      exact bodyPost_ret (v := .tuple #[.agg #[.int .i64 0, .slice none 0 0], .bool false]) (by simp [results, Tryz.results10, go_sem, kf0, kf1]) rfl Hpost.out
    · cases h2 : isReg y vs
      all_goals
        go_enter Tryz.func10, Tryz.ntmps10
        go_wp2_with fail
        rw [HW.out]
        refine (specIsRegion_any _ _ _ _ _ _ (by omega) hx1).mono ?_
        rw [h1]
        rintro e w1 ⟨rfl, hb1⟩
        have ks1 := ks.below hb1
        have s0 := ks1.c0
        have s1 := ks1.c1
        go_wp2_with fail
        refine (specIsRegion_any _ _ _ _ _ _ (by omega) (hy1.below hb1)).mono ?_
        rw [h2]
        rintro e w2 ⟨rfl, hb2⟩
        have hb3 := Below.step hb1 hb2
        have kb1 := kb.below hb3
        have kr1 := kr.below hb3
        have ks2 := ks.below hb3
        have b0 := kb1.c0
        have s2 := ks2.c0
        have r0 := kr1.c0
        have r1 := kr1.c1
        have f0 := kr1.fr 0
        have f1 := kr1.fr 1
        obtain ⟨kf, hpost⟩ := Hfin.out _ hb3
        have kf0 := kf.c0
        have kf1 := kf.c1
        have Hpost := Lib.hid hpost
        clear hpost kf
      · go_wp2
        rw [H.out]
        exact bodyPost_ret (v := .tuple #[.agg #[.int .i64 0, .slice none 0 0], .bool false]) (by simp [results, Tryz.results10, go_sem, kf0, kf1]) rfl Hpost.out
      · have h3 : (z != y) = true := by
          rw [bne_iff_ne]
          intro e
          exact hok ⟨h1, h2, e⟩
        clear hok
        go_wp2
        rw [H.out]
        exact bodyPost_ret (v := .tuple #[.agg #[.int .i64 0, .slice none 0 0], .bool false]) (by simp [results, Tryz.results10, go_sem, kf0, kf1]) rfl Hpost.out

end Go.Proofs.YtpfklkmmhdpphadGreatDoor
