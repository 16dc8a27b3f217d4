/- Contract of impl.MeetRegions. Conditions: sizes. -/
import Derived.Test.YtpfklkmmhdpphadGreatDoorMeet
import Derived.Deep.DrawnRows
namespace Go.Proofs.YtpfklkmmhdpphadGreatDoor
open Go.RowKit
set_option linter.unusedVariables false
set_option linter.unusedSimpArgs false
set_option maxRecDepth 100000

attribute [local go_sem ↓] Go.wp_at_zero Go.wp_at_succ

theorem impl_off_ne {p : Option Addr} {b : Nat} (h : blk p ≠ some b) : ∀ a, p = some a → a.block ≠ b := fun a e h1 => h (by subst e; simp [blk, h1])

theorem impl_ne {w : World} {E E' : TypeId} {size size' lo hi lo' hi' b : Nat} {p p' : Option Addr} {n c n' c' : Nat} {vs vs' : List Value} (h : OwnV w E size lo hi p n c vs) (hlt : ∀ a, p = some a → a.block < b) (h' : OwnV w E' size' lo' hi' p' n' c' vs') (hb : b ≤ lo') : blk p ≠ blk p' ∨ p' = none := by
  cases p' with
  | none => exact .inr rfl
  | some a' =>
    refine .inl fun e => ?_
    cases p with
    | none => cases e
    | some a =>
      have h1 := hlt a rfl
      have h2 := (h'.lt a' rfl).1
      simp only [blk, Option.map_some, Option.some.injEq] at e
      omega

set_option maxHeartbeats 4000000 in
theorem implMeet_any (z y : Int) (p q : Option Addr) (n c m d : Nat) (us vs : List Pr) (w : World) (hn : n ≤ 1048576) (hm : m ≤ 1048576) (hx : Prs w p n us) (hy : Prs w q m vs) :
    Calls Tryz.prog 9 #[.agg #[.int .i64 z, .slice p n c], .agg #[.int .i64 y, .slice q m d]] w (NewRB w (meetV z us y vs)) := by
  have hl := Lib.hid hx.len
  have hl2 := Lib.hid hy.len
  obtain ⟨kb, ks, kr, hsz, hT⟩ := boxes3 w z y p q n c m d
  have hx1 := hx.below hT
  have hy1 := hy.below hT
  by_cases hok : isReg z us = true ∧ isReg y vs = true ∧ z = y
  · obtain ⟨h1, h2, h3⟩ := hok
    subst h3
    have H : Hid (meetV z us z vs = regIf z (meetW us vs)) := by show _ = _; simp [meetV, h1, h2]
    have nu : n ≤ 8 := by rw [← hx.len]; exact (reg_small h1).1
    have mv : m ≤ 8 := by rw [← hy.len]; exact (reg_small h2).1
    have tu := (reg_small h1).2
    have tv := (reg_small h2).2
    go_enter Tryz.func9, Tryz.ntmps9
    go_wp2_with fail
    generalize (((w.alloc (.cells #[.int .i64 z, .slice p n c] 26)).alloc (.cells #[.int .i64 z, .slice q m d] 26)).alloc (.cells #[.int .i64 0, .slice none 0 0] 26)) = W0 at *
    refine (implIsRegion_any _ _ _ _ _ _ (by omega) hx1).mono ?_
    rw [h1]
    rintro e w1 ⟨rfl, hb1⟩
    have hT1 := Below.step hT hb1
    replace kb := kb.below hb1
    replace ks := ks.below hb1
    replace kr := kr.below hb1
    have s0 := ks.c0
    have s1 := ks.c1
    have hz1 := hb1.size
    go_wp2_with fail
    refine (implIsRegion_any _ _ _ _ _ _ (by omega) (hy1.below hb1)).mono ?_
    rw [h2]
    rintro e w2 ⟨rfl, hb2⟩
    have hT2 := Below.step hT1 hb2
    replace kb := kb.below hb2
    replace ks := ks.below hb2
    replace kr := kr.below hb2
    clear s0 s1
    have b0 := kb.c0
    have b1 := kb.c1
    have s0 := ks.c0
    have s1 := ks.c1
    have hz2 := hb2.size
    go_wp2_with fail
    refine (copyRegion_any _ _ _ _ _ _ (by omega) ((hx1.below hb1).below hb2) tu).mono ?_
    rintro e w3 ⟨p3, c3, rfl, ⟨rows, ho3⟩, hb3⟩
    have hT3 := Below.step hT2 hb3
    replace kb := kb.below hb3
    replace ks := ks.below hb3
    replace kr := kr.below hb3
    clear b0 b1 s0 s1
    have hz3 := hb3.size
    have ko := Box2.new w3 (.int .i64 z) (.slice p3 n c3) 26
    have hof := ho3.offOf (b := w3.heap.size) (Nat.le_refl _)
    have bx3 := boxed w3 (.cells #[.int .i64 z, .slice p3 n c3] 26)
    have own3 := (ho3.below bx3).up
    replace kb := kb.below bx3
    replace ks := ks.below bx3
    replace kr := kr.below bx3
    have hz4 : w3.heap.size + 1 ≤ (w3.alloc (.cells #[.int .i64 z, .slice p3 n c3] 26)).heap.size := by simp
    have hT4 := Below.step hT3 bx3
    have s1 := ks.c1
    have s0 := ks.c0
    have b1 := kb.c1
    go_wp2_with fail
    generalize w3.alloc (.cells #[.int .i64 z, .slice p3 n c3] 26) = W3 at *
    clear s0 s1 b1
    refine (copyRegion_any _ _ _ _ _ _ (by omega) (hy.below hT4) tv).mono ?_
    rintro e w4 ⟨p4, c4, rfl, ⟨rows2, ho4⟩, hb4⟩
    have hT5 := Below.step hT4 hb4
    replace kb := kb.below hb4
    replace ks := ks.below hb4
    replace kr := kr.below hb4
    have hz5 := hb4.size
    have hM0 : Meeting w4 w2.heap.size w3.heap.size z p3 n c3 rows us := ⟨ko.below hb4, (own3.below hb4).up, hof.1, hof.2⟩
    have hne0 : blk p3 ≠ blk p4 ∨ p4 = none := impl_ne (own3.outer.below hb4) (fun a ha => (ho3.outer.lt a ha).2.1) ho4.outer (by omega)
    have hap0 : ∀ r ∈ rows, ∀ j (h : j < rows2.length), 0 ≤ j → blk r.1 ≠ blk rows2[j].1 ∨ r.1 = none := fun r hr j hj _ => by
      obtain ⟨i, hi, rfl⟩ := List.getElem_of_mem hr
      exact (((ho3.below bx3).below hb4).inner i hi).apart (ho4.inner j hj) (.inl (by omega))
    have hcount := Lib.hid ho4.count
    have hpw := Lib.hid ho4.apart
    clear ko bx3
    have hfd : ∀ w : World, (Instr.field 26 (.agg #[.int .i64 z, .slice p4 m c4]) 1).run Tryz.prog w = .ok (.slice p4 m c4) w := fun _ => rfl
    go_wp2
    clear hfd
    go_loopw [31] (fun i wr => ∃ (k : Nat) (p' : Option Addr) (n' c' : Nat) (rows' : List Row), k ≤ m ∧ i = .int .i64 k ∧ n' ≤ n + k ∧ Meeting wr w2.heap.size w3.heap.size z p' n' c' rows' (us ++ selH us (vs.take k)) ∧ OwnP 36 wr W3.heap.size w4.heap.size p4 m c4 rows2 vs ∧ Hid (blk p' ≠ blk p4 ∨ p4 = none) ∧ Hid (∀ r ∈ rows', ∀ j (h : j < rows2.length), k ≤ j → blk r.1 ≠ blk rows2[j].1 ∨ r.1 = none) ∧ Below w2.heap.size w4 wr ∧ w4.heap.size ≤ wr.heap.size) (fun i _ => m - (intOf i).toNat)
    case atStart => exact ⟨0, p3, n, c3, rows, Nat.zero_le _, rfl, by omega, by simpa [selH] using hM0, ho4, Lib.hid hne0, Lib.hid hap0, Below.refl _ _, Nat.le_refl _⟩
    case round =>
      obtain ⟨k, p', n', c', rows', hk, rfl, hn', hM, ho, hnb, hap, hb, hsw⟩ := hrel
      clear hM0 hne0 hap0 own3 ho4
      have hkb := kb.ofBelow hb (by omega)
      have hkr := kr.ofBelow hb (by omega)
      have hbw : Below w.heap.size w wr := hT5.trans (hb.mono (by omega))
      by_cases hlt : k < m
      · have hkv : k < vs.length := by rw [hl2.out]; exact hlt
        have hkr2 : k < rows2.length := by rw [hcount.out]; exact hlt
        obtain ⟨g, rfl, hg1, hg2, hgc, hgb, hgf⟩ := ho.rowAt k hlt hkr2
        have hin := ho.inner k hkr2
        have Hpk : Hid (∀ j (h : j < rows2.length), k < j → blk rows2[k].1 ≠ blk rows2[j].1 ∨ rows2[k].1 = none) := Lib.hid fun j hj hkj => List.pairwise_iff_getElem.1 hpw.out k j hkr2 hj hkj
        have Hap2 := Lib.hid fun r hr => hap.out r hr k hkr2 (Nat.le_refl _)
        have HrE : Hid (rows2[k] = rows2[k]) := Lib.hid rfl
        generalize hR : rows2[k] = R at *
        have HR := Lib.hid hR
        clear hR HrE hgf
        obtain ⟨q5, m5, d5⟩ := R
        dsimp only at hgc hin
        have hm5 : m5 ≤ 9223372036854775807 := hin.small
        have bx := boxed wr (.cells #[.slice q5 m5 d5, .int .i64 (bnd vs k)] 36)
        have kh := Box2.new wr (.slice q5 m5 d5) (.int .i64 (bnd vs k)) 36
        have hM1 := hM.below bx
        have ho1 := ho.below bx
        have hin1 := hin.below bx
        have kb1 := hkb.below bx
        have b1 := kb1.c1
        have hx5 := (hx.below hbw).below bx
        have hbw5 := Below.step hbw bx
        have hb5 := hb.trans (bx.mono (by omega))
        have hs5 : wr.heap.size + 1 ≤ (wr.alloc (.cells #[.slice q5 m5 d5, .int .i64 (bnd vs k)] 36)).heap.size := by simp
        go_wp2_with fail
        generalize wr.alloc (.cells #[.slice q5 m5 d5, .int .i64 (bnd vs k)] 36) = W5 at *
        refine (containsFunc_any _ _ _ _ _ _ _ _ _ _ _ hx5 kh hin1.ints (by omega) hm5).mono ?_
        rintro e w6 ⟨rfl, hb6⟩
        have HPk : Hid (prAt vs k = (nrm vs k, bnd vs k)) := Lib.hid rfl
        have hM6 := hM1.below hb6
        have ho6 := ho1.below hb6
        have hin6 := hin1.below hb6
        have hs6 := hb6.size
        have hb7 : Below w2.heap.size w4 w6 := hb5.trans (hb6.mono (by omega))
        cases hf : decide ((nrm vs k, bnd vs k) ∈ us)
        · have HS := Lib.hid (selH_yes hkv (by rw [HPk.out]; exact hf))
          clear hf
          have kh6 := kh.below hb6
          have h0 := kh6.c0
          have h1' := kh6.c1
          have ko6 := hM6.out
          have koc := ko6.c1
          have own6 := hM6.own
          have hMo := hM6.off
          have hne := impl_off_ne hMo
          have hlow := fun (a : Addr) (ha : p' = some a) => (own6.outer.lt a ha).1
          go_wp2_with (at_builtin; refine append_half rfl _ _ rfl _ w2.heap.size _ _ _ _ _ rfl (own6.outer.alloc _) _ _ _ _ _ rfl (Box2.new _ _ _ _) (by omega) (by simp; omega) ?_; intro p7 c7 w7 ho7 hg7; have ko8 := (ko6.alloc _).grow hg7 hne; have kof := ko8.fr 1; have koc4 := ko8.c1)
          have hr := hin6.widen (lo' := w2.heap.size) (hi' := w6.heap.size) (by omega) (by omega)
          have h3 := own6.app2 halfNe hr (fun r hr => Hap2.out r hr) (boxed _ _) ho7 hg7
          have off3 := hg7.off hMo (by simp; omega)
          have offs3 : ∀ r ∈ rows' ++ [(q5, m5, d5)], blk r.1 ≠ some w3.heap.size := fun r hr => by
            rcases List.mem_append.1 hr with h | h
            · exact hM6.offs r h
            · simp only [List.mem_singleton] at h
              subst h
              intro e
              cases hp5 : q5 with
              | none => rw [hp5] at e; cases e
              | some a => rw [hp5] at e; simp only [blk, Option.map_some, Option.some.injEq] at e; have := (hin6.lt a hp5).1; omega
          have low3 : Below w2.heap.size w4 w7 := hb7.trans ((Below.of (boxed w6 (.cells #[.slice q5 m5 d5, .int .i64 (bnd vs k)] 36)) (by omega)).trans (hg7.below (by simp; omega) hlow))
          have hs7 := hg7.by_.size
          have hnb7 : blk p7 ≠ blk (some (⟨g, 0, none⟩ : Addr)) ∨ (some (⟨g, 0, none⟩ : Addr)) = none := by
            rcases hg7.at_ with h | h
            · rw [h]; exact hnb.out
            · rw [h]; refine .inl fun e => ?_
              simp [blk] at e
              omega
          have ho8 := (ho6.below (boxed w6 (.cells #[.slice q5 m5 d5, .int .i64 (bnd vs k)] 36))).kept halfNe (own6.outer.alloc _) hg7.by_ hnb.out
          go_wp2
          go_roundw
          case rel =>
            refine ⟨k + 1, p7, n' + 1, c7, rows' ++ [(q5, m5, d5)], by omega, by go_num, by omega, ⟨ko8.set1 _, ?_, off3, offs3⟩, ho8.setBelow (a := ⟨_, _, none⟩) (by dsimp only; omega) _, Lib.hid hnb7, Lib.hid fun r hr j hj hkj => ?_, low3.setCell (by dsimp only; omega) _, ?_⟩
            · rw [HS.out, HPk.out, ← List.append_assoc]
              exact (h3.setOff off3 offs3 1 _).up
            · rcases List.mem_append.1 hr with h | h
              · exact hap.out r h j hj (by omega)
              · simp only [List.mem_singleton] at h
                subst h
                exact Hpk.out j hj (by omega)
            · simp at hs7 ⊢; omega
          case measure => simp [intOf]; omega
        · have HS := Lib.hid (selH_no hkv (by rw [HPk.out]; exact hf))
          clear hf
          go_wp2
          go_roundw
          case rel => exact ⟨k + 1, p', n', c', rows', by omega, by go_num, by omega, by rw [HS.out]; exact hM6, ho6, hnb, Lib.hid fun r hr j hj hkj => hap.out r hr j hj (by omega), hb7, by omega⟩
          case measure => simp [intOf]; omega
      · obtain rfl : k = m := by omega
        rw [List.take_of_length_le (by rw [hl2.out]; exact Nat.le_refl _)] at hM
        have HMW : Hid (us ++ selH us vs = meetW us vs) := Lib.hid rfl
        rw [HMW.out] at hM
        generalize wr = W at *
        have o0 := hM.out.c0
        have o1 := hM.out.c1
        go_wp2_with fail
        refine (regionOf_any _ _ _ _ _ _ _ _ (by omega) ⟨rows', hM.own⟩).mono ?_
        rintro e w9 ⟨⟨p9, n9, c9, rfl, ho9⟩, hb9⟩
        have kr9 := hkr.below hb9
        have r0 := kr9.c0
        have r1 := kr9.c1
        have f0 := kr9.fr 0
        have f1 := kr9.fr 1
        have hbb := Below.step hbw hb9
        have hs9 := hb9.size
        have kf := (kr9.set0 (.int .i64 (regIf z (meetW us vs)).1.1)).set1 (.slice p9 n9 c9)
        have kf0 := kf.c0
        have kf1 := kf.c1
        go_wp2
        rw [H.out]
        refine bodyPost_ret (v := .tuple #[.agg #[.int .i64 (regIf z (meetW us vs)).1.1, .slice p9 n9 c9], .bool (regIf z (meetW us vs)).2]) (by simp [results, Tryz.results9, go_sem, kf0, kf1]) rfl ?_
        refine ⟨_, _, _, rfl, ?_, (hbb.setCell (p := ⟨_, _, none⟩) (by dsimp only; omega) _).setCell (p := ⟨_, _, none⟩) (by dsimp only; omega) _⟩
        exact ((ho9.widen (lo' := w.heap.size + 3) (by omega) (Nat.le_refl _)).setBelow (a := ⟨_, _, none⟩) (by dsimp only; omega) _ |>.setBelow (a := ⟨_, _, none⟩) (by dsimp only; omega) _).up.widen (by omega) (Nat.le_refl _)
  · have H : Hid (meetV z us y vs = ((0, []), false)) := by show _ = _; simp only [meetV, if_neg hok]
    have hfin : ∀ w1 : World, Below (((w.alloc (.cells #[.int .i64 z, .slice p n c] 26)).alloc (.cells #[.int .i64 y, .slice q m d] 26)).alloc (.cells #[.int .i64 0, .slice none 0 0] 26)).heap.size (((w.alloc (.cells #[.int .i64 z, .slice p n c] 26)).alloc (.cells #[.int .i64 y, .slice q m d] 26)).alloc (.cells #[.int .i64 0, .slice none 0 0] 26)) w1 →
        Box2 ((w1.setCell ⟨w.heap.size + 1 + 1, 0, none⟩ (.int .i64 0)).setCell ⟨w.heap.size + 1 + 1, 1, none⟩ (.slice none 0 0)) (w.heap.size + 1 + 1) (.int .i64 0) (.slice none 0 0) 26 ∧
        NewRB w ((0, []), false) (.returned (.tuple #[.agg #[.int .i64 0, .slice none 0 0], .bool false])) ((w1.setCell ⟨w.heap.size + 1 + 1, 0, none⟩ (.int .i64 0)).setCell ⟨w.heap.size + 1 + 1, 1, none⟩ (.slice none 0 0)) := fun w1 hb1 =>
      ⟨((kr.below hb1).set0 _).set1 _, ⟨_, _, _, rfl, OwnPM.nil _ _ _ _, ((Below.step hT hb1).setCell (p := ⟨_, _, none⟩) (by dsimp only; omega) _).setCell (p := ⟨_, _, none⟩) (by dsimp only; omega) _⟩⟩
    have Hfin := Lib.hid hfin
    clear hfin
    generalize hWg : (((w.alloc (.cells #[.int .i64 z, .slice p n c] 26)).alloc (.cells #[.int .i64 y, .slice q m d] 26)).alloc (.cells #[.int .i64 0, .slice none 0 0] 26)) = W0 at *
    have HW := Lib.hid hWg
    clear hWg
    cases h1 : isReg z us
    · go_enter Tryz.func9, Tryz.ntmps9
      go_wp2_with fail
      rw [HW.out]
      refine (implIsRegion_any _ _ _ _ _ _ (by omega) hx1).mono ?_
      rw [h1]
      rintro e w1 ⟨rfl, hb1⟩
      have kr1 := kr.below hb1
      have r0 := kr1.c0
      have r1 := kr1.c1
      have f0 := kr1.fr 0
      have f1 := kr1.fr 1
      obtain ⟨kf, hpost⟩ := Hfin.out _ hb1
      have kf0 := kf.c0
      have kf1 := kf.c1
      have Hpost := Lib.hid hpost
      clear hpost kf
      go_wp2
      rw [H.out]
      exact bodyPost_ret (v := .tuple #[.agg #[.int .i64 0, .slice none 0 0], .bool false]) (by simp [results, Tryz.results9, go_sem, kf0, kf1]) rfl Hpost.out
    · cases h2 : isReg y vs
      all_goals
        go_enter Tryz.func9, Tryz.ntmps9
        go_wp2_with fail
        rw [HW.out]
        refine (implIsRegion_any _ _ _ _ _ _ (by omega) hx1).mono ?_
        rw [h1]
        rintro e w1 ⟨rfl, hb1⟩
        have ks1 := ks.below hb1
        have s0 := ks1.c0
        have s1 := ks1.c1
        go_wp2_with fail
        refine (implIsRegion_any _ _ _ _ _ _ (by omega) (hy1.below hb1)).mono ?_
        rw [h2]
        rintro e w2 ⟨rfl, hb2⟩
        have hb3 := Below.step hb1 hb2
        have kb1 := kb.below hb3
        have kr1 := kr.below hb3
        have ks2 := ks.below hb3
        have b0 := kb1.c0
        have s2 := ks2.c0
        have r0 := kr1.c0
        have r1 := kr1.c1
        have f0 := kr1.fr 0
        have f1 := kr1.fr 1
        obtain ⟨kf, hpost⟩ := Hfin.out _ hb3
        have kf0 := kf.c0
        have kf1 := kf.c1
        have Hpost := Lib.hid hpost
        clear hpost kf
      · go_wp2
        rw [H.out]
        exact bodyPost_ret (v := .tuple #[.agg #[.int .i64 0, .slice none 0 0], .bool false]) (by simp [results, Tryz.results9, go_sem, kf0, kf1]) rfl Hpost.out
      · have h3 : (z != y) = true := by
          rw [bne_iff_ne]
          intro e
          exact hok ⟨h1, h2, e⟩
        clear hok
        go_wp2
        rw [H.out]
        exact bodyPost_ret (v := .tuple #[.agg #[.int .i64 0, .slice none 0 0], .bool false]) (by simp [results, Tryz.results9, go_sem, kf0, kf1]) rfl Hpost.out

end Go.Proofs.YtpfklkmmhdpphadGreatDoor
