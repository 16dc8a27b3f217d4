/- Contract of impl.SliceOf. Conditions: sizes. -/
import Derived.Test.YtpfklkmmhdpphacSlice
import Derived.Deep.DeepCutAuto
namespace Go.Proofs.Ytpfklkmmhdpphac
open Go.RowKit
set_option linter.unusedVariables false
set_option linter.unusedSimpArgs false
set_option maxRecDepth 100000

attribute [local go_sem ↓] Go.wp_at_zero Go.wp_at_succ

set_option maxHeartbeats 4000000 in
theorem implSlice_any (z k0 n0 : Int) (p : Option Addr) (n c : Nat) (hs : List Pr) (w : World) (hn : n ≤ 1048576) (hx : Prs w p n hs) :
    Calls Try.prog 13 #[.agg #[.int .i64 z, .slice p n c], .int .i64 k0, .int .i64 n0] w (NewRB w (sliceV z k0 n0 hs)) := by
  have hl := Lib.hid hx.len
  have hv := Lib.hid (show sliceV z k0 n0 hs = if isReg z hs = true ∧ z ≠ 1 ∧ inR k0 0 (z - 1) = true ∧ inR n0 (-6) 6 = true ∧ slBad k0.toNat n0 hs hs.length = false then regIf (z - 1) (slTo k0.toNat n0 hs hs.length) else ((0, []), false) from rfl)
  obtain ⟨kb, kr, hsz⟩ := boxes2' w z p n c
  have hT := boxed2 w (.cells #[.int .i64 z, .slice p n c] 26) (.cells #[.int .i64 0, .slice none 0 0] 26)
  have hx1 := hx.below hT
  go_enter Try.func13, Try.ntmps13
  go_wp2_with fail
  generalize ((w.alloc (.cells #[.int .i64 z, .slice p n c] 26)).alloc (.cells #[.int .i64 0, .slice none 0 0] 26)) = W0 at *
  cases h1 : isReg z hs
  · refine (implIsRegion_any _ _ _ _ _ _ (by omega) hx1).mono ?_
    rw [h1]
    rintro e w1 ⟨rfl, hb1⟩
    have H : Hid (sliceV z k0 n0 hs = ((0, []), false)) := Lib.hid (by rw [hv.out, if_neg (by simp [h1])])
    have kr_ := kr.below hb1
    have r0 := kr_.c0
    have r1 := kr_.c1
    have f0 := kr_.fr 0
    have f1 := kr_.fr 1
    have kf := (kr_.set0 (.int .i64 0)).set1 (.slice none 0 0)
    have kf0 := kf.c0
    have kf1 := kf.c1
    have hend := back2' (Below.step hT hb1) 1 (.int .i64 0) (.slice none 0 0)
    go_wp2
    rw [H.out]
    refine bodyPost_ret (v := .tuple #[.agg #[.int .i64 0, .slice none 0 0], .bool false]) (by simp [results, Try.results13, go_sem, kf0, kf1]) rfl ?_
    exact ⟨_, _, _, rfl, OwnPM.nil _ _ _ _, hend⟩
  refine (implIsRegion_any _ _ _ _ _ _ (by omega) hx1).mono ?_
  rw [h1]
  rintro e w1 ⟨rfl, hb1⟩
  have hf := isReg_facts h1
  have hz1 := hf.1
  have hz3 := hf.2.1
  have hl8 := hf.2.2.1
  clear hf
  have kb1 := kb.below hb1
  have b0 := kb1.c0
  have b1 := kb1.c1
  by_cases hz : z = 1
  · subst hz
    have H : Hid (sliceV 1 k0 n0 hs = ((0, []), false)) := Lib.hid (by rw [hv.out, if_neg (by simp)])
    have kr_ := kr.below hb1
    have r0 := kr_.c0
    have r1 := kr_.c1
    have f0 := kr_.fr 0
    have f1 := kr_.fr 1
    have kf := (kr_.set0 (.int .i64 0)).set1 (.slice none 0 0)
    have kf0 := kf.c0
    have kf1 := kf.c1
    have hend := back2' (Below.step hT hb1) 1 (.int .i64 0) (.slice none 0 0)
    go_wp2
    rw [H.out]
    refine bodyPost_ret (v := .tuple #[.agg #[.int .i64 0, .slice none 0 0], .bool false]) (by simp [results, Try.results13, go_sem, kf0, kf1]) rfl ?_
    exact ⟨_, _, _, rfl, OwnPM.nil _ _ _ _, hend⟩
  have hzz : (z == 1) = false := by simp [hz]
  have Hz := Lib.hid hz
  clear hz
  go_wp2_with fail
  cases h2 : inR k0 0 (z - 1)
  · refine (within_any _ _ _ _).mono ?_
    rw [h2]
    rintro e w2 ⟨rfl, rfl⟩
    have H : Hid (sliceV z k0 n0 hs = ((0, []), false)) := Lib.hid (by rw [hv.out, if_neg (by simp [h2])])
    have kr_ := kr.below hb1
    have r0 := kr_.c0
    have r1 := kr_.c1
    have f0 := kr_.fr 0
    have f1 := kr_.fr 1
    have kf := (kr_.set0 (.int .i64 0)).set1 (.slice none 0 0)
    have kf0 := kf.c0
    have kf1 := kf.c1
    have hend := back2' (Below.step hT hb1) 1 (.int .i64 0) (.slice none 0 0)
    go_wp2
    rw [H.out]
    refine bodyPost_ret (v := .tuple #[.agg #[.int .i64 0, .slice none 0 0], .bool false]) (by simp [results, Try.results13, go_sem, kf0, kf1]) rfl ?_
    exact ⟨_, _, _, rfl, OwnPM.nil _ _ _ _, hend⟩
  refine (within_any _ _ _ _).mono ?_
  rw [h2]
  rintro e w2 ⟨rfl, rfl⟩
  go_wp2_with fail
  cases h3 : inR n0 (-6) 6
  · refine (within_any _ _ _ _).mono ?_
    rw [h3]
    rintro e w2 ⟨rfl, rfl⟩
    have H : Hid (sliceV z k0 n0 hs = ((0, []), false)) := Lib.hid (by rw [hv.out, if_neg (by simp [h3])])
    have kr_ := kr.below hb1
    have r0 := kr_.c0
    have r1 := kr_.c1
    have f0 := kr_.fr 0
    have f1 := kr_.fr 1
    have kf := (kr_.set0 (.int .i64 0)).set1 (.slice none 0 0)
    have kf0 := kf.c0
    have kf1 := kf.c1
    have hend := back2' (Below.step hT hb1) 1 (.int .i64 0) (.slice none 0 0)
    go_wp2
    rw [H.out]
    refine bodyPost_ret (v := .tuple #[.agg #[.int .i64 0, .slice none 0 0], .bool false]) (by simp [results, Try.results13, go_sem, kf0, kf1]) rfl ?_
    exact ⟨_, _, _, rfl, OwnPM.nil _ _ _ _, hend⟩
  refine (within_any _ _ _ _).mono ?_
  rw [h3]
  rintro e w2 ⟨rfl, rfl⟩
  have hr2 := inR_true h2
  have hr3 := inR_true h3
  obtain ⟨k, rfl⟩ : ∃ k : Nat, k0 = (k : Int) := ⟨k0.toNat, by omega⟩
  obtain ⟨m, rfl⟩ : ∃ m : Nat, z = (m : Int) := ⟨z.toNat, by omega⟩
  have hkm : k < m := by omega
  have hv2 : Hid (sliceV m k n0 hs = if slBad k n0 hs n = false then regIf ((m : Int) - 1) (slTo k n0 hs n) else ((0, []), false)) := by
    show _ = _
    rw [hv.out, h1, h2, h3, hl.out]
    simp [Hz.out]
  have Hlen : Hid (∀ i, i < hs.length → (nrm hs i).length = m ∧ ∀ j, j < (nrm hs i).length → In62 (nth (nrm hs i) j)) := Lib.hid fun i hi => by
    have hf := isHalf_facts ((isReg_facts h1).2.2.2 i hi)
    exact ⟨by omega, allR_in62 hf.2.1 (by decide) (by decide)⟩
  have hr1 := kr.below hb1
  have hT1 := Below.step hT hb1
  have hs1 := hb1.size
  clear hv h2 h3 hr2 b0 b1
  have b0 := kb1.c0
  have b1 := kb1.c1
  have hm3 : m ≤ 3 := by omega
  have ko := Box2.new w1 (.int .i64 ((m : Int) - 1)) (.slice none 0 0) 26
  have b1a := (kb1.alloc (.cells #[.int .i64 ((m : Int) - 1), .slice none 0 0] 26)).c1
  go_wp2
  have hT2 := Below.step hT1 (boxed w1 (.cells #[.int .i64 ((m : Int) - 1), .slice none 0 0] 26))
  have hsW : w1.heap.size + 1 ≤ (w1.alloc (.cells #[.int .i64 ((m : Int) - 1), .slice none 0 0] 26)).heap.size := by simp
  have hw1a := boxed w1 (.cells #[.int .i64 ((m : Int) - 1), .slice none 0 0] 26)
  generalize w1.alloc (.cells #[.int .i64 ((m : Int) - 1), .slice none 0 0] 26) = W2 at *
  go_loopw [41] (fun i wr => ∃ (t : Nat) (p' : Option Addr) (n' c' : Nat) (rows : List Row), t ≤ n ∧ i = .int .i64 t ∧ Build2 w1.heap.size W2 wr ((m : Int) - 1) p' n' c' rows (slTo k n0 hs t) ∧ Hid (slBad k n0 hs t = false) ∧ n' ≤ t) (fun i _ => n - (intOf i).toNat)
  case atStart => exact ⟨0, _, _, _, _, Nat.zero_le _, rfl, ⟨ko, OwnP.nil _ _ _ _, Below.refl _ _, hsW⟩, rfl, Nat.zero_le _⟩
  case round =>
    obtain ⟨t, p', n', c', rows, ht, rfl, hB, hbad, hnt⟩ := hrel
    have hw1 : Below w1.heap.size w1 wr := hw1a.trans hB.low
    have hbw : Below w.heap.size w wr := Below.step hT1 hw1
    have kbw := kb1.below hw1
    have b1w := kbw.c1
    have koc1 := hB.out.c1
    clear b0 b1 b1a
    by_cases hlt : t < n
    · obtain ⟨b, o, q, mm, d, rfl, hc, hcb, hmd, hd, hi⟩ := (hx.below hbw).cell t hlt
      have hl' : t < hs.length := by rw [hl.out]; exact hlt
      have hmm : mm = m := by rw [← hi.len]; exact (Hlen.out t hl').1
      subst hmm
      have hin := Lib.hid (cutL_in62 (k := k) (Hlen.out t hl').2)
      have hcl : (cutL k (nrm hs t)).length = mm - 1 := by rw [cutL_len (by rw [hi.len]; exact hkm), hi.len]
      have Hcl := Lib.hid hcl
      clear hcl
      have hsp : slP k n0 (prAt hs t) = (cutL k (nrm hs t), wrap64 (bnd hs t - wrap64 (nth (nrm hs t) k * n0))) := rfl
      have Hst := Lib.hid (slTo_step (k := k) (n := n0) hl')
      have Hbd := Lib.hid (slBad_step (k := k) (n := n0) hl')
      have Hbs := Lib.hid (slBad_stop (k := k) (n := n0) hl')
      rw [hsp] at Hst Hbd Hbs
      clear hsp
      obtain ⟨b2, o2, rfl, hck⟩ := hi.cell k hkm
      have htk := hi.takeS (k := k) (by omega)
      have hkd : k ≤ d := by omega
      have hkd1 : k + 1 ≤ d := by omega
      have s1 : IntKind.i64.wrap ((k : Int) + 1) = (k : Int) + 1 := IntWalk.i64_in _ (by omega)
      have s2 : ((k : Int) + 1).toNat = k + 1 := by omega
      have s3 : (0 : Int) ≤ (k : Int) + 1 := by omega
      have hs5 := hB.size
      have hb2B : b2 < wr.heap.size := World.block_lt_of_cell? wr _ hck
      have kh := Box2.new wr (.slice (some ⟨b2, o2, none⟩) mm d) (.int .i64 (bnd hs t)) 48
      have hbh := boxed wr (.cells #[.slice (some ⟨b2, o2, none⟩) mm d, .int .i64 (bnd hs t)] 48)
      have hih := hi.alloc (.cells #[.slice (some ⟨b2, o2, none⟩) mm d, .int .i64 (bnd hs t)] 48)
      have htkh := htk.alloc (.cells #[.slice (some ⟨b2, o2, none⟩) mm d, .int .i64 (bnd hs t)] 48)
      have hckh := Below.cells hbh hck
      have kobh := hB.out.alloc (.cells #[.slice (some ⟨b2, o2, none⟩) mm d, .int .i64 (bnd hs t)] 48)
      have ownh := hB.own.below hbh
      have lowh : Below w1.heap.size W2 (wr.alloc (.cells #[.slice (some ⟨b2, o2, none⟩) mm d, .int .i64 (bnd hs t)] 48)) := hB.low.trans (hbh.mono (by omega))
      have hw1h := Below.step hw1 hbh
      have hsh : wr.heap.size + 1 ≤ (wr.alloc (.cells #[.slice (some ⟨b2, o2, none⟩) mm d, .int .i64 (bnd hs t)] 48)).heap.size := by simp
      have s4 : (k : Int) + 1 ≤ (mm : Int) := by omega
      have s6 : (k : Int) < (mm : Int) := by omega
      have s7 : (0 : Int) ≤ (k : Int) := by omega
      go_upto_region 7 with fail
      generalize wr.alloc (.cells #[.slice (some ⟨b2, o2, none⟩) mm d, .int .i64 (bnd hs t)] 48) = W1 at *
      clear hi htk hck hcb b1w
      have hi := hih
      have htk := htkh
      have hck := hckh
      have b1w := kh.c0
      have hcb := kh.c1
      have b1z := b1w
      have hcbz := hcb
      have hckz := hck
      go_cut [11, 41] (fun x y wx => ∃ (g : Nat) (p5 : Option Addr) (m5 c5 : Nat), y = .int .i64 t ∧ x = .pointer (some ⟨g, 0, none⟩) ∧ HalfAt W1 wx g p5 m5 c5 (cutL k (nrm hs t)) (wrap64 (bnd hs t - wrap64 (nth (nrm hs t) k * n0))))
      case first =>
        by_cases hd1 : d = k + 1
        · subst hd1
          have s5 : (k : Int) ≤ (k : Int) + 1 := by omega
          have s8 : (mm : Int) ≤ (k : Int) + 1 := by omega
          have hcut : ∀ W q, Ints W q 0 ((nrm hs t).drop (k + 1)) := fun W q => by
            rw [List.drop_eq_nil_of_le (by rw [hi.len]; omega)]; exact Ints.nil _ _
          have Hcut := Lib.hid hcut
          clear hcut
          go_region_held3 (fun w' => w'.cell? ⟨wr.heap.size, 0, none⟩ = some (.slice (some ⟨b2, o2, none⟩) mm (k + 1)) ∧ w'.cell? ⟨wr.heap.size, 1, none⟩ = some (.int .i64 (bnd hs t)) ∧ w'.cell? ⟨b2, o2 + k, none⟩ = some (.int .i64 (nth (nrm hs t) k))) (first | exact ⟨b1w, hcb, hck⟩ | exact ⟨b1w4, hcb4, hck4⟩ | exact ⟨Below.cells (boxed _ _) b1w, Below.cells (boxed _ _) hcb, Below.cells (boxed _ _) hck⟩ | exact ⟨Below.cells (boxed _ _) b1w4, Below.cells (boxed _ _) hcb4, Below.cells (boxed _ _) hck4⟩ | exact ⟨cell_other (cell_other b1w4 (by dsimp only; omega)) (by dsimp only; omega), cell_other (cell_other hcb4 (by dsimp only; omega)) (by dsimp only; omega), cell_other (cell_other hck4 (by dsimp only; omega)) (by dsimp only; omega)⟩) (first | (go_at_call 37; (with_reducible refine (copyInts_any _ _ _ _ _ (by omega) htk.drew).mono ?_); rintro e w3 ⟨p1, c1, rfl, ho1, hb1c⟩; have hb3 : Below W1.heap.size W1 w3 := Below.step (drewBelow W1) hb1c; have hs3 := hb3.size; replace b1w := Below.cells hb3 b1z; replace hcb := Below.cells hb3 hcbz; replace hck := Below.cells hb3 hckz) | (go_at_call 37; (with_reducible refine (copyInts_any _ _ _ _ _ (by omega) ((htk.alloc _).drew)).mono ?_); rintro e w3 ⟨p1, c1, rfl, ho1x, hb1c⟩; have hb3 : Below W1.heap.size W1 w3 := Below.step (boxed W1 (.cells #[.slice none 0 0, .int .i64 0] 48)).drew hb1c; have hs3 := hb3.size; have kx3 := (Box2.new W1 (.slice none 0 0) (.int .i64 0) 48).drew.below hb1c; have ne1 : ∀ a, p1 = some a → a.block ≠ W1.heap.size := (fun a ha => by have h9 : (W1.alloc (.cells #[.slice none 0 0, .int .i64 0] 48)).heap.size ≤ a.block := (ho1x.lt a ha).1; rw [World.size_alloc] at h9; omega); have ho1 := ho1x.widen (lo' := W1.heap.size) (show W1.heap.size ≤ (W1.alloc (.cells #[.slice none 0 0, .int .i64 0] 48)).heap.size from by rw [World.size_alloc]; exact Nat.le_succ _) (Nat.le_refl _); replace b1w := Below.cells hb3 b1z; replace hcb := Below.cells hb3 hcbz; replace hck := Below.cells hb3 hckz) | (refine step_append_ints rfl (.tmp 49) (.tmp 54) rfl _ W1.heap.size _ _ _ _ _ rfl ho1 _ _ _ _ rfl (Hcut.out _ _) (by omega) hb3.size ?_; intro p2 c2 w4 ho2 hg2; have hb4 := hb3.trans (hg2.belowO ho1 hb3.size); have hs4 := hb4.size; have b1w4 := Below.cells hb4 b1z; have hcb4 := Below.cells hb4 hcbz; have hck4 := Below.cells hb4 hckz; try (have kx4 := kx3.grow hg2 ne1; have ne4 := Grow.ne hg2 ne1 kx3.lt; have x0 := kx4.c0; have x1 := kx4.c1; have xf0 := kx4.fr 0; have xf1 := kx4.fr 1)) | (refine step_append_ints rfl (.tmp 49) (.tmp 54) rfl _ W1.heap.size _ _ _ _ _ rfl (ho1.alloc _) _ _ _ _ rfl (Hcut.out _ _) (by omega) (hb3.alloc hb3.size _).size ?_; intro p2 c2 w4 ho2 hg2; have hb4 := (hb3.alloc hb3.size _).trans (hg2.belowO (ho1.alloc _) (hb3.alloc hb3.size _).size); have hs4 := hb4.size; have b1w4 := Below.cells hb4 b1z; have hcb4 := Below.cells hb4 hcbz; have hck4 := Below.cells hb4 hckz; have kx4 := (Box2.new w3 _ _ _).grow hg2 (fun a ha => by have := (ho1.lt a ha).2.2; omega); have ne4 := Grow.ne hg2 (g := w3.heap.size) (fun a ha => by have := (ho1.lt a ha).2.2; omega) (by simp); have x0 := kx4.c0; have x1 := kx4.c1; have xf0 := kx4.fr 0; have xf1 := kx4.fr 1))
          all_goals
            try (simp only [Nat.zero_add, List.nil_append, Nat.add_zero] at ho2)
            go_wp2_with fail
            go_meet
            rw [← wrapEq, ← wrapEq]
            first | exact ⟨_, _, _, _, rfl, rfl, HalfAt.set kx4 ho2 ne4 hb4 (by omega)⟩ | exact ⟨_, _, _, _, rfl, rfl, HalfAt.new ho2 hb4⟩
        · have s5 : (k : Int) ≤ (d : Int) := by omega
          have s8 : (mm : Int) ≤ (d : Int) := by omega
          have s9 : (k : Int) + 1 ≤ (d : Int) := by omega
          go_region_held3 (fun w' => w'.cell? ⟨wr.heap.size, 0, none⟩ = some (.slice (some ⟨b2, o2, none⟩) mm d) ∧ w'.cell? ⟨wr.heap.size, 1, none⟩ = some (.int .i64 (bnd hs t)) ∧ w'.cell? ⟨b2, o2 + k, none⟩ = some (.int .i64 (nth (nrm hs t) k))) (first | exact ⟨b1w, hcb, hck⟩ | exact ⟨b1w4, hcb4, hck4⟩ | exact ⟨Below.cells (boxed _ _) b1w, Below.cells (boxed _ _) hcb, Below.cells (boxed _ _) hck⟩ | exact ⟨Below.cells (boxed _ _) b1w4, Below.cells (boxed _ _) hcb4, Below.cells (boxed _ _) hck4⟩ | exact ⟨cell_other (cell_other b1w4 (by dsimp only; omega)) (by dsimp only; omega), cell_other (cell_other hcb4 (by dsimp only; omega)) (by dsimp only; omega), cell_other (cell_other hck4 (by dsimp only; omega)) (by dsimp only; omega)⟩) (first | (go_at_call 37; (with_reducible refine (copyInts_any _ _ _ _ _ (by omega) htk.drew).mono ?_); rintro e w3 ⟨p1, c1, rfl, ho1, hb1c⟩; have hb3 : Below W1.heap.size W1 w3 := Below.step (drewBelow W1) hb1c; have hs3 := hb3.size; replace b1w := Below.cells hb3 b1z; replace hcb := Below.cells hb3 hcbz; replace hck := Below.cells hb3 hckz) | (go_at_call 37; (with_reducible refine (copyInts_any _ _ _ _ _ (by omega) ((htk.alloc _).drew)).mono ?_); rintro e w3 ⟨p1, c1, rfl, ho1x, hb1c⟩; have hb3 : Below W1.heap.size W1 w3 := Below.step (boxed W1 (.cells #[.slice none 0 0, .int .i64 0] 48)).drew hb1c; have hs3 := hb3.size; have kx3 := (Box2.new W1 (.slice none 0 0) (.int .i64 0) 48).drew.below hb1c; have ne1 : ∀ a, p1 = some a → a.block ≠ W1.heap.size := (fun a ha => by have h9 : (W1.alloc (.cells #[.slice none 0 0, .int .i64 0] 48)).heap.size ≤ a.block := (ho1x.lt a ha).1; rw [World.size_alloc] at h9; omega); have ho1 := ho1x.widen (lo' := W1.heap.size) (show W1.heap.size ≤ (W1.alloc (.cells #[.slice none 0 0, .int .i64 0] 48)).heap.size from by rw [World.size_alloc]; exact Nat.le_succ _) (Nat.le_refl _); replace b1w := Below.cells hb3 b1z; replace hcb := Below.cells hb3 hcbz; replace hck := Below.cells hb3 hckz) | (refine step_append_ints rfl (.tmp 49) (.tmp 54) rfl _ W1.heap.size _ _ _ _ _ rfl ho1 _ _ _ _ rfl ((hi.below hb3).dropS (k + 1)) (by omega) hb3.size ?_; intro p2 c2 w4 ho2 hg2; have hb4 := hb3.trans (hg2.belowO ho1 hb3.size); have hs4 := hb4.size; have b1w4 := Below.cells hb4 b1z; have hcb4 := Below.cells hb4 hcbz; have hck4 := Below.cells hb4 hckz; try (have kx4 := kx3.grow hg2 ne1; have ne4 := Grow.ne hg2 ne1 kx3.lt; have x0 := kx4.c0; have x1 := kx4.c1; have xf0 := kx4.fr 0; have xf1 := kx4.fr 1)) | (refine step_append_ints rfl (.tmp 49) (.tmp 54) rfl _ W1.heap.size _ _ _ _ _ rfl (ho1.alloc _) _ _ _ _ rfl (((hi.below hb3).alloc _).dropS (k + 1)) (by omega) (hb3.alloc hb3.size _).size ?_; intro p2 c2 w4 ho2 hg2; have hb4 := (hb3.alloc hb3.size _).trans (hg2.belowO (ho1.alloc _) (hb3.alloc hb3.size _).size); have hs4 := hb4.size; have b1w4 := Below.cells hb4 b1z; have hcb4 := Below.cells hb4 hcbz; have hck4 := Below.cells hb4 hckz; have kx4 := (Box2.new w3 _ _ _).grow hg2 (fun a ha => by have := (ho1.lt a ha).2.2; omega); have ne4 := Grow.ne hg2 (g := w3.heap.size) (fun a ha => by have := (ho1.lt a ha).2.2; omega) (by simp); have x0 := kx4.c0; have x1 := kx4.c1; have xf0 := kx4.fr 0; have xf1 := kx4.fr 1))
          all_goals
            try (simp only [Nat.zero_add, List.nil_append, Nat.add_zero] at ho2)
            go_wp2_with fail
            go_meet
            rw [← wrapEq, ← wrapEq]
            first | exact ⟨_, _, _, _, rfl, rfl, HalfAt.set kx4 ho2 ne4 hb4 (by omega)⟩ | exact ⟨_, _, _, _, rfl, rfl, HalfAt.new ho2 hb4⟩
      case rest =>
        obtain ⟨g, p5, m5, c5, rfl, rfl, hH⟩ := hcut
        obtain rfl : m5 = mm - 1 := by rw [← hH.own.len, Hcl.out]
        have hg0 := hH.box.c0
        have hg1 := hH.box.c1
        have hoi := hH.own.ints
        go_wp2_with fail
        refine (ret_of_drew (gcdAll_any _ _ _ _ _ (by omega) hoi hin.out)).mono ?_
        rintro e w5 ⟨rfl, hb5⟩
        replace hH : HalfAt W1 w5 g p5 (mm - 1) c5 (cutL k (nrm hs t)) (wrap64 (bnd hs t - wrap64 (nth (nrm hs t) k * n0))) := ⟨hH.box.below hb5, (hH.own.below hb5).up, Below.step hH.low hb5, hH.ge⟩
        clear hg0 hg1 hoi
        have hg0 := hH.box.c0
        have hg1 := hH.box.c1
        have kob := kobh.below hH.low
        have own2 := ownh.below hH.low
        have low2 : Below w1.heap.size W2 w5 := lowh.trans (hH.low.mono (by omega))
        have hwc : Below w1.heap.size w1 w5 := Below.step hw1h hH.low
        have hsc := hH.low.size
        by_cases hkp : 0 < gcdL (cutL k (nrm hs t))
        · have hstep : Hid (slTo k n0 hs (t + 1) = slTo k n0 hs t ++ [(cutL k (nrm hs t), wrap64 (bnd hs t - wrap64 (nth (nrm hs t) k * n0)))]) := Lib.hid (by rw [Hst.out, if_pos (by simp [slKeep, hkp])])
          have hbad2 : Hid (slBad k n0 hs (t + 1) = false) := Lib.hid (by rw [Hbd.out, hbad.out]; simp [slOff, slKeep, hkp])
          have ko1 := kob.c1
          go_wp2_with (first | (at_builtin; refine append_half rfl _ _ rfl _ (w1.heap.size + 1) _ _ _ _ _ rfl (own2.outer.alloc _) _ _ _ _ _ rfl (Box2.new _ _ _ _) (by omega) (by simp; omega) ?_; intro p3 c3 w3 ho3 hg3; have ko3 := (kob.alloc _).grow hg3 (fun a ha => by have := (own2.outer.lt a ha).1; omega); have kof := ko3.fr 1; have koc4 := ko3.c1))
          have h3 := own2.app halfNe (hH.own.widen (lo' := wr.heap.size) (by omega) (Nat.le_refl _)) (by omega) (boxed _ _) ho3 hg3
          have low3 : Below w1.heap.size W2 w3 := low2.trans (((boxed w5 _).mono (by omega)).trans (hg3.below (by simp; omega) (fun a ha => by have := (own2.outer.lt a ha).1; omega)))
          go_roundw
          case rel =>
            refine ⟨t + 1, _, _, _, rows ++ [(p5, mm - 1, c5)], by omega, by go_num, ⟨ko3.set1 _, ?_, low3.setCell (by dsimp only; omega) _, ?_⟩, hbad2, by omega⟩
            · rw [hstep.out]
              exact (h3.setBelow (by dsimp only; omega) _).up
            · have := hg3.by_.size
              simp at this ⊢; omega
          case measure => simp [intOf]; omega
        · have hk0 : slKeep (cutL k (nrm hs t), wrap64 (bnd hs t - wrap64 (nth (nrm hs t) k * n0))) = false := by simp [slKeep]; omega
          have Hk0 := Lib.hid hk0
          clear hk0
          by_cases hneg : wrap64 (bnd hs t - wrap64 (nth (nrm hs t) k * n0)) < 0
          · have hbt : slBad k n0 hs n = true := by
              have := Hbs.out (by rw [slOff, Hk0.out]; simp [hneg])
              rwa [hl.out] at this
            have H : Hid (sliceV (mm : Int) (k : Int) n0 hs = ((0, []), false)) := Lib.hid (by rw [hv2.out, if_neg (by simp [hbt])])
            clear hbt
            have hb9 := Below.step hb1 hwc
            have kr_ := kr.below hb9
            have r0 := kr_.c0
            have r1 := kr_.c1
            have f0 := kr_.fr 0
            have f1 := kr_.fr 1
            have kf := (kr_.set0 (.int .i64 0)).set1 (.slice none 0 0)
            have kf0 := kf.c0
            have kf1 := kf.c1
            have hend := back2' (Below.step hT hb9) 1 (.int .i64 0) (.slice none 0 0)
            go_wp2
            rw [H.out]
            refine bodyPost_ret (v := .tuple #[.agg #[.int .i64 0, .slice none 0 0], .bool false]) (by simp [results, Try.results13, go_sem, kf0, kf1]) rfl ?_
            exact ⟨_, _, _, rfl, OwnPM.nil _ _ _ _, hend⟩
          · have hstep : Hid (slTo k n0 hs (t + 1) = slTo k n0 hs t) := Lib.hid (by rw [Hst.out, if_neg (by rw [Hk0.out]; simp)])
            have hbad2 : Hid (slBad k n0 hs (t + 1) = false) := Lib.hid (by rw [Hbd.out, hbad.out, slOff]; simp; intro; omega)
            go_wp2
            go_roundw
            case rel => exact ⟨t + 1, _, _, _, rows, by omega, by go_num, ⟨kob, by rw [hstep.out]; exact own2.up, low2, by omega⟩, hbad2, by omega⟩
            case measure => simp [intOf]; omega
    · obtain rfl : t = n := by omega
      have hM : OwnPM 48 _ _ _ _ _ _ _ := ⟨rows, hB.own⟩
      have o0 := hB.out.c0
      have o1 := hB.out.c1
      have kr4 := kr.below (Below.step hb1 hw1)
      have hsz4 := hB.size
      have hR : Hid (sliceV (m : Int) (k : Int) n0 hs = regIf ((m : Int) - 1) (slTo k n0 hs t)) := Lib.hid (by rw [hv2.out, if_pos hbad.out])
      go_wp2_with fail
      refine (regionOf_any _ _ _ _ _ _ _ _ (by omega) hM).mono ?_
      rintro e w9 ⟨⟨p9, n9, c9, rfl, ho9⟩, hb9⟩
      have kr9 := kr4.below hb9
      have r0 := kr9.c0
      have r1 := kr9.c1
      have f0 := kr9.fr 0
      have f1 := kr9.fr 1
      have hbb := Below.step hbw hb9
      have hs9 := hb9.size
      have kf := (kr9.set0 (.int .i64 (regIf ((m : Int) - 1) (slTo k n0 hs t)).1.1)).set1 (.slice p9 n9 c9)
      have kf0 := kf.c0
      have kf1 := kf.c1
      go_wp2
      rw [hR.out]
      refine bodyPost_ret (v := .tuple #[.agg #[.int .i64 (regIf ((m : Int) - 1) (slTo k n0 hs t)).1.1, .slice p9 n9 c9], .bool (regIf ((m : Int) - 1) (slTo k n0 hs t)).2]) (by simp [results, Try.results13, go_sem, kf0, kf1]) rfl ?_
      refine ⟨_, _, _, rfl, ?_, back2' hbb 1 _ _⟩
      exact ((ho9.widen (lo' := w.heap.size + 2) (by omega) (Nat.le_refl _)).setBelow (a := ⟨_, _, none⟩) (by dsimp only; omega) _ |>.setBelow (a := ⟨_, _, none⟩) (by dsimp only; omega) _).up.widen (by omega) (Nat.le_refl _)

end Go.Proofs.Ytpfklkmmhdpphac
