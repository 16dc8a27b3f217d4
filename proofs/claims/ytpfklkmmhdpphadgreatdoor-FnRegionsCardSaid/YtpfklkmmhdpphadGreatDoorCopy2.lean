/- Contracts of impl.regionOf, spec.l4One and spec.l4Copy. Conditions: sizes. -/
import Derived.Test.YtpfklkmmhdpphadGreatDoorCopy
import Derived.Deep.DrawnRows
namespace Go.Proofs.YtpfklkmmhdpphadGreatDoor
open Go.RowKit
set_option linter.unusedVariables false
set_option linter.unusedSimpArgs false
set_option maxRecDepth 100000

attribute [local go_sem ↓] Go.wp_at_zero Go.wp_at_succ

/-- What a call gives: a region of its own and a yes or no. -/
def NewRB (w : World) (r : (Int × List Pr) × Bool) (e : Ending) (w' : World) : Prop :=
  ∃ p n c, e = .returned (.tuple #[.agg #[.int .i64 r.1.1, .slice p n c], .bool r.2]) ∧ OwnPM 36 w' w.heap.size w'.heap.size p n c r.1.2 ∧ Below w.heap.size w w'
def regIf (z : Int) (hs : List Pr) : (Int × List Pr) × Bool := if isReg z hs = true then ((z, hs), true) else ((0, []), false)
theorem regIf_yes {z : Int} {hs : List Pr} (h : isReg z hs = true) : regIf z hs = ((z, hs), true) := by simp [regIf, h]
theorem regIf_no {z : Int} {hs : List Pr} (h : isReg z hs = false) : regIf z hs = ((0, []), false) := by simp [regIf, h]

theorem regionOf_any (lo hi : Nat) (z : Int) (p : Option Addr) (n c : Nat) (hs : List Pr) (w : World) (hn : n ≤ 9223372036854775807) (hx : OwnPM 36 w lo hi p n c hs) :
    Calls Tryz.prog 31 #[.agg #[.int .i64 z, .slice p n c]] w fun e w' => (∃ p n c, e = .returned (.tuple #[.agg #[.int .i64 (regIf z hs).1.1, .slice p n c], .bool (regIf z hs).2]) ∧ OwnPM 36 w' lo hi p n c (regIf z hs).1.2) ∧ Below w.heap.size w w' := by
  have kb : Box2 ((w.alloc (.cells #[.int .i64 z, .slice p n c] 26)).alloc (.cells #[.int .i64 0, .slice none 0 0] 26)) w.heap.size (.int .i64 z) (.slice p n c) 26 := (Box2.new w _ _ _).alloc _
  have kr : Box2 ((w.alloc (.cells #[.int .i64 z, .slice p n c] 26)).alloc (.cells #[.int .i64 0, .slice none 0 0] 26)) (w.heap.size + 1) (.int .i64 0) (.slice none 0 0) 26 := by
    have h := Box2.new (w.alloc (.cells #[.int .i64 z, .slice p n c] 26)) (.int .i64 0) (.slice none 0 0) 26
    rwa [World.size_alloc] at h
  have hT := boxed2 w (.cells #[.int .i64 z, .slice p n c] 26) (.cells #[.int .i64 0, .slice none 0 0] 26)
  cases h1 : isReg z hs
  · go_enter Tryz.func31, Tryz.ntmps31
    go_wp2_with fail
    refine (implIsRegion_any _ _ _ _ _ _ hn (hx.rd.below hT)).mono ?_
    rw [h1]
    rintro e w1 ⟨rfl, hb1⟩
    have kr1 := kr.below hb1
    have r0 := kr1.c0
    have r1 := kr1.c1
    have f0 := kr1.fr 0
    have f1 := kr1.fr 1
    have kf := (kr1.set0 (.int .i64 0)).set1 (.slice none 0 0)
    have kf0 := kf.c0
    have kf1 := kf.c1
    have hbb : Below w.heap.size w ((w1.setCell ⟨w.heap.size + 1, 0, none⟩ (.int .i64 0)).setCell ⟨w.heap.size + 1, 1, none⟩ (.slice none 0 0)) :=
      ((Below.step hT hb1).setCell (p := ⟨_, _, none⟩) (by dsimp only; omega) _).setCell (p := ⟨_, _, none⟩) (by dsimp only; omega) _
    go_wp2
    rw [regIf_no h1]
    refine bodyPost_ret (v := .tuple #[.agg #[.int .i64 0, .slice none 0 0], .bool false]) (by simp [results, Tryz.results31, go_sem, kf0, kf1]) rfl ?_
    exact ⟨⟨_, _, _, rfl, OwnPM.nil _ _ _ _⟩, hbb⟩
  · go_enter Tryz.func31, Tryz.ntmps31
    go_wp2_with fail
    refine (implIsRegion_any _ _ _ _ _ _ hn (hx.rd.below hT)).mono ?_
    rw [h1]
    rintro e w1 ⟨rfl, hb1⟩
    have kb1 := kb.below hb1
    have b0 := kb1.c0
    have b1 := kb1.c1
    have kr1 := kr.below hb1
    have r0 := kr1.c0
    have r1 := kr1.c1
    have f0 := kr1.fr 0
    have f1 := kr1.fr 1
    have kf := (kr1.set0 (.int .i64 z)).set1 (.slice p n c)
    have kf0 := kf.c0
    have kf1 := kf.c1
    have hbb : Below w.heap.size w ((w1.setCell ⟨w.heap.size + 1, 0, none⟩ (.int .i64 z)).setCell ⟨w.heap.size + 1, 1, none⟩ (.slice p n c)) :=
      ((Below.step hT hb1).setCell (p := ⟨_, _, none⟩) (by dsimp only; omega) _).setCell (p := ⟨_, _, none⟩) (by dsimp only; omega) _
    go_wp2
    rw [regIf_yes h1]
    refine bodyPost_ret (v := .tuple #[.agg #[.int .i64 z, .slice p n c], .bool true]) (by simp [results, Tryz.results31, go_sem, kf0, kf1]) rfl ?_
    exact ⟨⟨_, _, _, rfl, hx.below hbb⟩, hbb⟩

/-- A new half. -/
def NewHalf (w : World) (n : Nat) (xs : List Int) (b : Int) (e : Ending) (w' : World) : Prop :=
  ∃ p c, e = .returned (.agg #[.slice p n c, .int .i64 b]) ∧ Own w' w.heap.size w'.heap.size p n c xs ∧ Below w.heap.size w w'

theorem l4One_any (p : Option Addr) (n c : Nat) (xs : List Int) (b : Int) (w : World) (hn : n ≤ 1048576) (hx : Ints w p n xs) :
    Calls Tryz.prog 41 #[.agg #[.slice p n c, .int .i64 b]] w (NewHalf w n xs b) := by
  have kb : Box2 ((w.alloc (.cells #[.slice p n c, .int .i64 b] 36)).alloc (.cells #[.slice none 0 0, .int .i64 0] 36)) w.heap.size (.slice p n c) (.int .i64 b) 36 := (Box2.new w _ _ _).alloc _
  have kr : Box2 ((w.alloc (.cells #[.slice p n c, .int .i64 b] 36)).alloc (.cells #[.slice none 0 0, .int .i64 0] 36)) (w.heap.size + 1) (.slice none 0 0) (.int .i64 0) 36 := by
    have h := Box2.new (w.alloc (.cells #[.slice p n c, .int .i64 b] 36)) (.slice none 0 0) (.int .i64 0) 36
    rwa [World.size_alloc] at h
  have hT := boxed2 w (.cells #[.slice p n c, .int .i64 b] 36) (.cells #[.slice none 0 0, .int .i64 0] 36)
  have hsz : ((w.alloc (.cells #[.slice p n c, .int .i64 b] 36)).alloc (.cells #[.slice none 0 0, .int .i64 0] 36)).heap.size = w.heap.size + 2 := by simp
  have hx1 := hx.below hT
  go_enter Tryz.func41, Tryz.ntmps41
  go_wp2
  generalize ((w.alloc (.cells #[.slice p n c, .int .i64 b] 36)).alloc (.cells #[.slice none 0 0, .int .i64 0] 36)) = W at *
  have hsz' : w.heap.size + 2 ≤ W.heap.size := by omega
  clear hsz
  have b0 := kb.c0
  have b1 := kb.c1
  have kba := kb.alloc (.cells #[] 3)
  have kra := kr.alloc (.cells #[] 3)
  have b0a := kba.c0
  have b1a := kba.c1
  go_region_held3 (fun w' => w'.cell? ⟨w.heap.size, 0, none⟩ = some (.slice p n c) ∧ w'.cell? ⟨w.heap.size, 1, none⟩ = some (.int .i64 b)) (first | exact ⟨b0, b1⟩ | exact ⟨Below.cells (boxed _ _) b0, Below.cells (boxed _ _) b1⟩ | exact ⟨cell_other (cell_other b0 (by dsimp only; omega)) (by dsimp only; omega), cell_other (cell_other b1 (by dsimp only; omega)) (by dsimp only; omega)⟩) (first | (refine step_append_ints rfl (.tmp 3) (.tmp 5) rfl _ W.heap.size _ _ _ _ _ rfl (Own.empty W).drew _ _ _ _ rfl ((hx1.alloc _).drew) (by omega) (sizeNewD (Below.refl _ _) _) ?_; intro p1 c1 w1 ho1 hg1; simp only [Nat.zero_add, List.nil_append] at ho1; have hb1 := Below.newD (Below.refl _ _) _ (hg1.belowO ((Own.empty W).drew) (sizeNewD (Below.refl _ _) _)); replace b0 := Below.cells hb1 b0; replace b1 := Below.cells hb1 b1; have kr1 := kr.below hb1; have r0 := kr1.c0; have r1 := kr1.c1; have f0 := kr1.fr 0; have f1 := kr1.fr 1))
  all_goals
    have kf := (kr1.set0 (.slice p1 n c1)).set1 (.int .i64 b)
    have kf0 := kf.c0
    have kf1 := kf.c1
    have hbb : Below w.heap.size w ((w1.setCell ⟨w.heap.size + 1, 0, none⟩ (.slice p1 n c1)).setCell ⟨w.heap.size + 1, 1, none⟩ (.int .i64 b)) :=
      ((Below.step hT hb1).setCell (p := ⟨_, _, none⟩) (by dsimp only; omega) _).setCell (p := ⟨_, _, none⟩) (by dsimp only; omega) _
    go_wp2
    refine bodyPost_ret (v := .agg #[.slice p1 n c1, .int .i64 b]) (by simp [results, Tryz.results41, go_sem, kf0, kf1]) rfl ?_
    exact ⟨_, _, rfl, ((ho1.setBelow (a := ⟨_, _, none⟩) (by dsimp only; omega) _).setBelow (a := ⟨_, _, none⟩) (by dsimp only; omega) _).up.widen (by omega) (Nat.le_refl _), hbb⟩

set_option maxHeartbeats 2000000 in
theorem l4Copy_any (z : Int) (p : Option Addr) (n c : Nat) (hs : List Pr) (w : World) (hn : n ≤ 1048576) (hx : Prs w p n hs) (hm2 : totH hs ≤ 1048576) :
    Calls Tryz.prog 33 #[.agg #[.int .i64 z, .slice p n c]] w (NewR w z n hs) := by
  have hl := Lib.hid hx.len
  have hlens := Lib.hid (fun k (h : k < hs.length) => Nat.le_trans (len_le_totH h) hm2)
  have hT := boxed3 w (.cells #[.int .i64 z, .slice p n c] 26) (.cells #[.int .i64 0, .slice none 0 0] 26) (.cells #[.int .i64 z, .slice none 0 0] 26)
  have kb : Box2 (((w.alloc (.cells #[.int .i64 z, .slice p n c] 26)).alloc (.cells #[.int .i64 0, .slice none 0 0] 26)).alloc (.cells #[.int .i64 z, .slice none 0 0] 26)) w.heap.size (.int .i64 z) (.slice p n c) 26 := ((Box2.new w _ _ _).alloc _).alloc _
  have kr : Box2 (((w.alloc (.cells #[.int .i64 z, .slice p n c] 26)).alloc (.cells #[.int .i64 0, .slice none 0 0] 26)).alloc (.cells #[.int .i64 z, .slice none 0 0] 26)) (w.heap.size + 1) (.int .i64 0) (.slice none 0 0) 26 := by
    have h := (Box2.new (w.alloc (.cells #[.int .i64 z, .slice p n c] 26)) (.int .i64 0) (.slice none 0 0) 26).alloc (.cells #[.int .i64 z, .slice none 0 0] 26)
    rwa [World.size_alloc] at h
  have ko : Box2 (((w.alloc (.cells #[.int .i64 z, .slice p n c] 26)).alloc (.cells #[.int .i64 0, .slice none 0 0] 26)).alloc (.cells #[.int .i64 z, .slice none 0 0] 26)) (w.heap.size + 1 + 1) (.int .i64 z) (.slice none 0 0) 26 := by
    have h := Box2.new ((w.alloc (.cells #[.int .i64 z, .slice p n c] 26)).alloc (.cells #[.int .i64 0, .slice none 0 0] 26)) (.int .i64 z) (.slice none 0 0) 26
    rwa [World.size_alloc, World.size_alloc] at h
  have hsz : w.heap.size + 3 ≤ (((w.alloc (.cells #[.int .i64 z, .slice p n c] 26)).alloc (.cells #[.int .i64 0, .slice none 0 0] 26)).alloc (.cells #[.int .i64 z, .slice none 0 0] 26)).heap.size := by simp
  go_enter Tryz.func33, Tryz.ntmps33
  go_wp2
  generalize (((w.alloc (.cells #[.int .i64 z, .slice p n c] 26)).alloc (.cells #[.int .i64 0, .slice none 0 0] 26)).alloc (.cells #[.int .i64 z, .slice none 0 0] 26)) = W0 at *
  go_loopw [4] (fun i wr => ∃ (k : Nat) (p' : Option Addr) (c' : Nat) (rows : List Row), k ≤ n ∧ i = .int .i64 k ∧ Building w W0 wr z p' k c' rows (hs.take k)) (fun i _ => n - (intOf i).toNat)
  case atStart => exact ⟨0, _, _, _, Nat.zero_le _, rfl, ko, OwnP.nil _ _ _ _, Below.refl _ _, hsz⟩
  case round =>
    obtain ⟨k, p', c', rows, hk, rfl, hB⟩ := hrel
    have hbw : Below w.heap.size w wr := hT.trans (hB.low.mono (by omega))
    by_cases hlt : k < n
    · obtain ⟨b, o, q, m, d, rfl, hc, hcb, hmd, hd, hi⟩ := (hx.below hbw).cell k hlt
      have hml2 : m ≤ 1048576 := by rw [← hi.len]; exact hlens.out k (by rw [hl.out]; exact hlt)
      have hs1 := hB.size
      have kb1 := kb.ofBelow hB.low (by omega)
      have koc1 := hB.out.c1
      have kbc1 := kb1.c1
      have own1 := hB.own
      have low1 := hB.low
      have ko1 := hB.out
      go_wp2
      go_region_law (first | (go_simp; go_at_call 41; (with_reducible refine (l4One_any _ _ _ _ _ _ (by omega) hi.drew).mono ?_); rintro e w1 ⟨p1, c1, rfl, ho1, hb1⟩; have ko2 := ko1.drew.below hb1; have own2 := own1.drew.below hb1; have koc2 := ko2.c1; have koc3 := (ko2.alloc (.cells #[.slice p1 m c1, .int .i64 (bnd hs k)] 36)).c1; have hs3 := hb1.size) | (refine step_append_half rfl (.tmp 16) (.tmp 23) rfl _ (w.heap.size + 3) _ _ _ _ _ rfl (own2.outer.alloc _) _ _ _ _ _ rfl (Box2.new _ _ _ _) (by omega) (by simp at hs3 ⊢; omega) ?_; intro p3 c3 w3 ho3 hg3; have ko3 := (ko2.alloc _).grow hg3 (fun a ha => by have := (own2.outer.lt a ha).1; omega); have kof := ko3.fr 1; have koc4 := ko3.c1))
      all_goals
        have ho1' := ho1.widen (lo' := wr.heap.size) (hi' := w1.heap.size) (Nat.le_refl _) (Nat.le_refl _)
        have h3 := own2.app halfNe ho1' (by omega) (boxed _ _) ho3 hg3
        have low3 : Below (w.heap.size + 1 + 1) W0 w3 := low1.trans ((Below.of (Below.step (drewBelow _) hb1) (by omega)).trans ((Below.of (boxed w1 (.cells #[.slice p1 m c1, .int .i64 (bnd hs k)] 36)) (by simp at hs3; omega)).trans (hg3.below (by simp at hs3 ⊢; omega) (fun a ha => by have := (own2.outer.lt a ha).1; omega))))
        go_wp2
        go_roundw
        case rel =>
          refine ⟨k + 1, _, _, rows ++ [(p1, m, c1)], by omega, by go_num, ko3.set1 _, ?_, low3.setCell (by dsimp only; omega) _, ?_⟩
          · rw [take_prAt (by rw [hl.out]; exact hlt)]
            exact (h3.setBelow (by dsimp only; omega) _).up
          · have := hg3.by_.size
            simp at this hs3 ⊢; omega
        case measure => simp [intOf]; omega
    · have kr1 := kr.ofBelow hB.low (by omega)
      have krc0 := kr1.c0
      have krc1 := kr1.c1
      have krf0 := kr1.fr 0
      have krf1 := kr1.fr 1
      have hs1 := hB.size
      have kb1 := kb.ofBelow hB.low (by omega)
      have kbc1 := kb1.c1
      have koc0 := hB.out.c0
      have koc1 := hB.out.c1
      have kf := (kr1.set0 (.int .i64 z)).set1 (.slice p' k c')
      have kf0 := kf.c0
      have kf1 := kf.c1
      go_wp2
      obtain rfl : k = n := by omega
      rw [List.take_of_length_le (by rw [hl.out]; exact Nat.le_refl _)] at hB
      refine bodyPost_ret (v := .agg #[.int .i64 z, .slice p' k c']) (by simp [results, Tryz.results33, go_sem, kf0, kf1]) rfl ?_
      refine ⟨_, _, rfl, ⟨_, ((hB.own.setBelow (a := ⟨_, _, none⟩) (by dsimp only; omega) _).setBelow (a := ⟨_, _, none⟩) (by dsimp only; omega) _).up.widen (by omega) (Nat.le_refl _)⟩, ?_⟩
      exact (hbw.setCell (p := ⟨_, _, none⟩) (by dsimp only; omega) _).setCell (p := ⟨_, _, none⟩) (by dsimp only; omega) _

end Go.Proofs.YtpfklkmmhdpphadGreatDoor
