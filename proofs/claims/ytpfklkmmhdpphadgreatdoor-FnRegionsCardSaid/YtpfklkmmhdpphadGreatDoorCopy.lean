/- Contracts of impl.copyRegion. Conditions: sizes. -/
import Derived.Test.YtpfklkmmhdpphadGreatDoorJnOps2
import Derived.Test.YtpfklkmmhdpphadGreatDoorReg3
import Derived.Deep.DrawnRows
namespace Go.Proofs.YtpfklkmmhdpphadGreatDoor
open Go.RowKit
set_option linter.unusedVariables false
set_option linter.unusedSimpArgs false
set_option maxRecDepth 100000

attribute [local go_sem ↓] Go.wp_at_zero Go.wp_at_succ

theorem Box2.ofBelow {w w' : World} {b B : Nat} {v0 v1 : Value} {T : TypeId} (h : Box2 w b v0 v1 T) (hb : Below B w w') (hlt : b < B) : Box2 w' b v0 v1 T := (hb.block b hlt).trans h
theorem OwnP.setBelow {E : TypeId} {w : World} {lo hi : Nat} {p : Option Addr} {n c : Nat} {rows : List Row} {hs : List Pr} (h : OwnP E w lo hi p n c rows hs) {a : Addr} (ha : a.block < lo) (u : Value) : OwnP E (w.setCell a u) lo hi p n c rows hs :=
  ⟨⟨ownsRow_setCell_below h.outer.row ha u, h.outer.top⟩, h.len, fun k hk => (h.inner k hk).setBelow ha u, h.apart⟩
theorem Below.of {w w' : World} {B : Nat} (h : Below w.heap.size w w') (hB : B ≤ w.heap.size) : Below B w w' := h.mono hB

theorem cell_other {w : World} {a : Addr} {v u : Value} {b k : Nat} (h : w.cell? ⟨b, k, none⟩ = some v) (hne : b ≠ a.block) : (w.setCell a u).cell? ⟨b, k, none⟩ = some v :=
  (World.cell?_of_block (Below.heap_setCell w a u b hne)).trans h

/-- The struct that the call builds, at the head of the loop. -/
structure Building (w W0 wr : World) (z : Int) (p' : Option Addr) (k c' : Nat) (rows : List Row) (hs : List Pr) : Prop where
  out : Box2 wr (w.heap.size + 1 + 1) (.int .i64 z) (.slice p' k c') 26
  own : OwnP 36 wr (w.heap.size + 3) wr.heap.size p' k c' rows hs
  low : Below (w.heap.size + 1 + 1) W0 wr
  size : w.heap.size + 3 ≤ wr.heap.size

set_option maxHeartbeats 2000000 in
theorem copyRegion_any (z : Int) (p : Option Addr) (n c : Nat) (hs : List Pr) (w : World) (hn : n ≤ 1048576) (hx : Prs w p n hs) (hm2 : totH hs ≤ 1048576) :
    Calls Tryz.prog 29 #[.agg #[.int .i64 z, .slice p n c]] w (NewR w z n hs) := by
  have hl := Lib.hid hx.len
  have hlens := Lib.hid (fun k (h : k < hs.length) => Nat.le_trans (len_le_totH h) hm2)
  have hT := boxed3 w (.cells #[.int .i64 z, .slice p n c] 26) (.cells #[.int .i64 0, .slice none 0 0] 26) (.cells #[.int .i64 z, .slice none 0 0] 26)
  have kr : Box2 (((w.alloc (.cells #[.int .i64 z, .slice p n c] 26)).alloc (.cells #[.int .i64 0, .slice none 0 0] 26)).alloc (.cells #[.int .i64 z, .slice none 0 0] 26)) (w.heap.size + 1) (.int .i64 0) (.slice none 0 0) 26 := by
    have h := (Box2.new (w.alloc (.cells #[.int .i64 z, .slice p n c] 26)) (.int .i64 0) (.slice none 0 0) 26).alloc (.cells #[.int .i64 z, .slice none 0 0] 26)
    rwa [World.size_alloc] at h
  have ko : Box2 (((w.alloc (.cells #[.int .i64 z, .slice p n c] 26)).alloc (.cells #[.int .i64 0, .slice none 0 0] 26)).alloc (.cells #[.int .i64 z, .slice none 0 0] 26)) (w.heap.size + 1 + 1) (.int .i64 z) (.slice none 0 0) 26 := by
    have h := Box2.new ((w.alloc (.cells #[.int .i64 z, .slice p n c] 26)).alloc (.cells #[.int .i64 0, .slice none 0 0] 26)) (.int .i64 z) (.slice none 0 0) 26
    rwa [World.size_alloc, World.size_alloc] at h
  have hsz : w.heap.size + 3 ≤ (((w.alloc (.cells #[.int .i64 z, .slice p n c] 26)).alloc (.cells #[.int .i64 0, .slice none 0 0] 26)).alloc (.cells #[.int .i64 z, .slice none 0 0] 26)).heap.size := by simp
  go_enter Tryz.func29, Tryz.ntmps29
  go_wp2
  generalize (((w.alloc (.cells #[.int .i64 z, .slice p n c] 26)).alloc (.cells #[.int .i64 0, .slice none 0 0] 26)).alloc (.cells #[.int .i64 z, .slice none 0 0] 26)) = W0 at *
  go_loopw [12] (fun i wr => ∃ (k : Nat) (p' : Option Addr) (c' : Nat) (rows : List Row), k ≤ n ∧ i = .int .i64 k ∧ Building w W0 wr z p' k c' rows (hs.take k)) (fun i _ => n - (intOf i).toNat)
  case atStart => exact ⟨0, _, _, _, Nat.zero_le _, rfl, ko, OwnP.nil _ _ _ _, Below.refl _ _, hsz⟩
  case round =>
    obtain ⟨k, p', c', rows, hk, rfl, hB⟩ := hrel
    have hbw : Below w.heap.size w wr := hT.trans (hB.low.mono (by omega))
    by_cases hlt : k < n
    · obtain ⟨b, o, q, m, d, rfl, hc, hcb, hmd, hd, hi⟩ := (hx.below hbw).cell k hlt
      have hml2 : m ≤ 1048576 := by rw [← hi.len]; exact hlens.out k (by rw [hl.out]; exact hlt)
      have kh := Box2.new wr (.slice q m d) (.int .i64 (bnd hs k)) 36
      have ko1 := hB.out.alloc (.cells #[.slice q m d, .int .i64 (bnd hs k)] 36)
      have own1 := hB.own.below (boxed wr (.cells #[.slice q m d, .int .i64 (bnd hs k)] 36))
      have hi1 := hi.alloc (.cells #[.slice q m d, .int .i64 (bnd hs k)] 36)
      have low1 := hB.low.trans ((boxed wr (.cells #[.slice q m d, .int .i64 (bnd hs k)] 36)).mono (by have := hB.size; omega))
      have hs1 := hB.size
      have hs2 : wr.heap.size + 1 ≤ (wr.alloc (.cells #[.slice q m d, .int .i64 (bnd hs k)] 36)).heap.size := by simp
      go_wp2
      generalize wr.alloc (.cells #[.slice q m d, .int .i64 (bnd hs k)] 36) = W1 at *
      have khc0 := kh.c0
      have khc1 := kh.c1
      have koc1 := ko1.c1
      go_region_law (first | (go_simp; go_at_call 68; (with_reducible refine (copyInts_any _ _ _ _ _ (by omega) hi1.drew).mono ?_); rintro e w1 ⟨p1, c1, rfl, ho1, hb1⟩; have ko2 := ko1.drew.below hb1; have own2 := own1.drew.below hb1; have koc2 := ko2.c1; have khc2 := (kh.drew.below hb1).c1; have koc3 := (ko2.alloc (.cells #[.slice p1 m c1, .int .i64 (bnd hs k)] 36)).c1; have hs3 := hb1.size) | (refine step_append_half rfl (.tmp 17) (.tmp 24) rfl _ (w.heap.size + 3) _ _ _ _ _ rfl (own2.outer.alloc _) _ _ _ _ _ rfl (Box2.new _ _ _ _) (by omega) (by simp at hs3 ⊢; omega) ?_; intro p3 c3 w3 ho3 hg3; have ko3 := (ko2.alloc _).grow hg3 (fun a ha => by have := (own2.outer.lt a ha).1; omega); have kof := ko3.fr 1; have koc4 := ko3.c1))
      all_goals
        have ho1' := ho1.widen (lo' := wr.heap.size) (hi' := w1.heap.size) (by simp; omega) (Nat.le_refl _)
        have h3 := own2.app halfNe ho1' (by omega) (boxed _ _) ho3 hg3
        have low3 : Below (w.heap.size + 1 + 1) W0 w3 := low1.trans ((Below.of (Below.step (drewBelow _) hb1) (by omega)).trans ((Below.of (boxed w1 (.cells #[.slice p1 m c1, .int .i64 (bnd hs k)] 36)) (by simp at hs3; omega)).trans (hg3.below (by simp at hs3 ⊢; omega) (fun a ha => by have := (own2.outer.lt a ha).1; omega))))
        go_wp2
        go_roundw
        case rel =>
          refine ⟨k + 1, _, _, rows ++ [(p1, m, c1)], by omega, by go_num, ko3.set1 _, ?_, low3.setCell (by dsimp only; omega) _, ?_⟩
          · rw [take_prAt (by rw [hl.out]; exact hlt)]
            exact (h3.setBelow (by dsimp only; omega) _).up
          · have := hg3.by_.size
            simp at this hs3 ⊢; omega
        case measure => simp [intOf]; omega
    · have kr1 := kr.ofBelow hB.low (by omega)
      have krc0 := kr1.c0
      have krc1 := kr1.c1
      have krf0 := kr1.fr 0
      have krf1 := kr1.fr 1
      have koc0 := hB.out.c0
      have koc1 := hB.out.c1
      have kf := (kr1.set0 (.int .i64 z)).set1 (.slice p' k c')
      have kf0 := kf.c0
      have kf1 := kf.c1
      go_wp2
      obtain rfl : k = n := by omega
      rw [List.take_of_length_le (by rw [hl.out]; exact Nat.le_refl _)] at hB
      refine bodyPost_ret (v := .agg #[.int .i64 z, .slice p' k c']) (by simp [results, Tryz.results29, go_sem, kf0, kf1]) rfl ?_
      refine ⟨_, _, rfl, ⟨_, ((hB.own.setBelow (a := ⟨_, _, none⟩) (by dsimp only; omega) _).setBelow (a := ⟨_, _, none⟩) (by dsimp only; omega) _).up.widen (by omega) (Nat.le_refl _)⟩, ?_⟩
      exact (hbw.setCell (p := ⟨_, _, none⟩) (by dsimp only; omega) _).setCell (p := ⟨_, _, none⟩) (by dsimp only; omega) _

end Go.Proofs.YtpfklkmmhdpphadGreatDoor
