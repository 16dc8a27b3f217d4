/- The reference's draws of polygons. Conditions: sizes. -/
import Derived.Test.YthdonnkekggbbaaGreatDoorJnTexts
import Derived.Test.YthdonnkekggbbaaGreatDoorHull5
import Derived.Test.YthdonnkekggbbaaGreatDoorHullI
import Derived.Test.YthdonnkekggbbaaGreatDoorPTx
import Derived.Test.YthdonnkekggbbaaGreatDoorPolLaw2
namespace Go.Proofs.YthdonnkekggbbaaGreatDoor
open Go.RowKit
set_option linter.unusedVariables false
set_option linter.unusedSimpArgs false
set_option maxRecDepth 100000

theorem Own2.lit3 (w : World) (a b c d e f : Int) : Own2 ((((w.alloc (.cells #[.int .i64 a, .int .i64 b] 3)).alloc (.cells #[.int .i64 c, .int .i64 d] 3)).alloc (.cells #[.int .i64 e, .int .i64 f] 3)).alloc (.cells #[.slice (some ⟨w.heap.size, 0, none⟩) 2 2, .slice (some ⟨w.heap.size + 1, 0, none⟩) 2 2, .slice (some ⟨w.heap.size + 2, 0, none⟩) 2 2] 29))
    w.heap.size (w.heap.size + 4) (some ⟨w.heap.size + 3, 0, none⟩) 3 3 [(some ⟨w.heap.size, 0, none⟩, 2, 2), (some ⟨w.heap.size + 1, 0, none⟩, 2, 2), (some ⟨w.heap.size + 2, 0, none⟩, 2, 2)] [[a, b], [c, d], [e, f]] := by
  have h0 := (((made2 w a b).alloc (.cells #[.int .i64 c, .int .i64 d] 3)).alloc (.cells #[.int .i64 e, .int .i64 f] 3)).alloc (.cells #[.slice (some ⟨w.heap.size, 0, none⟩) 2 2, .slice (some ⟨w.heap.size + 1, 0, none⟩) 2 2, .slice (some ⟨w.heap.size + 2, 0, none⟩) 2 2] 29)
  have h1 := ((made2 (w.alloc (.cells #[.int .i64 a, .int .i64 b] 3)) c d).alloc (.cells #[.int .i64 e, .int .i64 f] 3)).alloc (.cells #[.slice (some ⟨w.heap.size, 0, none⟩) 2 2, .slice (some ⟨w.heap.size + 1, 0, none⟩) 2 2, .slice (some ⟨w.heap.size + 2, 0, none⟩) 2 2] 29)
  have h2 := (made2 ((w.alloc (.cells #[.int .i64 a, .int .i64 b] 3)).alloc (.cells #[.int .i64 c, .int .i64 d] 3)) e f).alloc (.cells #[.slice (some ⟨w.heap.size, 0, none⟩) 2 2, .slice (some ⟨w.heap.size + 1, 0, none⟩) 2 2, .slice (some ⟨w.heap.size + 2, 0, none⟩) 2 2] 29)
  have h3 := World.ownsRow_lit (base := w.heap.size) (e := 29) (size := 1) (((w.alloc (.cells #[.int .i64 a, .int .i64 b] 3)).alloc (.cells #[.int .i64 c, .int .i64 d] 3)).alloc (.cells #[.int .i64 e, .int .i64 f] 3)) #[.slice (some ⟨w.heap.size, 0, none⟩) 2 2, .slice (some ⟨w.heap.size + 1, 0, none⟩) 2 2, .slice (some ⟨w.heap.size + 2, 0, none⟩) 2 2] 3 (by simp; omega) (by unfold maxLen; omega) rfl
  simp only [World.size_alloc] at h0 h1 h2 h3
  refine ⟨⟨h3, fun x hx => by injection hx with hx; subst hx; dsimp only; omega⟩, rfl, fun k h => ?_, ?_⟩
  · match k, h with
    | 0, _ => exact h0.widen (Nat.le_refl _) (by omega)
    | 1, _ => exact h1.widen (by omega) (by omega)
    | 2, _ => exact h2.widen (by omega) (by omega)
  · simp [List.pairwise_cons, blk]

/-- A polygon that was drawn. -/
def DrawnP (w : World) (g : Nat) (p : Option Addr) (n c : Nat) (xs : List Int) (e : Ending) (w' : World) : Prop :=
  ∃ (q : Option Addr) (k d : Nat) (rows : List Row) (yss : List (List Int)), e = .returned (.slice q k d) ∧ Own2 w' w.heap.size w'.heap.size q k d rows yss ∧ 3 ≤ k ∧ k ≤ 12 ∧ Drawn1 w g p n c xs w'

theorem hullV_some {xs : List (List Int)} (h : (hullV xs).2 = true) : 3 ≤ (hullV xs).1.length ∧ (hullV xs).1.length ≤ 12 := by
  unfold hullV at h ⊢
  split
  · next hc => simp only [hullL, List.length_map]; exact ⟨hc.2.2.2.1, hc.2.2.2.2⟩
  · next hc => rw [if_neg hc] at h; cases h

set_option maxHeartbeats 4000000 in
theorem l7Draw_any (g : Nat) (p : Option Addr) (n c : Nat) (xs : List Int) (size : Int) (w : World) (hn : n ≤ 1048576) (hx : Cur w g p n c xs) (hs1 : 0 ≤ size) (hs2 : size ≤ 100000) :
    Calls Tryz.prog 48 #[.pointer (some ⟨g, 0, none⟩), .int .i64 size] w (DrawnP w g p n c xs) := by
  have hgl := hx.lt
  have hD0 := Drawn1.new hx (Below.refl _ _)
  go_enter Tryz.func48, Tryz.ntmps48
  go_wp2_with fail
  go_loopw [5] (fun i wr => ∃ t : Nat, t ≤ 6 ∧ i = .int .i64 t ∧ Drawn1 w g p n c xs wr) (fun i _ => 6 - (intOf i).toNat)
  case atStart => exact ⟨0, Nat.zero_le _, rfl, hD0⟩
  case round =>
    clear hD0
    obtain ⟨t, ht, rfl, hD⟩ := hrel
    by_cases hlt : t < 6
    · have hd1 : decide ((t : Int) < 6) = true := decide_eq_true (by omega)
      generalize wr = W at *
      have hB := boxed W (.cells #[] 29)
      have hE := Own2.empty W
      have hD1 := hD.step (Drawn1.new hD.1 hB)
      have hsW := hD.2.size
      go_wp2_with fail
      refine (l1Below_any _ _ _ _ _ _ _ hn hD1.1 (by omega) (by omega)).mono ?_
      rintro e w2 ⟨x, rfl, hx0, hx1, hD2⟩
      obtain ⟨m, hm⟩ : ∃ m : Nat, 3 + x = (m : Int) := ⟨(3 + x).toNat, by omega⟩
      have hm6 : m ≤ 6 := by omega
      have hw1 : IntKind.i64.wrap (3 + x) = (m : Int) := by rw [wrapEq, hm]; exact wrap64_id (by omega) (by omega)
      have Hm := Lib.hid hm
      clear hm
      have hD3 := hD1.step hD2
      have hE2 := hE.within hD2.2 (.inr (by omega))
      have hs2' := hD2.2.size
      clear hE hD1 hD2 hB
      go_wp2_with fail
      go_loopw [6, 8] (fun v i wr => ∃ (k : Nat) (q : Option Addr) (d : Nat) (rows : List Row) (yss : List (List Int)), k ≤ m ∧ i = .int .i64 k ∧ v = .slice q k d ∧ Own2 wr W.heap.size wr.heap.size q k d rows yss ∧ W.heap.size ≤ wr.heap.size ∧ Drawn1 w g p n c xs wr) (fun _ i _ => m - (intOf i).toNat)
      case atStart => exact ⟨0, _, _, [], [], Nat.zero_le _, rfl, rfl, hE2.up, by have := hE2.outer.lt _ rfl; dsimp only at this; omega, hD3⟩
      case round =>
        clear hE2 hD3
        obtain ⟨k, q, d, rows, yss, hk, rfl, rfl, hown, hsk, hDk⟩ := hrel
        by_cases hlt2 : k < m
        · have hd2 : decide ((k : Int) < (m : Int)) = true := decide_eq_true (by omega)
          generalize wr = R at *
          go_wp2_with fail
          refine (l2Draw_i _ _ _ _ 2 _ _ _ _ rfl hn hDk.1 (by omega) hs1 hs2).mono ?_
          rintro e w3 ⟨q2, d2, zs, rfl, ho2, _, hD4⟩
          have hown2 := hown.within hD4.2 (.inr (by omega))
          have hD5 := hDk.step hD4
          have hs5 := hD4.2.size
          go_wp2_with (at_builtin; refine append_row rfl _ _ rfl _ W.heap.size _ _ _ _ _ rfl (hown2.outer.alloc _) _ _ _ _ rfl (cellNew _ _ _) (by omega) (by simp; omega) ?_; intro p5 c5 w5 ho5 hg5)
          have hb5 : Below W.heap.size w3 w5 := ((Below.refl _ _).alloc (by omega) _).trans (hg5.below (by simp; omega) fun a ha => (hown2.outer.lt a ha).1)
          have hD6 := hD5.low hb5 (by omega) (by omega)
          have h5 := hown2.app ho2 hsk (boxed _ _) ho5 hg5
          go_roundw
          case rel => exact ⟨k + 1, _, _, _, _, by omega, by go_num, rfl, h5, by have := hb5.size; omega, hD6⟩
          case measure => simp [intOf]; omega
        · obtain rfl : k = m := by omega
          have hd2 : decide ((k : Int) < (k : Int)) = false := by simp
          go_wp2_with fail
          refine (specHull_any _ _ _ _ _ (by omega) hown.rd).mono ?_
          rintro e w4 ⟨q4, n4, c4, rfl, ⟨rows4, ho4⟩, hb4⟩
          have hD7 := hDk.step (Drawn1.new hDk.1 hb4)
          have hs7 := hDk.2.size
          cases hv : (hullV yss).2
          · go_wp2_with fail
            exact ⟨⟨t + 1, by omega, by go_num, hD7⟩, by simp [intOf]; omega⟩
          · have hle := hullV_some hv
            have hl4 := ho4.len
            have hc4 := ho4.count
            go_wp2_with fail
            go_ret
            exact ⟨_, n4, _, _, _, rfl, ho4.widen (by omega) (Nat.le_refl _), by omega, by omega, hD7⟩
    · obtain rfl : t = 6 := by omega
      have hd1 : decide (((6 : Nat) : Int) < 6) = false := by decide
      have h3 := Own2.lit3 wr 0 0 2 0 0 1
      have hsW := hD.2.size
      have hB := (boxed3 wr (.cells #[.int .i64 0, .int .i64 0] 3) (.cells #[.int .i64 2, .int .i64 0] 3) (.cells #[.int .i64 0, .int .i64 1] 3)).alloc (boxed3 wr (.cells #[.int .i64 0, .int .i64 0] 3) (.cells #[.int .i64 2, .int .i64 0] 3) (.cells #[.int .i64 0, .int .i64 1] 3)).size (.cells #[.slice (some ⟨wr.heap.size, 0, none⟩) 2 2, .slice (some ⟨wr.heap.size + 1, 0, none⟩) 2 2, .slice (some ⟨wr.heap.size + 2, 0, none⟩) 2 2] 29)
      have hD8 := hD.step (Drawn1.new hD.1 hB)
      go_wp2_with fail
      go_ret
      exact ⟨_, 3, _, _, _, rfl, h3.up.widen (by omega) (Nat.le_refl _), by omega, by omega, hD8⟩

end Go.Proofs.YthdonnkekggbbaaGreatDoor
