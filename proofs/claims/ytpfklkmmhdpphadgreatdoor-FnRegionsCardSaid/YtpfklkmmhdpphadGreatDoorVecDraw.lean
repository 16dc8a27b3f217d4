/- The reference's draws of vectors. Conditions: sizes. -/
import Derived.Test.YtpfklkmmhdpphadGreatDoorFnNum
namespace Go.Proofs.YtpfklkmmhdpphadGreatDoor
open Go.RowKit
set_option linter.unusedVariables false
set_option linter.unusedSimpArgs false
set_option maxRecDepth 100000

theorem Cur.low {w w' : World} {g B : Nat} {p : Option Addr} {n c : Nat} {xs : List Int} (h : Cur w g p n c xs) (hb : Below B w w') (hg : g < B) : Cur w' g p n c xs := by
  obtain ⟨i, k, h1, h2⟩ := h.box
  refine ⟨⟨i, k, (hb.block g hg).trans h1, h2⟩, ⟨h.bytes.len, fun j hj => ?_⟩, h.far⟩
  obtain ⟨b, o, hp, hc, h0, h3⟩ := h.bytes.cell j hj
  have hf := h.far _ hp (by omega)
  exact ⟨b, o, hp, (hb.cell (show b < B by dsimp only at hf; omega)).trans hc, h0, h3⟩
theorem Within.low {w w1 w2 : World} {lo hi B : Nat} (h : Within lo hi w w1) (k : Below B w1 w2) (hB : w.heap.size ≤ B) : Within lo hi w w2 :=
  ⟨k.os.trans h.os, k.tape.trans h.tape, k.output.trans h.output, Nat.le_trans h.size k.size, fun j hj hd => (k.block j (by omega)).trans (h.block j hj hd)⟩
theorem Drawn1.low {w w1 w2 : World} {g B : Nat} {p : Option Addr} {n c : Nat} {xs : List Int} (h : Drawn1 w g p n c xs w1) (k : Below B w1 w2) (hB : w.heap.size ≤ B) (hg : g < B) : Drawn1 w g p n c xs w2 := ⟨h.1.low k hg, h.2.low k hB⟩

/-- A row of numbers that was drawn. -/
def DrawnRow (w : World) (g : Nat) (p : Option Addr) (n c : Nat) (xs : List Int) (m : Nat) (e : Ending) (w' : World) : Prop :=
  ∃ q d ys, e = .returned (.slice q m d) ∧ Own w' w.heap.size w'.heap.size q m d ys ∧ Drawn1 w g p n c xs w'

set_option maxHeartbeats 1000000 in
theorem l2Draw_any (g : Nat) (p : Option Addr) (n c m : Nat) (xs : List Int) (size : Int) (w : World) (hn : n ≤ 1048576) (hx : Cur w g p n c xs) (hm : m ≤ 1000) (hs1 : 0 ≤ size) (hs2 : size ≤ 100000) :
    Calls Tryz.prog 54 #[.pointer (some ⟨g, 0, none⟩), .int .i64 m, .int .i64 size] w fun e w' => ∃ q d ys, e = .returned (.slice q m d) ∧ Own w' w.heap.size w'.heap.size q m d ys ∧ (∀ j, j < m → -size ≤ nth ys j ∧ nth ys j ≤ size) ∧ Drawn1 w g p n c xs w' := by
  have hgl := hx.lt
  have hE := Own.empty w
  have hB := boxed w (.cells #[] 3)
  have hD0 := Drawn1.new hx hB
  go_enter Tryz.func54, Tryz.ntmps54
  go_wp2_with fail
  go_loopw [7, 8] (fun v i wr => ∃ (k : Nat) (q : Option Addr) (d : Nat) (ys : List Int), k ≤ m ∧ i = .int .i64 k ∧ v = .slice q k d ∧ Own wr w.heap.size wr.heap.size q k d ys ∧ Hid (∀ j, j < k → -size ≤ nth ys j ∧ nth ys j ≤ size) ∧ Drawn1 w g p n c xs wr) (fun _ i _ => m - (intOf i).toNat)
  case atStart => exact ⟨0, _, _, [], Nat.zero_le _, rfl, rfl, hE.up, Lib.hid fun j hj => by omega, hD0⟩
  case round =>
    clear hE hD0
    obtain ⟨k, q, d, ys, hk, rfl, rfl, hown, hys, hD⟩ := hrel
    by_cases hlt : k < m
    · have hd1 : decide ((k : Int) < (m : Int)) = true := by simp; omega
      have hlen := Lib.hid hown.len
      generalize wr = W at *
      go_wp2_with fail
      refine (l1Below_any _ _ _ _ _ _ _ hn hD.1 (by omega) (by omega)).mono ?_
      rintro e w2 ⟨x, rfl, hx0, hx1, hD2⟩
      have hown2 := (hown.within hD2.2 (.inr (by omega))).up
      have hD3 := hD.step hD2
      have hs2' := hD3.2.size
      go_wp2_with (at_builtin; refine append_int rfl _ _ rfl _ w.heap.size _ _ _ _ _ rfl (hown2.alloc _) w2.heap.size _ rfl (cellNew _ _ _) (by omega) (by simp; omega) ?_; intro p5 c5 w5 hown5 hg5)
      have hb5 : Below w.heap.size w2 w5 := ((Below.refl _ _).alloc hs2' _).trans (hg5.below (by simp; omega) fun a ha => (hown2.lt a ha).1)
      have hD5 := hD3.low hb5 (Nat.le_refl _) hgl
      go_roundw
      case rel =>
        refine ⟨k + 1, _, _, _, by omega, by go_num, rfl, hown5, Lib.hid fun j hj => ?_, hD5⟩
        by_cases hjk : j < k
        · have e : nth (ys ++ [x - size]) j = nth ys j := by
            have := hlen.out
            rw [nth_eq (by simp; omega), nth_eq (by omega), List.getElem_append_left]
          rw [e]; exact hys.out j hjk
        · obtain rfl : j = k := by omega
          have e : nth (ys ++ [x - size]) j = x - size := by
            have := hlen.out
            rw [nth_eq (by simp; omega), List.getElem_append_right (by omega)]; simp
          rw [e]; omega
      case measure => simp [intOf]; omega
    · obtain rfl : k = m := by omega
      go_wp2_with fail
      go_ret
      exact ⟨_, _, _, rfl, hown, hys.out, hD⟩

end Go.Proofs.YtpfklkmmhdpphadGreatDoor
