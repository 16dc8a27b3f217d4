/- Contracts of the laws' helpers on regions. Conditions: sizes. -/
import Derived.Test.YtbdndkombedfnaaRegKit
namespace Go.Proofs.Ytbdndkombedfnaa
open Go.RowKit
set_option linter.unusedVariables false
set_option linter.unusedSimpArgs false
set_option maxRecDepth 100000

/-- A new region. -/
def NewR (w : World) (z : Int) (n : Nat) (hs : List Pr) (e : Ending) (w' : World) : Prop :=
  ∃ p c, e = .returned (.agg #[.int .i64 z, .slice p n c]) ∧ OwnPM 45 w' w.heap.size w'.heap.size p n c hs ∧ Below w.heap.size w w'

theorem OwnPM.setBelow {E : TypeId} {w : World} {lo hi : Nat} {p : Option Addr} {n c : Nat} {hs : List Pr} (h : OwnPM E w lo hi p n c hs) {a : Addr} (ha : a.block < lo) (u : Value) : OwnPM E (w.setCell a u) lo hi p n c hs := by
  obtain ⟨rows, h⟩ := h
  refine ⟨rows, ⟨⟨ownsRow_setCell_below h.outer.row ha u, h.outer.top⟩, h.len, fun k hk => (h.inner k hk).setBelow ha u, h.apart⟩⟩

theorem toRegion_any (z : Int) (p : Option Addr) (n c : Nat) (hs : List Pr) (w : World) (hx : Prs w p n hs) (hm : n ≤ 1048576) (hm2 : totH hs ≤ 1048576) :
    Calls Try.prog 7 #[.agg #[.int .i64 z, .slice p n c]] w (NewR w z n hs) := by
  go_enter Try.func7, Try.ntmps7
  go_wp2_with fail
  refine (toHalfS_any _ _ _ _ _ (((hx.alloc _).alloc _).alloc _) hm hm2).mono ?_
  rintro e w1 ⟨q, d, rfl, ho, hb⟩
  obtain ⟨hc, hf⟩ := bcell hb
  have hz : w.heap.size + 2 < w1.heap.size := by have := hb.size; simp at this; omega
  have hbb : Below w.heap.size w w1 := Below.step (boxed3 w _ _ _) hb
  have ho' := ho
  simp only [World.size_alloc] at ho'
  go_wp2
  refine bodyPost_ret (v := .agg #[.int .i64 z, .slice q n d]) (by simp [results, Try.results7, go_sem, hc, hz]) rfl ?_
  refine ⟨_, _, rfl, ?_, ?_⟩
  · exact (((ho'.setBelow (a := ⟨_, _, none⟩) (by dsimp only; omega) _).setBelow (a := ⟨_, _, none⟩) (by dsimp only; omega) _).setBelow (a := ⟨_, _, none⟩) (by dsimp only; omega) _).up.widen (by omega) (Nat.le_refl _)
  · exact ((hbb.setCell (p := ⟨_, _, none⟩) (by dsimp only; omega) _).setCell (p := ⟨_, _, none⟩) (by dsimp only; omega) _).setCell (p := ⟨_, _, none⟩) (by dsimp only; omega) _

theorem szRegion_any (z : Int) (p : Option Addr) (n c : Nat) (hs : List Pr) (left : Int) (w : World) (hn : n ≤ 9223372036854775807) (hx : Prs w p n hs) (h0 : 0 ≤ left) (h1 : left ≤ 1048576) :
    Calls Try.prog 5 #[.agg #[.int .i64 z, .slice p n c], .int .i64 left] w (Ret (.int .i64 (leftOf (n + totH hs) left)) w) := by
  by_cases h : ((n + totH hs : Nat) : Int) ≤ left
  · rw [leftOf_yes h]
    go_enter Try.func5, Try.ntmps5
    go_wp2_with fail
    refine (szHalfS_any _ _ _ _ _ _ hn (hx.alloc _) h0 h1).mono ?_
    rw [leftOf_yes h]
    rintro e w' ⟨rfl, hb⟩
    go_wp2
    go_ret
    exact ⟨rfl, Below.step (boxed _ _) hb⟩
  · rw [leftOf_no (by omega)]
    go_enter Try.func5, Try.ntmps5
    go_wp2_with fail
    refine (szHalfS_any _ _ _ _ _ _ hn (hx.alloc _) h0 h1).mono ?_
    rw [leftOf_no (by omega)]
    rintro e w' ⟨rfl, hb⟩
    go_wp2
    go_ret
    exact ⟨rfl, Below.step (boxed _ _) hb⟩

theorem eqRegion_self (z : Int) (p q : Option Addr) (n c m d : Nat) (hs : List Pr) (w : World) (hx : Prs w p n hs) (hy : Prs w q m hs) (hn : n ≤ 9223372036854775807) (hm : m ≤ 9223372036854775807) :
    Calls Try.prog 10 #[.agg #[.int .i64 z, .slice p n c], .agg #[.int .i64 z, .slice q m d]] w (Ret (.bool true) w) := by
  go_enter Try.func10, Try.ntmps10
  go_wp2_with fail
  refine (eqHalfS_self _ _ _ _ _ _ _ _ ((hx.alloc _).alloc _) ((hy.alloc _).alloc _) hn hm).mono ?_
  rintro e w1 ⟨rfl, hb⟩
  have hbb : Below w.heap.size w w1 := Below.step (boxed2 w _ _) hb
  go_wp2
  go_ret
  exact ⟨rfl, hbb⟩

theorem markRegion_any (lo hi : Nat) (z : Int) (p : Option Addr) (n c : Nat) (hs : List Pr) (k0 : Int) (w : World) (hx : OwnPM 45 w lo hi p n c hs) (hh : hi ≤ w.heap.size) (h0 : 0 ≤ k0) (h1 : k0 + (totH hs : Nat) + n ≤ 9223372036854775806) :
    Calls Try.prog 11 #[.agg #[.int .i64 z, .slice p n c], .int .i64 k0] w fun e w' => e = .returned (.int .i64 (k0 + (totH hs : Nat) + n)) ∧ OwnPM 45 w' lo hi p n c (upP k0 hs) ∧ Within lo hi w w' := by
  go_enter Try.func11, Try.ntmps11
  go_wp2_with fail
  refine (markHalfS_any _ _ _ _ _ _ _ _ (hx.below (boxed _ _)) h0 h1).mono ?_
  rintro e w1 ⟨rfl, ho, hw⟩
  go_wp2
  go_ret
  exact ⟨rfl, ho, (Within.of_below (boxed _ _)).trans hw⟩

end Go.Proofs.Ytbdndkombedfnaa
