/- Contracts of the laws' helpers on regions. Conditions: sizes. -/
import Derived.Test.YteamihmolpaoeaaDoorRegKit
namespace Go.Proofs.YteamihmolpaoeaaDoor
open Go.RowKit
set_option linter.unusedVariables false
set_option linter.unusedSimpArgs false
set_option maxRecDepth 100000

/-- A new region. -/
def NewR (w : World) (z : Int) (n : Nat) (hs : List Pr) (e : Ending) (w' : World) : Prop :=
  ∃ p c, e = .returned (.agg #[.int .i64 z, .slice p n c]) ∧ OwnPM 43 w' w.heap.size w'.heap.size p n c hs ∧ Below w.heap.size w w'

theorem OwnPM.setBelow {E : TypeId} {w : World} {lo hi : Nat} {p : Option Addr} {n c : Nat} {hs : List Pr} (h : OwnPM E w lo hi p n c hs) {a : Addr} (ha : a.block < lo) (u : Value) : OwnPM E (w.setCell a u) lo hi p n c hs := by
  obtain ⟨rows, h⟩ := h
  refine ⟨rows, ⟨⟨ownsRow_setCell_below h.outer.row ha u, h.outer.top⟩, h.len, fun k hk => (h.inner k hk).setBelow ha u, h.apart⟩⟩

theorem eqRegion_self (z : Int) (p q : Option Addr) (n c m d : Nat) (hs : List Pr) (w : World) (hx : Prs w p n hs) (hy : Prs w q m hs) (hn : n ≤ 9223372036854775807) (hm : m ≤ 9223372036854775807) :
    Calls Tryd.prog 7 #[.agg #[.int .i64 z, .slice p n c], .agg #[.int .i64 z, .slice q m d]] w (Ret (.bool true) w) := by
  go_enter Tryd.func7, Tryd.ntmps7
  go_wp2_with fail
  refine (eqHalfS_self _ _ _ _ _ _ _ _ ((hx.alloc _).alloc _) ((hy.alloc _).alloc _) hn hm).mono ?_
  rintro e w1 ⟨rfl, hb⟩
  have hbb : Below w.heap.size w w1 := Below.step (boxed2 w _ _) hb
  go_wp2
  go_ret
  exact ⟨rfl, hbb⟩

theorem markRegion_any (lo hi : Nat) (z : Int) (p : Option Addr) (n c : Nat) (hs : List Pr) (k0 : Int) (w : World) (hx : OwnPM 43 w lo hi p n c hs) (hh : hi ≤ w.heap.size) (h0 : 0 ≤ k0) (h1 : k0 + (totH hs : Nat) + n ≤ 9223372036854775806) :
    Calls Tryd.prog 8 #[.agg #[.int .i64 z, .slice p n c], .int .i64 k0] w fun e w' => e = .returned (.int .i64 (k0 + (totH hs : Nat) + n)) ∧ OwnPM 43 w' lo hi p n c (upP k0 hs) ∧ Within lo hi w w' := by
  go_enter Tryd.func8, Tryd.ntmps8
  go_wp2_with fail
  refine (markHalfS_any _ _ _ _ _ _ _ _ (hx.below (boxed _ _)) h0 h1).mono ?_
  rintro e w1 ⟨rfl, ho, hw⟩
  go_wp2
  go_ret
  exact ⟨rfl, ho, (Within.of_below (boxed _ _)).trans hw⟩

theorem heldRegion_any (z : Int) (p : Option Addr) (n c : Nat) (hs : List Pr) (k0 : Int) (w : World) (hx : Prs w p n (upP k0 hs)) (hn : n ≤ 9223372036854775807) (h0 : 0 ≤ k0) (h1 : k0 + (totH hs : Nat) + n ≤ 9223372036854775806) :
    Calls Tryd.prog 9 #[.agg #[.int .i64 z, .slice p n c], .int .i64 k0] w (Ret (.int .i64 (k0 + (totH hs : Nat) + n)) w) := by
  go_enter Tryd.func9, Tryd.ntmps9
  go_wp2_with fail
  refine (heldHalfS_any _ _ _ _ _ _ (hx.alloc _) hn h0 h1).mono ?_
  rintro e w1 ⟨rfl, rfl⟩
  go_wp2
  go_ret
  exact ⟨rfl, boxed _ _⟩

end Go.Proofs.YteamihmolpaoeaaDoor
