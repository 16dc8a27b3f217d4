/- The reference's draws of vectors, bent. Conditions: sizes. -/
import Derived.Test.YtpfklkmmhdpphadGreatDoorVecDraw
namespace Go.Proofs.YtpfklkmmhdpphadGreatDoor
open Go.RowKit
set_option linter.unusedVariables false
set_option linter.unusedSimpArgs false
set_option maxRecDepth 100000

theorem l2Draw_i (g : Nat) (p : Option Addr) (n c m : Nat) (xs : List Int) (mi size : Int) (w : World) (hmi : mi = (m : Int)) (hn : n ≤ 1048576) (hx : Cur w g p n c xs) (hm : m ≤ 1000) (hs1 : 0 ≤ size) (hs2 : size ≤ 100000) :
    Calls Tryz.prog 54 #[.pointer (some ⟨g, 0, none⟩), .int .i64 mi, .int .i64 size] w fun e w' => ∃ q d ys, e = .returned (.slice q m d) ∧ Own w' w.heap.size w'.heap.size q m d ys ∧ (∀ j, j < m → -size ≤ nth ys j ∧ nth ys j ≤ size) ∧ Drawn1 w g p n c xs w' := by
  rw [hmi]; exact l2Draw_any _ _ _ _ _ _ _ _ hn hx hm hs1 hs2

theorem Own.some_S {w : World} {lo hi : Nat} {p : Option Addr} {n c : Nat} {xs : List Int} (h : Own w lo hi p n c xs) (hn : 1 ≤ n) : ∃ g, p = some ⟨g, 0, none⟩ := by
  rcases h.row.2 with ⟨hv, h0⟩ | ⟨g, cap, cur, hv, _⟩
  · omega
  · injection hv with h1 h2 h3
    exact ⟨g, h1⟩

def bentL : List Int := [1000, 1001, -1000, -1001, -9223372036854775808, 9223372036854775807]
/-- A row that was drawn, of five numbers at most. -/
def BentRow (w : World) (g : Nat) (p : Option Addr) (n c : Nat) (xs : List Int) (e : Ending) (w' : World) : Prop :=
  ∃ q m d ys, e = .returned (.slice q m d) ∧ Own w' w.heap.size w'.heap.size q m d ys ∧ m ≤ 5 ∧ Drawn1 w g p n c xs w'

end Go.Proofs.YtpfklkmmhdpphadGreatDoor
