/- Contracts of the laws' helpers on a struct of a slice of numbers and a number (a half, a rational). Conditions: sizes. -/
import Derived.Test.YtbdndkombedfnaaIsMat
namespace Go.Proofs.Ytbdndkombedfnaa
open Go.RowKit
set_option linter.unusedVariables false
set_option linter.unusedSimpArgs false
set_option maxRecDepth 100000

theorem Below.cells {w w1 : World} (hb : Below w.heap.size w w1) {a : Addr} {v : Value} (h : w.cell? a = some v) : w1.cell? a = some v :=
  (hb.cell (World.block_lt_of_cell? w a h)).trans h


theorem szIntS_left (p : Option Addr) (n c : Nat) (left : Int) (w : World) (hn : n ≤ 9223372036854775807) (hl : -1 ≤ left) (hl2 : left ≤ 9223372036854775807) :
    Calls Try.prog 53 #[.slice p n c, .int .i64 left] w fun e w' => e = .returned (.int .i64 (leftOf n left)) ∧ w = w' := szIntS_any p n c left w hn hl hl2
/-- A new struct of a slice of numbers and a number. -/
def NewP (w : World) (n : Nat) (xs : List Int) (b : Int) (e : Ending) (w' : World) : Prop :=
  ∃ p c, e = .returned (.agg #[.slice p n c, .int .i64 b]) ∧ Own w' w.heap.size w'.heap.size p n c xs ∧ Below w.heap.size w w'

theorem toHalf_any (p : Option Addr) (n c : Nat) (xs : List Int) (b : Int) (w : World) (hx : Ints w p n xs) (hm : n ≤ 35184372088832) :
    Calls Try.prog 42 #[.agg #[.slice p n c, .int .i64 b]] w (NewP w n xs b) := by
  go_enter Try.func42, Try.ntmps42
  go_wp2_with fail
  refine (toIntS_any _ _ _ _ _ (((hx.alloc _).alloc _).alloc _) hm).mono ?_
  rintro e w1 ⟨q, d, rfl, ho, hb⟩
  obtain ⟨hc, hf⟩ := bcell hb
  have hz : w.heap.size + 2 < w1.heap.size := by have := hb.size; simp at this; omega
  have hbb : Below w.heap.size w w1 := Below.step (boxed3 w _ _ _) hb
  have ho' := ho
  simp only [World.size_alloc] at ho'
  go_wp2
  refine bodyPost_ret (v := .agg #[.slice q n d, .int .i64 b]) (by simp [results, Try.results42, go_sem, hc, hz]) rfl ?_
  refine ⟨_, _, rfl, ?_, ?_⟩
  · exact ((((ho'.setBelow (a := ⟨_, _, none⟩) (by dsimp only; omega) _).setBelow (a := ⟨_, _, none⟩) (by dsimp only; omega) _).setBelow (a := ⟨_, _, none⟩) (by dsimp only; omega) _).setBelow (a := ⟨_, _, none⟩) (by dsimp only; omega) _).up.widen (by omega) (Nat.le_refl _)
  · exact (((hbb.setCell (p := ⟨_, _, none⟩) (by dsimp only; omega) _).setCell (p := ⟨_, _, none⟩) (by dsimp only; omega) _).setCell (p := ⟨_, _, none⟩) (by dsimp only; omega) _).setCell (p := ⟨_, _, none⟩) (by dsimp only; omega) _

theorem szHalf_any (p : Option Addr) (n c : Nat) (b : Int) (left : Int) (w : World) (hn : n ≤ 9223372036854775807) (h0 : 0 ≤ left) (h1 : left ≤ 9223372036854775807) :
    Calls Try.prog 36 #[.agg #[.slice p n c, .int .i64 b], .int .i64 left] w (Ret (.int .i64 (leftOf n left)) w) := by
  by_cases h : (n : Int) ≤ left
  · rw [leftOf_yes h]
    go_enter Try.func36, Try.ntmps36
    go_wp2_with fail
    refine (szIntS_left _ _ _ _ _ hn (by omega) h1).mono ?_
    rw [leftOf_yes h]
    rintro e w' ⟨rfl, rfl⟩
    go_wp2
    go_ret
    exact ⟨rfl, boxed _ _⟩
  · rw [leftOf_no (by omega)]
    go_enter Try.func36, Try.ntmps36
    go_wp2_with fail
    refine (szIntS_left _ _ _ _ _ hn (by omega) h1).mono ?_
    rw [leftOf_no (by omega)]
    rintro e w' ⟨rfl, rfl⟩
    go_wp2
    go_ret
    exact ⟨rfl, boxed _ _⟩

theorem eqHalf_self (p q : Option Addr) (n c m d : Nat) (xs : List Int) (b : Int) (w : World) (hx : Ints w p n xs) (hy : Ints w q m xs) (hn : n ≤ 9223372036854775807) (hm : m ≤ 9223372036854775807) :
    Calls Try.prog 52 #[.agg #[.slice p n c, .int .i64 b], .agg #[.slice q m d, .int .i64 b]] w (Ret (.bool true) w) := by
  go_enter Try.func52, Try.ntmps52
  go_wp2_with fail
  refine (eqIntS_self _ _ _ _ _ _ _ _ ((hx.alloc _).alloc _) ((hy.alloc _).alloc _) hn hm).mono ?_
  rintro e w1 ⟨rfl, hb⟩
  obtain ⟨hc, hf⟩ := bcell hb
  have hbb : Below w.heap.size w w1 := Below.step (boxed2 w _ _) hb
  go_wp2
  go_ret
  exact ⟨rfl, hbb⟩

theorem eqRational_self (p q : Option Addr) (n c m d : Nat) (xs : List Int) (b : Int) (w : World) (hx : Ints w p n xs) (hy : Ints w q m xs) (hn : n ≤ 9223372036854775807) (hm : m ≤ 9223372036854775807) :
    Calls Try.prog 31 #[.agg #[.slice p n c, .int .i64 b], .agg #[.slice q m d, .int .i64 b]] w (Ret (.bool true) w) := by
  go_enter Try.func31, Try.ntmps31
  go_wp2_with fail
  refine (eqIntS_self _ _ _ _ _ _ _ _ ((hx.alloc _).alloc _) ((hy.alloc _).alloc _) hn hm).mono ?_
  rintro e w1 ⟨rfl, hb⟩
  obtain ⟨hc, hf⟩ := bcell hb
  have hbb : Below w.heap.size w w1 := Below.step (boxed2 w _ _) hb
  go_wp2
  go_ret
  exact ⟨rfl, hbb⟩

end Go.Proofs.Ytbdndkombedfnaa
