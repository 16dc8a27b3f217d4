/- Contracts of impl.regionOf, spec.l4One and spec.l4Copy. Conditions: sizes. -/
import Derived.Test.YtpfklkmmhdpphacCopy
import Derived.Deep.DrawnRows
namespace Go.Proofs.Ytpfklkmmhdpphac
open Go.RowKit
set_option linter.unusedVariables false
set_option linter.unusedSimpArgs false
set_option maxRecDepth 100000

attribute [local go_sem ↓] Go.wp_at_zero Go.wp_at_succ

/-- What a call gives: a region of its own and a yes or no. -/
def NewRB (w : World) (r : (Int × List Pr) × Bool) (e : Ending) (w' : World) : Prop :=
  ∃ p n c, e = .returned (.tuple #[.agg #[.int .i64 r.1.1, .slice p n c], .bool r.2]) ∧ OwnPM 48 w' w.heap.size w'.heap.size p n c r.1.2 ∧ Below w.heap.size w w'
def regIf (z : Int) (hs : List Pr) : (Int × List Pr) × Bool := if isReg z hs = true then ((z, hs), true) else ((0, []), false)
theorem regIf_yes {z : Int} {hs : List Pr} (h : isReg z hs = true) : regIf z hs = ((z, hs), true) := by simp [regIf, h]
theorem regIf_no {z : Int} {hs : List Pr} (h : isReg z hs = false) : regIf z hs = ((0, []), false) := by simp [regIf, h]

theorem regionOf_any (lo hi : Nat) (z : Int) (p : Option Addr) (n c : Nat) (hs : List Pr) (w : World) (hn : n ≤ 9223372036854775807) (hx : OwnPM 48 w lo hi p n c hs) :
    Calls Try.prog 39 #[.agg #[.int .i64 z, .slice p n c]] w fun e w' => (∃ p n c, e = .returned (.tuple #[.agg #[.int .i64 (regIf z hs).1.1, .slice p n c], .bool (regIf z hs).2]) ∧ OwnPM 48 w' lo hi p n c (regIf z hs).1.2) ∧ Below w.heap.size w w' := by
  have kb : Box2 ((w.alloc (.cells #[.int .i64 z, .slice p n c] 26)).alloc (.cells #[.int .i64 0, .slice none 0 0] 26)) w.heap.size (.int .i64 z) (.slice p n c) 26 := (Box2.new w _ _ _).alloc _
  have kr : Box2 ((w.alloc (.cells #[.int .i64 z, .slice p n c] 26)).alloc (.cells #[.int .i64 0, .slice none 0 0] 26)) (w.heap.size + 1) (.int .i64 0) (.slice none 0 0) 26 := by
    have h := Box2.new (w.alloc (.cells #[.int .i64 z, .slice p n c] 26)) (.int .i64 0) (.slice none 0 0) 26
    rwa [World.size_alloc] at h
  have hT := boxed2 w (.cells #[.int .i64 z, .slice p n c] 26) (.cells #[.int .i64 0, .slice none 0 0] 26)
  cases h1 : isReg z hs
  · go_enter Try.func39, Try.ntmps39
    go_wp2_with fail
    refine (implIsRegion_any _ _ _ _ _ _ hn (hx.rd.below hT)).mono ?_
    rw [h1]
    rintro e w1 ⟨rfl, hb1⟩
    have kr1 := kr.below hb1
    have r0 := kr1.c0
    have r1 := kr1.c1
    have f0 := kr1.fr 0
    have f1 := kr1.fr 1
    have kf := (kr1.set0 (.int .i64 0)).set1 (.slice none 0 0)
    have kf0 := kf.c0
    have kf1 := kf.c1
    have hbb : Below w.heap.size w ((w1.setCell ⟨w.heap.size + 1, 0, none⟩ (.int .i64 0)).setCell ⟨w.heap.size + 1, 1, none⟩ (.slice none 0 0)) :=
      ((Below.step hT hb1).setCell (p := ⟨_, _, none⟩) (by dsimp only; omega) _).setCell (p := ⟨_, _, none⟩) (by dsimp only; omega) _
    go_wp2
    rw [regIf_no h1]
    refine bodyPost_ret (v := .tuple #[.agg #[.int .i64 0, .slice none 0 0], .bool false]) (by simp [results, Try.results39, go_sem, kf0, kf1]) rfl ?_
    exact ⟨⟨_, _, _, rfl, OwnPM.nil _ _ _ _⟩, hbb⟩
  · go_enter Try.func39, Try.ntmps39
    go_wp2_with fail
    refine (implIsRegion_any _ _ _ _ _ _ hn (hx.rd.below hT)).mono ?_
    rw [h1]
    rintro e w1 ⟨rfl, hb1⟩
    have kb1 := kb.below hb1
    have b0 := kb1.c0
    have b1 := kb1.c1
    have kr1 := kr.below hb1
    have r0 := kr1.c0
    have r1 := kr1.c1
    have f0 := kr1.fr 0
    have f1 := kr1.fr 1
    have kf := (kr1.set0 (.int .i64 z)).set1 (.slice p n c)
    have kf0 := kf.c0
    have kf1 := kf.c1
    have hbb : Below w.heap.size w ((w1.setCell ⟨w.heap.size + 1, 0, none⟩ (.int .i64 z)).setCell ⟨w.heap.size + 1, 1, none⟩ (.slice p n c)) :=
      ((Below.step hT hb1).setCell (p := ⟨_, _, none⟩) (by dsimp only; omega) _).setCell (p := ⟨_, _, none⟩) (by dsimp only; omega) _
    go_wp2
    rw [regIf_yes h1]
    refine bodyPost_ret (v := .tuple #[.agg #[.int .i64 z, .slice p n c], .bool true]) (by simp [results, Try.results39, go_sem, kf0, kf1]) rfl ?_
    exact ⟨⟨_, _, _, rfl, hx.below hbb⟩, hbb⟩

/-- A new half. -/
def NewHalf (w : World) (n : Nat) (xs : List Int) (b : Int) (e : Ending) (w' : World) : Prop :=
  ∃ p c, e = .returned (.agg #[.slice p n c, .int .i64 b]) ∧ Own w' w.heap.size w'.heap.size p n c xs ∧ Below w.heap.size w w'

end Go.Proofs.Ytpfklkmmhdpphac
