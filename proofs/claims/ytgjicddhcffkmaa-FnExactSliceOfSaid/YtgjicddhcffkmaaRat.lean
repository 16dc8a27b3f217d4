/- Contracts of both CompareRationals. Conditions: sizes. -/
import Derived.Test.YtgjicddhcffkmaaHalf
namespace Go.Proofs.Ytgjicddhcffkmaa
open Go.RowKit
set_option linter.unusedVariables false
set_option linter.unusedSimpArgs false

def ratOk (xs : List Int) (a : Int) : Bool := inR a 1 100000 && allR xs (-10000000) 10000000

theorem l6Fine_any (p : Option Addr) (n c : Nat) (xs : List Int) (a : Int) (w : World) (hn : n ≤ 9223372036854775807) (hx : Ints w p n xs) :
    Calls Try.prog 50 #[.agg #[.slice p n c, .int .i64 a]] w (Ret (.bool (ratOk xs a)) w) := by
  have hx1 := hx.alloc (.cells #[.slice p n c, .int .i64 a] 37)
  cases h1 : inR a 1 100000
  all_goals
    go_enter Try.func50, Try.ntmps50
    go_wp2_with (first | (go_at_call 55; (with_reducible refine (l1In_any _ _ _ _).mono ?_); rintro e w' ⟨rfl, rfl⟩) | (go_at_call 80; (with_reducible refine (l2Small_any _ _ _ _ _ _ hx1 hn (by decide) (by decide)).mono ?_); rintro e w' ⟨rfl, rfl⟩))
    go_ret
    exact ⟨ret_bool (by simp [ratOk, h1]), boxed _ _⟩
theorem rationalOk_any (p : Option Addr) (n c : Nat) (xs : List Int) (a : Int) (w : World) (hn : n ≤ 9223372036854775807) (hx : Ints w p n xs) :
    Calls Try.prog 53 #[.agg #[.slice p n c, .int .i64 a]] w (Ret (.bool (ratOk xs a)) w) := by
  have hx1 := hx.alloc (.cells #[.slice p n c, .int .i64 a] 37)
  cases h1 : inR a 1 100000
  all_goals
    go_enter Try.func53, Try.ntmps53
    go_wp2_with (first | (go_at_call 57; (with_reducible refine (within_any _ _ _ _).mono ?_); rintro e w' ⟨rfl, rfl⟩) | (go_at_call 82; (with_reducible refine (allWithin_any _ _ _ _ _ _ _ hx1 hn).mono ?_); rintro e w' ⟨rfl, rfl⟩))
    go_ret
    exact ⟨ret_bool (by simp [ratOk, h1]), boxed _ _⟩

/-- The order of two fractions: numerators times the other's denominator. -/
def fracCmp (xs : List Int) (a : Int) (ys : List Int) (b : Int) : Int := cmpL (scaleW xs b) (scaleW ys a)

theorem qs {P : Program} {f : FuncId} {a : Array Value} {w : World} {v : Value} (h : Calls P f a w fun e w' => e = .returned v ∧ w = w') : Calls P f a w fun e w' => e = .returned v ∧ ∃ z, w' = w.drewN z :=
  h.mono fun e w' ⟨he, hw⟩ => ⟨he, 0, hw.symm⟩

theorem box2c (w : World) (v0 v1 u0 u1 : Value) (T U : TypeId) :
    ((w.alloc (.cells #[v0, v1] T)).alloc (.cells #[u0, u1] U)).cell? ⟨w.heap.size, 0, none⟩ = some v0 ∧ ((w.alloc (.cells #[v0, v1] T)).alloc (.cells #[u0, u1] U)).cell? ⟨w.heap.size, 1, none⟩ = some v1 ∧
    ((w.alloc (.cells #[v0, v1] T)).alloc (.cells #[u0, u1] U)).cell? ⟨w.heap.size + 1, 0, none⟩ = some u0 ∧ ((w.alloc (.cells #[v0, v1] T)).alloc (.cells #[u0, u1] U)).cell? ⟨w.heap.size + 1, 1, none⟩ = some u1 := by
  refine ⟨?_, ?_, ?_, ?_⟩ <;> simp [go_sem]

end Go.Proofs.Ytgjicddhcffkmaa
