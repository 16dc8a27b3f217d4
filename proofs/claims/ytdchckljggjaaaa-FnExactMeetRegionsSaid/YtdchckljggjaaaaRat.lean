/- Contracts of both CompareRationals. Conditions: sizes. -/
import Derived.Test.YtdchckljggjaaaaHalf
namespace Go.Proofs.Ytdchckljggjaaaa
open Go.RowKit
set_option linter.unusedVariables false
set_option linter.unusedSimpArgs false
set_option maxRecDepth 100000

def ratOk (xs : List Int) (a : Int) : Bool := inR a 1 100000 && allR xs (-10000000) 10000000

/-- The order of two fractions: numerators times the other's denominator. -/
def fracCmp (xs : List Int) (a : Int) (ys : List Int) (b : Int) : Int := cmpL (scaleW xs b) (scaleW ys a)

theorem qs {P : Program} {f : FuncId} {a : Array Value} {w : World} {v : Value} (h : Calls P f a w fun e w' => e = .returned v ∧ w = w') : Calls P f a w fun e w' => e = .returned v ∧ ∃ z, w' = w.drewN z :=
  h.mono fun e w' ⟨he, hw⟩ => ⟨he, 0, hw.symm⟩

theorem box2c (w : World) (v0 v1 u0 u1 : Value) (T U : TypeId) :
    ((w.alloc (.cells #[v0, v1] T)).alloc (.cells #[u0, u1] U)).cell? ⟨w.heap.size, 0, none⟩ = some v0 ∧ ((w.alloc (.cells #[v0, v1] T)).alloc (.cells #[u0, u1] U)).cell? ⟨w.heap.size, 1, none⟩ = some v1 ∧
    ((w.alloc (.cells #[v0, v1] T)).alloc (.cells #[u0, u1] U)).cell? ⟨w.heap.size + 1, 0, none⟩ = some u0 ∧ ((w.alloc (.cells #[v0, v1] T)).alloc (.cells #[u0, u1] U)).cell? ⟨w.heap.size + 1, 1, none⟩ = some u1 := by
  refine ⟨?_, ?_, ?_, ?_⟩ <;> simp [go_sem]

end Go.Proofs.Ytdchckljggjaaaa
