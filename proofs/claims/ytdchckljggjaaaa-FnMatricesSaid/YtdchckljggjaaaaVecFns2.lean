/- Contracts of the reference's AddVectors, of both ScaleVector, DotOf, GcdOf. Conditions: sizes. -/
import Derived.Test.YtdchckljggjaaaaGcd
namespace Go.Proofs.Ytdchckljggjaaaa
open Go.RowKit
set_option linter.unusedVariables false
set_option linter.unusedSimpArgs false
set_option maxRecDepth 100000

theorem NewIB.empty {w w1 : World} (hb : Below w.heap.size w w1) : NewIB w ([], false) (.returned (.tuple #[.slice (some ⟨w1.heap.size, 0, none⟩) 0 0, .bool false])) (w1.alloc (.cells #[] 3)) :=
  ⟨_, _, _, rfl, ((Own.empty w1).up).widen hb.size (Nat.le_refl _), hb.alloc hb.size _⟩

theorem Own.into {w w1 : World} {p : Option Addr} {n c : Nat} {xs : List Int} (ho : Own w1 w.heap.size w1.heap.size p n c xs) (hb : Below w.heap.size w w1) : NewIB w (xs, true) (.returned (.tuple #[.slice p n c, .bool true])) w1 :=
  ⟨_, _, _, rfl, ho, hb⟩

def scaleV (xs : List Int) (u : Int) : List Int × Bool := if isVec xs = true ∧ inR u (-1000) 1000 = true then vecIf (scaleW xs u) else ([], false)

/-- A function that hands back one value and may have made memory. -/
def Ret (v : Value) (w : World) (e : Ending) (w' : World) : Prop := e = .returned v ∧ Below w.heap.size w w'
theorem Ret.same {v : Value} {w : World} : Ret v w (.returned v) w := ⟨rfl, Below.refl _ _⟩
theorem ret_of_same {P : Program} {f : FuncId} {a : Array Value} {w : World} {v : Value} (h : Calls P f a w fun e w' => e = .returned v ∧ w = w') : Calls P f a w (Ret v w) :=
  h.mono fun e w' ⟨he, hw⟩ => by subst he; subst hw; exact Ret.same
theorem ret_of_drew {P : Program} {f : FuncId} {a : Array Value} {w : World} {v : Value} (h : Calls P f a w fun e w' => e = .returned v ∧ ∃ z, w' = w.drewN z) : Calls P f a w (Ret v w) :=
  h.mono fun e w' ⟨he, z, hw⟩ => by subst he; subst hw; exact ⟨rfl, Below.drawn (Below.refl _ _) z⟩

def dotV (xs ys : List Int) : Int := if isVec xs = true ∧ isVec ys = true ∧ xs.length = ys.length then dotW xs ys else 0

theorem allR_nth {xs : List Int} {lo hi : Int} (h : allR xs lo hi = true) : ∀ k, k < xs.length → lo ≤ nth xs k ∧ nth xs k ≤ hi := by
  intro k hk
  simp only [allR, List.all_eq_true] at h
  rw [nth_eq hk]
  exact inR_true (h _ (List.getElem_mem hk))
theorem isVec_all {xs : List Int} (h : isVec xs = true) : ∀ k, k < xs.length → -1000 ≤ nth xs k ∧ nth xs k ≤ 1000 := by
  simp only [isVec, Bool.and_eq_true] at h
  exact allR_nth h.2
theorem isVec_len {xs : List Int} (h : isVec xs = true) : 1 ≤ xs.length ∧ xs.length ≤ 3 := by
  simp only [isVec, Bool.and_eq_true] at h
  have := inR_true h.1
  omega
theorem isVec_in62 {xs : List Int} (h : isVec xs = true) : ∀ k, k < xs.length → In62 (nth xs k) := fun k hk => by
  have := isVec_all h k hk
  unfold In62; omega

def gcdV (xs : List Int) : Int := if isVec xs = true then gcdL xs else -1

end Go.Proofs.Ytdchckljggjaaaa
