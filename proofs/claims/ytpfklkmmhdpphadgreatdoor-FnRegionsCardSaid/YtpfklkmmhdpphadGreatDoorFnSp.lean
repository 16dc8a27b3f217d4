/- The law FnSplit: the walk: for every input it returns true and writes nothing that was there. Conditions: the library's variable. -/
import Derived.Test.YtpfklkmmhdpphadGreatDoorSplitB
import Derived.Test.YtpfklkmmhdpphadGreatDoorJnNum2
namespace Go.Proofs.YtpfklkmmhdpphadGreatDoor
open Go.RowKit
set_option linter.unusedVariables false
set_option linter.unusedSimpArgs false
set_option maxRecDepth 100000

theorem cellsNew (w : World) (vs : Array Value) (E : TypeId) (k : Nat) : (w.alloc (.cells vs E)).cell? ⟨w.heap.size, k, none⟩ = vs[k]? := by simp [World.cell?_alloc_new]
theorem big_any (p : Option Addr) (n c : Nat) (w : World) : Calls Tryz.prog 4 #[.slice p n c] w fun e w' => e = .returned (.bool (decide (1048576 < n))) ∧ w = w' := by
  go_enter Tryz.func4, Tryz.ntmps4
  go_wp2
  go_ret
  exact ⟨ret_bool (by simp; omega), rfl⟩

def spTexts : List (List UInt8) := [[], [97], [97, 44, 98], [44], [97, 44, 44, 98, 44], [97, 10, 98, 10]]
theorem split_join (c : UInt8) (l : List UInt8) : Lib.join (splitW c l) [c] = l := by
  have := splitA_join c l []
  simpa [Lib.join, splitW] using this
theorem split_once {c : UInt8} {l : List UInt8} {k : Nat} (h : k < (splitW c l).length) : splitW c (nthS (splitW c l) k) = [nthS (splitW c l) k] := by
  have hm : nthS (splitW c l) k ∈ splitW c l := by rw [nthS_eq h]; exact List.getElem_mem h
  have hf := splitA_free c l [] (by simp) _ hm
  have := splitA_one c (nthS (splitW c l) k) [] hf
  simpa [splitW] using this
theorem split_small {c : UInt8} {l : List UInt8} (h : l.length ≤ 5) : totS (splitW c l) ≤ 33554432 ∧ (splitW c l).length ≤ 6 ∧ ∀ k, k < (splitW c l).length → (nthS (splitW c l) k).length ≤ 5 := by
  have h1 := splitA_length c l []
  have h2 : (splitW c l).length ≤ 6 := by unfold splitW; omega
  have h3 : ∀ x ∈ splitW c l, x.length ≤ 5 := fun x hx => by
    have := splitA_sum c l [] x hx
    simp at this; omega
  have h4 : ∀ ss : List (List UInt8), (∀ x ∈ ss, x.length ≤ 5) → totS ss ≤ 5 * ss.length := by
    intro ss
    induction ss with
    | nil => intro _; simp [totS]
    | cons a r ih =>
      intro h
      have i1 := ih fun x hx => h x (List.mem_cons_of_mem _ hx)
      have i2 := h a (by simp)
      simp only [totS, List.map_cons, List.sum_cons, List.length_cons] at i1 ⊢
      omega
  have h5 := h4 _ h3
  exact ⟨by omega, h2, fun k hk => h3 _ (by rw [nthS_eq hk]; exact List.getElem_mem hk)⟩

end Go.Proofs.YtpfklkmmhdpphadGreatDoor
