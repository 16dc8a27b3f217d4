/- Contracts of the functions on single numbers and on lists of numbers that only read. Conditions: lengths fit an int. -/
import Derived.Test.YtmbdegjombjbiaaRows
import Derived.Test.YtmbdegjombjbiaaBase
namespace Go.Proofs.Ytmbdegjombjbiaa
open Go.RowKit
set_option linter.unusedVariables false
set_option linter.unusedSimpArgs false

/-- low <= n <= high -/
def inR (n lo hi : Int) : Bool := decide (lo ≤ n) && decide (n ≤ hi)
def allR (xs : List Int) (lo hi : Int) : Bool := xs.all fun x => inR x lo hi
def isVec (xs : List Int) : Bool := inR xs.length 1 3 && allR xs (-1000) 1000

theorem inR_true {n lo hi : Int} (h : inR n lo hi = true) : lo ≤ n ∧ n ≤ hi := by simpa [inR] using h
theorem inR_false {n lo hi : Int} (h : inR n lo hi = false) : n < lo ∨ hi < n := by
  simp only [inR, Bool.and_eq_false_iff, decide_eq_false_iff_not] at h
  omega

theorem allR_step {xs : List Int} {k : Nat} {lo hi : Int} (h : k < xs.length) (ha : allR (xs.take k) lo hi = true) (hn : inR (nth xs k) lo hi = true) :
    allR (xs.take (k + 1)) lo hi = true := by
  rw [take_nth h]; simp_all [allR]
theorem allR_stop {xs : List Int} {k : Nat} {lo hi : Int} (h : k < xs.length) (hn : inR (nth xs k) lo hi = false) : allR xs lo hi = false := by
  rw [nth_eq h] at hn
  simp only [allR, List.all_eq_false]
  exact ⟨xs[k], List.getElem_mem h, by simp [hn]⟩

/-- What has been made new: a row that holds xs. -/
def NewInts (w : World) (n : Nat) (xs : List Int) (e : Ending) (w' : World) : Prop :=
  ∃ p c, e = .returned (.slice p n c) ∧ Own w' w.heap.size w'.heap.size p n c xs ∧ Below w.heap.size w w'

theorem Try.infoInt : (Try.prog.info? 3).map (fun i => (i.zero, i.size, i.bytes)) = some (some (.int .i64 0), 1, 8) := by kernel_rfl

theorem made_zeros (n : Nat) : (madeCells (Value.int .i64 0).cells (n * 1)).toList = (List.replicate n (0 : Int)).map (Value.int .i64) := by
  rw [show (Value.int .i64 0).cells = #[Value.int .i64 0] from rfl, toList_madeCells_one, Nat.mul_one, List.map_replicate]

end Go.Proofs.Ytmbdegjombjbiaa
