/- The reference's draws: a cursor over bytes, numbers below a bound, one of a list. Conditions: sizes. -/
import Derived.Test.YteamihmolpaoeaaDoorLawKit
import Derived.Test.YteamihmolpaoeaaDoorMark2
import Derived.Test.YteamihmolpaoeaaDoorWrap
import Derived.Test.YteamihmolpaoeaaDoorStr
namespace Go.Proofs.YteamihmolpaoeaaDoor
open Go.RowKit
set_option linter.unusedVariables false
set_option linter.unusedSimpArgs false
set_option maxRecDepth 100000

/-- Block b is the three cells v0, v1, v2. -/
def Box3 (w : World) (b : Nat) (v0 v1 v2 : Value) (T : TypeId) : Prop := w.heap[b]? = some (.cells #[v0, v1, v2] T (0, 0))
section
variable {w w' : World} {b : Nat} {v0 v1 v2 : Value} {T : TypeId}
theorem Box3.lt (h : Box3 w b v0 v1 v2 T) : b < w.heap.size := (Array.getElem?_eq_some_iff.1 h).1
theorem Box3.c0 (h : Box3 w b v0 v1 v2 T) : w.cell? ⟨b, 0, none⟩ = some v0 := by rw [cell_of_row w b 0 _ T (0, 0) h]; rfl
theorem Box3.c1 (h : Box3 w b v0 v1 v2 T) : w.cell? ⟨b, 1, none⟩ = some v1 := by rw [cell_of_row w b 1 _ T (0, 0) h]; rfl
theorem Box3.c2 (h : Box3 w b v0 v1 v2 T) : w.cell? ⟨b, 2, none⟩ = some v2 := by rw [cell_of_row w b 2 _ T (0, 0) h]; rfl
theorem Box3.fr (h : Box3 w b v0 v1 v2 T) (k : Nat) : w.frozen? ⟨b, k, none⟩ = false := by unfold Box3 at h; simp [World.frozen?, h]
theorem Box3.new (w : World) (v0 v1 v2 : Value) (T : TypeId) : Box3 (w.alloc (.cells #[v0, v1, v2] T)) w.heap.size v0 v1 v2 T := heap_alloc_new w _
theorem Box3.below (h : Box3 w b v0 v1 v2 T) (hb : Below w.heap.size w w') : Box3 w' b v0 v1 v2 T := (hb.block b h.lt).trans h
theorem Box3.set1 (h : Box3 w b v0 v1 v2 T) (u : Value) : Box3 (w.setCell ⟨b, 1, none⟩ u) b v0 u v2 T := by
  have hlt := h.lt
  have h' : w.heap[b] = .cells #[v0, v1, v2] T (0, 0) := by simpa [Box3, Array.getElem?_eq_getElem hlt] using h
  show (w.heap.modify b _)[b]? = _
  rw [Array.getElem?_eq_getElem (by simpa using hlt), Array.getElem_modify_self, h']
  rfl
theorem Box3.set2 (h : Box3 w b v0 v1 v2 T) (u : Value) : Box3 (w.setCell ⟨b, 2, none⟩ u) b v0 v1 u T := by
  have hlt := h.lt
  have h' : w.heap[b] = .cells #[v0, v1, v2] T (0, 0) := by simpa [Box3, Array.getElem?_eq_getElem hlt] using h
  show (w.heap.modify b _)[b]? = _
  rw [Array.getElem?_eq_getElem (by simpa using hlt), Array.getElem_modify_self, h']
  rfl
end

/-- The slice (p, n) reads as bytes. -/
structure BytesZ (w : World) (p : Option Addr) (n : Nat) (xs : List Int) : Prop where
  len : xs.length = n
  cell : ∀ k, k < n → ∃ b o, p = some ⟨b, o, none⟩ ∧ w.cell? ⟨b, o + k, none⟩ = some (.int .u8 (nth xs k)) ∧ 0 ≤ nth xs k ∧ nth xs k ≤ 255
theorem BytesZ.below {w w' : World} {p : Option Addr} {n : Nat} {xs : List Int} (h : BytesZ w p n xs) (hb : Below w.heap.size w w') : BytesZ w' p n xs :=
  ⟨h.len, fun k hk => by
    obtain ⟨b, o, hp, hc, h0, h1⟩ := h.cell k hk
    exact ⟨b, o, hp, (hb.cell (World.block_lt_of_cell? w _ hc)).trans hc, h0, h1⟩⟩

theorem BytesZ.within {w w' : World} {p : Option Addr} {n g : Nat} {xs : List Int} (h : BytesZ w p n xs) (hw : Within g (g + 1) w w') (hf : ∀ a, p = some a → 0 < n → a.block < g) : BytesZ w' p n xs :=
  ⟨h.len, fun k hk => by
    obtain ⟨b, o, hp, hc, h0, h1⟩ := h.cell k hk
    have := hf _ hp (by omega)
    refine ⟨b, o, hp, ?_, h0, h1⟩
    exact (World.cell?_of_block (hw.block b (World.block_lt_of_cell? w _ hc) (.inl this))).trans hc⟩

/-- A mask keeps a number within it. -/
theorem and_mask (x : Int) (m : Nat) (hm : m < 9223372036854775808) : 0 ≤ bits .and .i64 x m ∧ bits .and .i64 x m ≤ m := by
  have h1 : (BitVec.ofInt 64 (m : Int)).toNat = m := by
    rw [BitVec.ofInt_natCast, BitVec.toNat_ofNat]; exact Nat.mod_eq_of_lt (by omega)
  have h2 : ((BitVec.ofInt 64 x) &&& (BitVec.ofInt 64 (m : Int))).toNat ≤ m := by
    rw [BitVec.toNat_and, h1]; exact Nat.and_le_right
  have h3 : bits .and .i64 x m = wrap64 (((BitVec.ofInt 64 x) &&& (BitVec.ofInt 64 (m : Int))).toNat : Int) := by rw [← wrapEq]; rfl
  rw [h3, wrap64_id (by omega) (by omega)]
  omega

end Go.Proofs.YteamihmolpaoeaaDoor
