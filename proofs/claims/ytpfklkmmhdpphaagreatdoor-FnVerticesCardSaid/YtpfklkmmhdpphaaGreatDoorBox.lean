/- Words for a block of two cells (a struct that the call keeps in memory), and append of a pair. Conditions: sizes. -/
import Derived.Test.YtpfklkmmhdpphaaGreatDoorRegKit2
namespace Go.Proofs.YtpfklkmmhdpphaaGreatDoor
open Go.RowKit
set_option linter.unusedVariables false
set_option linter.unusedSimpArgs false
set_option maxRecDepth 100000

/-- Block b is the two cells v0, v1. -/
def Box2 (w : World) (b : Nat) (v0 v1 : Value) (T : TypeId) : Prop := w.heap[b]? = some (.cells #[v0, v1] T (0, 0))
section
variable {w w' : World} {b : Nat} {v0 v1 : Value} {T : TypeId}
theorem Box2.lt (h : Box2 w b v0 v1 T) : b < w.heap.size := (Array.getElem?_eq_some_iff.1 h).1
theorem Box2.c0 (h : Box2 w b v0 v1 T) : w.cell? ⟨b, 0, none⟩ = some v0 := by rw [cell_of_row w b 0 _ T (0, 0) h]; rfl
theorem Box2.c1 (h : Box2 w b v0 v1 T) : w.cell? ⟨b, 1, none⟩ = some v1 := by rw [cell_of_row w b 1 _ T (0, 0) h]; rfl
theorem Box2.fr (h : Box2 w b v0 v1 T) (k : Nat) : w.frozen? ⟨b, k, none⟩ = false := by unfold Box2 at h; simp [World.frozen?, h]
theorem Box2.new (w : World) (v0 v1 : Value) (T : TypeId) : Box2 (w.alloc (.cells #[v0, v1] T)) w.heap.size v0 v1 T := heap_alloc_new w _
theorem Box2.below (h : Box2 w b v0 v1 T) (hb : Below w.heap.size w w') : Box2 w' b v0 v1 T := (hb.block b h.lt).trans h
theorem Box2.within {lo hi : Nat} (h : Box2 w b v0 v1 T) (hw : Within lo hi w w') (hd : b < lo ∨ hi ≤ b) : Box2 w' b v0 v1 T := (hw.block b h.lt hd).trans h
theorem Box2.drew (h : Box2 w b v0 v1 T) : Box2 w.drew b v0 v1 T := h
theorem Box2.alloc (h : Box2 w b v0 v1 T) (o : Obj) : Box2 (w.alloc o) b v0 v1 T := h.below (boxed w o)
theorem Box2.grow (h : Box2 w b v0 v1 T) {p p' : Option Addr} (hg : Grow w w' p p') (hne : ∀ a, p = some a → a.block ≠ b) : Box2 w' b v0 v1 T := by
  refine (hg.by_.block b h.lt fun e => ?_).trans h
  cases p with
  | none => cases e
  | some a => simp only [blk, Option.map_some, Option.some.injEq] at e; exact hne a rfl e.symm
theorem Box2.other (h : Box2 w b v0 v1 T) {a : Addr} (u : Value) (hne : b ≠ a.block) : Box2 (w.setCell a u) b v0 v1 T := (Below.heap_setCell w a u b hne).trans h
theorem Box2.set1 (h : Box2 w b v0 v1 T) (u : Value) : Box2 (w.setCell ⟨b, 1, none⟩ u) b v0 u T := by
  have hlt := h.lt
  have h' : w.heap[b] = .cells #[v0, v1] T (0, 0) := by simpa [Box2, Array.getElem?_eq_getElem hlt] using h
  show (w.heap.modify b _)[b]? = _
  rw [Array.getElem?_eq_getElem (by simpa using hlt), Array.getElem_modify_self, h']
  rfl
theorem Box2.set0 (h : Box2 w b v0 v1 T) (u : Value) : Box2 (w.setCell ⟨b, 0, none⟩ u) b u v1 T := by
  have hlt := h.lt
  have h' : w.heap[b] = .cells #[v0, v1] T (0, 0) := by simpa [Box2, Array.getElem?_eq_getElem hlt] using h
  show (w.heap.modify b _)[b]? = _
  rw [Array.getElem?_eq_getElem (by simpa using hlt), Array.getElem_modify_self, h']
  rfl
end

theorem Within.cells2 {lo hi : Nat} {w w1 : World} (hw : Within lo hi w w1) {a : Addr} {v : Value} (h : w.cell? a = some v) (ha : a.block < lo ∨ hi ≤ a.block) : w1.cell? a = some v :=
  (World.cell?_of_block (hw.block a.block (World.block_lt_of_cell? w a h) ha)).trans h

/-- append(out, half): the walk has laid the pair in a block of its own. -/
theorem wp_append_half {o : Oper} {a : Act} {K : Act → World → Prop} {Q : Exit → Act → World → Prop} (s x : Operand)
    (ho : o.op = .call { callee := .builtin .append, args := #[s, x], argTypes := #[24, 24] }) (W : World) (lo hi : Nat) (p : Option Addr) (n c : Nat) (vs : List Value)
    (hs : a.eval s = .slice p n c) (hown : OwnV W 47 2 lo hi p n c vs) (g : Nat) (q : Option Addr) (m d : Nat) (b : Int) (hx : a.eval x = .slice (some ⟨g, 0, none⟩) 1 1) (hc : Box2 W g (.slice q m d) (.int .i64 b) 47)
    (hn : n ≤ 4398046510000) (hlo : lo ≤ W.heap.size)
    (h : ∀ p' c' W', OwnV W' 47 2 lo W'.heap.size p' (n + 1) c' (vs ++ [.slice q m d, .int .i64 b]) → Grow W W' p p' → K (a.put o.dst (.slice p' (n + 1) c')) W') :
    o.wp Tryz.prog a W K Q :=
  wp_appendV 47 24 2 32 (.agg #[.slice none 0 0, .int .i64 0]) Tryz.underlying24 Tryz.infoHalf rfl (by decide) s x ho W lo hi p n c _ hs hown _ 1 1 [.slice q m d, .int .i64 b] hx rfl
    (fun _ => ⟨_, rfl, fun j v hv => by
      match j, hv with
      | 0, hv => simp at hv; subst hv; simpa [Addr.add] using hc.c0
      | 1, hv => simp at hv; subst hv; simpa [Addr.add] using hc.c1⟩)
    (fun v hv => by simp at hv; rcases hv with rfl | rfl <;> rfl) (by omega) (by unfold maxLen; omega) hlo
    fun p' c' W' h2 h3 => h p' c' W' h2 h3

theorem append_half {ops : Array Oper} {rest : List Oper} {o : Oper} {a : Act} {Q : Exit → Act → World → Prop} (hgd : o.guard = none) (s x : Operand)
    (ho : o.op = .call { callee := .builtin .append, args := #[s, x], argTypes := #[24, 24] }) (W : World) (lo hi : Nat) (p : Option Addr) (n c : Nat) (vs : List Value)
    (hs : a.eval s = .slice p n c) (hown : OwnV W 47 2 lo hi p n c vs) (g : Nat) (q : Option Addr) (m d : Nat) (b : Int) (hx : a.eval x = .slice (some ⟨g, 0, none⟩) 1 1) (hc : Box2 W g (.slice q m d) (.int .i64 b) 47)
    (hn : n ≤ 4398046510000) (hlo : lo ≤ W.heap.size)
    (h : ∀ p' c' W', OwnV W' 47 2 lo W'.heap.size p' (n + 1) c' (vs ++ [.slice q m d, .int .i64 b]) → Grow W W' p p' → wpList Tryz.prog ops Q rest (a.put o.dst (.slice p' (n + 1) c')) W') :
    wpList Tryz.prog ops Q (o :: rest) a W :=
  wpList_plain hgd fun _ hK => wp_append_half s x ho W lo hi p n c vs hs hown g q m d b hx hc hn hlo fun p' c' W' h2 h3 => hK _ _ (h p' c' W' h2 h3)

theorem step_append_half {ops : Array Oper} {o : Oper} {a : Act} {K : Act → World → Prop} {E : Prop} {Q : Exit → Act → World → Prop} (hgd : o.guard = none) (s x : Operand)
    (ho : o.op = .call { callee := .builtin .append, args := #[s, x], argTypes := #[24, 24] }) (W : World) (lo hi : Nat) (p : Option Addr) (n c : Nat) (vs : List Value)
    (hs : a.eval s = .slice p n c) (hown : OwnV W 47 2 lo hi p n c vs) (g : Nat) (q : Option Addr) (m d : Nat) (b : Int) (hx : a.eval x = .slice (some ⟨g, 0, none⟩) 1 1) (hc : Box2 W g (.slice q m d) (.int .i64 b) 47)
    (hn : n ≤ 4398046510000) (hlo : lo ≤ W.heap.size)
    (h : ∀ p' c' W', OwnV W' 47 2 lo W'.heap.size p' (n + 1) c' (vs ++ [.slice q m d, .int .i64 b]) → Grow W W' p p' → K (a.put o.dst (.slice p' (n + 1) c')) W') :
    if Region.wanted o (yielded ops a.tmps) = true then Oper.wp Tryz.prog o a W K Q else E := by
  have hw : Region.wanted o (yielded ops a.tmps) = true := by simp [Region.wanted, hgd]
  rw [if_pos hw]
  exact wp_append_half s x ho W lo hi p n c vs hs hown g q m d b hx hc hn hlo h

end Go.Proofs.YtpfklkmmhdpphaaGreatDoor
