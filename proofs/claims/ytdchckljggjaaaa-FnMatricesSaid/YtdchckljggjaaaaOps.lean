/- What the builtins make and append do to rows of the call's own, as single steps of a walk. Conditions: sizes. -/
import Derived.Test.YtdchckljggjaaaaVec
import Derived.Maps.AppendAt
namespace Go.Proofs.Ytdchckljggjaaaa
open Go.RowKit
set_option linter.unusedVariables false
set_option linter.unusedSimpArgs false
set_option maxRecDepth 100000

def blk (p : Option Addr) : Option Nat := p.map (·.block)

/-- A row of the call's own, of any element type: cells vs, in a block from lo to hi - 1. -/
structure OwnV (w : World) (E : TypeId) (size : Nat) (lo hi : Nat) (p : Option Addr) (n c : Nat) (vs : List Value) : Prop where
  row : w.ownsRow lo E size (.slice p n c) n vs
  top : ∀ a, p = some a → a.block < hi

theorem Own.v {w : World} {lo hi : Nat} {p : Option Addr} {n c : Nat} {xs : List Int} (h : Own w lo hi p n c xs) : OwnV w 3 1 lo hi p n c (xs.map (.int .i64)) := ⟨h.row, h.top⟩
theorem OwnV.own {w : World} {lo hi : Nat} {p : Option Addr} {n c : Nat} {xs : List Int} (h : OwnV w 3 1 lo hi p n c (xs.map (.int .i64))) : Own w lo hi p n c xs := ⟨h.row, h.top⟩

/-- What an append (p before, p' behind) leaves: blocks other than p's own are as they were; p' is p's block or the next new one. -/
structure Grow (W W' : World) (p p' : Option Addr) : Prop where
  by_ : W.grownBy W' (blk p)
  at_ : blk p' = blk p ∨ blk p' = some W.heap.size

theorem Grow.below {W W' : World} {p p' : Option Addr} (h : Grow W W' p p') {lo : Nat} (h1 : lo ≤ W.heap.size) (h2 : ∀ a, p = some a → lo ≤ a.block) : Below lo W W' :=
  (Below.refl _ _).grown h.by_ h1 fun k hk => by
    cases p with
    | none => cases hk
    | some a => simp [blk] at hk; subst hk; exact h2 a rfl

section
variable {w : World} {E : TypeId} {size lo hi : Nat} {p : Option Addr} {n c : Nat} {vs : List Value}
theorem OwnV.lt (h : OwnV w E size lo hi p n c vs) : ∀ a, p = some a → lo ≤ a.block ∧ a.block < hi ∧ a.block < w.heap.size := by
  intro a ha
  have := h.row.lt a.block (by rw [ha]; rfl)
  exact ⟨this.1, h.top a ha, this.2⟩
theorem OwnV.alloc (h : OwnV w E size lo hi p n c vs) (o : Obj) : OwnV (w.alloc o) E size lo hi p n c vs := ⟨h.row.alloc o, h.top⟩
theorem OwnV.up (h : OwnV w E size lo hi p n c vs) : OwnV w E size lo w.heap.size p n c vs := ⟨h.row, fun a ha => (h.lt a ha).2.2⟩
theorem OwnV.nil (w : World) (E : TypeId) (size lo hi : Nat) : OwnV w E size lo hi none 0 0 [] := ⟨World.ownsRow_nil _ _ _ _, fun _ h => by cases h⟩
theorem OwnV.len (h : OwnV w E size lo hi p n c vs) : vs.length = n * size := h.row.1
end
theorem Own.alloc {w : World} {lo hi : Nat} {p : Option Addr} {n c : Nat} {xs : List Int} (h : Own w lo hi p n c xs) (o : Obj) : Own (w.alloc o) lo hi p n c xs := ⟨h.row.alloc o, h.top⟩
theorem Own.up {w : World} {lo hi : Nat} {p : Option Addr} {n c : Nat} {xs : List Int} (h : Own w lo hi p n c xs) : Own w lo w.heap.size p n c xs := ⟨h.row, fun a ha => (h.lt a ha).2.2⟩
theorem Own.nil (w : World) (lo hi : Nat) : Own w lo hi none 0 0 [] := ⟨World.ownsRow_nil _ _ _ _, fun _ h => by cases h⟩
theorem Own.drew {w : World} {lo hi : Nat} {p : Option Addr} {n c : Nat} {xs : List Int} (h : Own w lo hi p n c xs) : Own w.drew lo hi p n c xs := ⟨h.row, h.top⟩
theorem OwnV.drew {w : World} {E : TypeId} {size lo hi : Nat} {p : Option Addr} {n c : Nat} {vs : List Value} (h : OwnV w E size lo hi p n c vs) : OwnV w.drew E size lo hi p n c vs := ⟨h.row, h.top⟩
theorem cellNew (w : World) (u : Value) (E : TypeId) : (w.alloc (.cells #[u] E)).cell? ⟨w.heap.size, 0, none⟩ = some u := by simp [World.cell?_alloc_new]
theorem cellNewD (w : World) (u : Value) (E : TypeId) : (w.alloc (.cells #[u] E)).drew.cell? ⟨w.heap.size, 0, none⟩ = some u := cellNew w u E
theorem sizeNew {w wr : World} (h : Below w.heap.size w wr) (o : Obj) : w.heap.size ≤ (wr.alloc o).heap.size := by have := h.size; simp; omega
theorem sizeNewD {w wr : World} (h : Below w.heap.size w wr) (o : Obj) : w.heap.size ≤ (wr.alloc o).drew.heap.size := sizeNew h o
theorem Below.new {w wr w' : World} (h : Below w.heap.size w wr) (o : Obj) (k : Below w.heap.size (wr.alloc o) w') : Below w.heap.size w w' := (h.alloc h.size o).trans k
theorem Below.newD {w wr w' : World} (h : Below w.heap.size w wr) (o : Obj) (k : Below w.heap.size (wr.alloc o).drew w') : Below w.heap.size w w' := (h.alloc h.size o).drew.trans k
theorem Own.empty (w : World) : Own (w.alloc (.cells #[] 3)) w.heap.size (w.heap.size + 1) (some ⟨w.heap.size, 0, none⟩) 0 0 [] :=
  ⟨World.ownsRow_made w #[] 0 (Nat.le_refl _) (Nat.zero_le _) rfl, fun a ha => by injection ha with ha; subst ha; exact Nat.lt_succ_self _⟩
theorem Grow.belowO {W W' : World} {p p' : Option Addr} (h : Grow W W' p p') {lo hi n c : Nat} {xs : List Int} (ho : Own W lo hi p n c xs) (h1 : lo ≤ W.heap.size) : Below lo W W' :=
  h.below h1 fun a ha => (ho.lt a ha).1

theorem wp_appendV {P : Program} (E T : TypeId) (size bytes : Nat) (z : Value) (ht : P.underlying T = some (.slice E)) (hinfo : (P.info? E).map (fun i => (i.zero, i.size, i.bytes)) = some (some z, size, bytes))
    (hzs : z.cells.size = size) (hsz : 0 < size)
    {o : Oper} {a : Act} {K : Act → World → Prop} {Q : Exit → Act → World → Prop} (s x : Operand)
    (ho : o.op = .call { callee := .builtin .append, args := #[s, x], argTypes := #[T, T] }) (W : World) (lo hi : Nat) (p : Option Addr) (n c : Nat) (vs : List Value)
    (hs : a.eval s = .slice p n c) (hown : OwnV W E size lo hi p n c vs) (A : Option Addr) (m d : Nat) (news : List Value) (hx : a.eval x = .slice A m d)
    (hnl : news.length = m * size) (hr : 0 < m → ∃ ad, A = some ad ∧ ∀ j u, news[j]? = some u → W.cell? (ad.add j) = some u) (h1 : ∀ u ∈ news, u.oneCell' = true)
    (hb : (n + m) * bytes ≤ 140737488355328) (hmx : n + m ≤ maxLen) (hlo : lo ≤ W.heap.size)
    (h : ∀ p' c' W', OwnV W' E size lo W'.heap.size p' (n + m) c' (vs ++ news) → Grow W W' p p' → K (a.put o.dst (.slice p' (n + m) c')) W') :
    o.wp P a W K Q := by
  obtain ⟨i, hi, hz0, hz1, hz2⟩ := info_parts hinfo
  rcases A with _ | ad
  · have hm : m = 0 := by
      rcases Nat.eq_zero_or_pos m with h0 | h0
      · exact h0
      · obtain ⟨ad, h, _⟩ := hr h0
        cases h
    subst hm
    have hn : news = [] := List.eq_nil_of_length_eq_zero (by simpa using hnl)
    subst hn
    have hrun : (Builtin.append_ #[T, T] o.type #[.slice p n c, .slice none 0 d]).run P W = .ok (.slice p n c) W := by
      rcases hown.row.2 with ⟨hv, rfl⟩ | ⟨g, cap, cur, hv, _, _, hnc, _⟩
      · injection hv with a b c
        subst a; subst c
        simp [Builtin.append_, run_underlying ht, sizeOf, typeInfo, hi, Builtin.lenOf, Builtin.firstCells]
      · injection hv with a b c
        subst a; subst c
        simp [Builtin.append_, run_underlying ht, sizeOf, typeInfo, hi, Builtin.lenOf, Builtin.firstCells, hnc, storeCells]
    unfold Oper.wp execOp
    simp only [ho, resolve, invoke, builtin, Sem.run_bind, Sem.run_pure, Result.andThen_ok, List.map_toArray, List.map_cons, List.map_nil, hs, hx, hrun]
    exact (h p c W (by simpa using hown.up) ⟨World.grownBy.refl _ _, .inl rfl⟩)
  · have hcells : ∀ j u, news[j]? = some u → W.cell? (ad.add j) = some u := by
      intro j u hu
      rcases Nat.eq_zero_or_pos m with h0 | h0
      · subst h0
        have hn : news = [] := List.eq_nil_of_length_eq_zero (by simpa using hnl)
        subst hn
        simp at hu
      · obtain ⟨ad', h, hc⟩ := hr h0
        injection h with h
        subst h
        exact hc j u hu
    obtain ⟨v', w', hrun, h2, h3, _, h5⟩ := run_append_own_at (P := P) W lo T o.type E i z size bytes ht hi hz0 hz1 hz2 hzs hsz (.slice p n c) n vs hown.row ad m d news hnl hcells h1 hmx hb hlo
    unfold Oper.wp execOp
    simp only [ho, resolve, invoke, builtin, Sem.run_bind, Sem.run_pure, Result.andThen_ok, List.map_toArray, List.map_cons, List.map_nil, hs, hx, hrun]
    have hv : ∃ p' c', v' = .slice p' (n + m) c' := by
      rcases h2.2 with ⟨hv, hn⟩ | ⟨g, cap, cur, hv, _⟩
      · exact ⟨none, 0, by rw [hv, hn]⟩
      · exact ⟨_, _, hv⟩
    obtain ⟨p', c', rfl⟩ := hv
    have hob : ∀ (q : Option Addr) (n c : Nat), (Value.slice q n c).ownBlock = blk q := by intro q n c; cases q <;> rfl
    rw [hob, hob] at h5
    rw [hob] at h3
    have hO : OwnV w' E size lo w'.heap.size p' (n + m) c' (vs ++ news) := ⟨h2, fun a ha => (h2.lt a.block (by rw [ha]; rfl)).2⟩
    exact (h p' c' w' hO ⟨h3, h5⟩)

/-- append(out, u) of one number: the walk has laid u in a block of its own. -/
theorem wp_append_int {o : Oper} {a : Act} {K : Act → World → Prop} {Q : Exit → Act → World → Prop} (s x : Operand)
    (ho : o.op = .call { callee := .builtin .append, args := #[s, x], argTypes := #[40, 40] }) (W : World) (lo hi : Nat) (p : Option Addr) (n c : Nat) (xs : List Int)
    (hs : a.eval s = .slice p n c) (hown : Own W lo hi p n c xs) (g : Nat) (u : Int) (hx : a.eval x = .slice (some ⟨g, 0, none⟩) 1 1) (hc : W.cell? ⟨g, 0, none⟩ = some (.int .i64 u))
    (hn : n ≤ 17592186040000) (hlo : lo ≤ W.heap.size)
    (h : ∀ p' c' W', Own W' lo W'.heap.size p' (n + 1) c' (xs ++ [u]) → Grow W W' p p' → K (a.put o.dst (.slice p' (n + 1) c')) W') :
    o.wp Try.prog a W K Q :=
  wp_appendV 3 40 1 8 (.int .i64 0) Try.underlying40 Try.infoInt rfl (by decide) s x ho W lo hi p n c _ hs hown.v _ 1 1 [.int .i64 u] hx rfl
    (fun _ => ⟨_, rfl, fun j v hv => by match j, hv with | 0, hv => simp at hv; subst hv; simpa [Addr.add] using hc⟩) (fun v hv => by simp at hv; subst hv; rfl) (by omega) (by unfold maxLen; omega) hlo
    fun p' c' W' h2 h3 => h p' c' W' (OwnV.own (by simpa using h2)) h3

/-- append(out, u) of one number: the walk has laid u in a block of its own. -/
theorem append_int {ops : Array Oper} {rest : List Oper} {o : Oper} {a : Act} {Q : Exit → Act → World → Prop} (hgd : o.guard = none) (s x : Operand)
    (ho : o.op = .call { callee := .builtin .append, args := #[s, x], argTypes := #[40, 40] }) (W : World) (lo hi : Nat) (p : Option Addr) (n c : Nat) (xs : List Int)
    (hs : a.eval s = .slice p n c) (hown : Own W lo hi p n c xs) (g : Nat) (u : Int) (hx : a.eval x = .slice (some ⟨g, 0, none⟩) 1 1) (hc : W.cell? ⟨g, 0, none⟩ = some (.int .i64 u))
    (hn : n ≤ 17592186040000) (hlo : lo ≤ W.heap.size)
    (h : ∀ p' c' W', Own W' lo W'.heap.size p' (n + 1) c' (xs ++ [u]) → Grow W W' p p' → wpList Try.prog ops Q rest (a.put o.dst (.slice p' (n + 1) c')) W') :
    wpList Try.prog ops Q (o :: rest) a W :=
  wpList_plain hgd fun _ hK => wp_append_int s x ho W lo hi p n c xs hs hown g u hx hc hn hlo fun p' c' W' h2 h3 => hK _ _ (h p' c' W' h2 h3)

theorem step_append_int {ops : Array Oper} {o : Oper} {a : Act} {K : Act → World → Prop} {E : Prop} {Q : Exit → Act → World → Prop} (hgd : o.guard = none) (s x : Operand)
    (ho : o.op = .call { callee := .builtin .append, args := #[s, x], argTypes := #[40, 40] }) (W : World) (lo hi : Nat) (p : Option Addr) (n c : Nat) (xs : List Int)
    (hs : a.eval s = .slice p n c) (hown : Own W lo hi p n c xs) (g : Nat) (u : Int) (hx : a.eval x = .slice (some ⟨g, 0, none⟩) 1 1) (hc : W.cell? ⟨g, 0, none⟩ = some (.int .i64 u))
    (hn : n ≤ 17592186040000) (hlo : lo ≤ W.heap.size)
    (h : ∀ p' c' W', Own W' lo W'.heap.size p' (n + 1) c' (xs ++ [u]) → Grow W W' p p' → K (a.put o.dst (.slice p' (n + 1) c')) W') :
    if Region.wanted o (yielded ops a.tmps) = true then Oper.wp Try.prog o a W K Q else E := by
  have hw : Region.wanted o (yielded ops a.tmps) = true := by simp [Region.wanted, hgd]
  rw [if_pos hw]
  exact wp_append_int s x ho W lo hi p n c xs hs hown g u hx hc hn hlo h

/-- append(out, src...) where src reads as the numbers ys. -/
theorem wp_append_ints {o : Oper} {a : Act} {K : Act → World → Prop} {Q : Exit → Act → World → Prop} (s x : Operand)
    (ho : o.op = .call { callee := .builtin .append, args := #[s, x], argTypes := #[40, 40] }) (W : World) (lo hi : Nat) (p : Option Addr) (n c : Nat) (xs : List Int)
    (hs : a.eval s = .slice p n c) (hown : Own W lo hi p n c xs) (q : Option Addr) (m d : Nat) (ys : List Int) (hx : a.eval x = .slice q m d) (hy : Ints W q m ys)
    (hn : n + m ≤ 17592186040000) (hlo : lo ≤ W.heap.size)
    (h : ∀ p' c' W', Own W' lo W'.heap.size p' (n + m) c' (xs ++ ys) → Grow W W' p p' → K (a.put o.dst (.slice p' (n + m) c')) W') :
    o.wp Try.prog a W K Q :=
  wp_appendV 3 40 1 8 (.int .i64 0) Try.underlying40 Try.infoInt rfl (by decide) s x ho W lo hi p n c _ hs hown.v q m d (ys.map (.int .i64)) hx (by simp [hy.len])
    (fun hm => by
      obtain ⟨b, o, hq, _⟩ := hy.cell 0 hm
      refine ⟨_, hq, fun j v hv => ?_⟩
      rw [List.getElem?_map, Option.map_eq_some_iff] at hv
      obtain ⟨y, hy1, rfl⟩ := hv
      have hj : j < ys.length := (List.getElem?_eq_some_iff.1 hy1).1
      obtain ⟨b', o', hq', hc⟩ := hy.cell j (by rw [← hy.len]; exact hj)
      rw [hq] at hq'
      injection hq' with hq'
      injection hq' with e1 e2
      subst e1; subst e2
      rw [Addr.add_lit, hc, nth_eq hj]
      rw [List.getElem?_eq_getElem hj] at hy1
      injection hy1 with hy1
      rw [hy1])
    (ints_oneCell _ _) (by omega) (by unfold maxLen; omega) hlo
    fun p' c' W' h2 h3 => h p' c' W' (OwnV.own (by simpa using h2)) h3

/-- append(out, src...) where src reads as the numbers ys. -/
theorem append_ints {ops : Array Oper} {rest : List Oper} {o : Oper} {a : Act} {Q : Exit → Act → World → Prop} (hgd : o.guard = none) (s x : Operand)
    (ho : o.op = .call { callee := .builtin .append, args := #[s, x], argTypes := #[40, 40] }) (W : World) (lo hi : Nat) (p : Option Addr) (n c : Nat) (xs : List Int)
    (hs : a.eval s = .slice p n c) (hown : Own W lo hi p n c xs) (q : Option Addr) (m d : Nat) (ys : List Int) (hx : a.eval x = .slice q m d) (hy : Ints W q m ys)
    (hn : n + m ≤ 17592186040000) (hlo : lo ≤ W.heap.size)
    (h : ∀ p' c' W', Own W' lo W'.heap.size p' (n + m) c' (xs ++ ys) → Grow W W' p p' → wpList Try.prog ops Q rest (a.put o.dst (.slice p' (n + m) c')) W') :
    wpList Try.prog ops Q (o :: rest) a W :=
  wpList_plain hgd fun _ hK => wp_append_ints s x ho W lo hi p n c xs hs hown q m d ys hx hy hn hlo fun p' c' W' h2 h3 => hK _ _ (h p' c' W' h2 h3)

theorem step_append_ints {ops : Array Oper} {o : Oper} {a : Act} {K : Act → World → Prop} {E : Prop} {Q : Exit → Act → World → Prop} (hgd : o.guard = none) (s x : Operand)
    (ho : o.op = .call { callee := .builtin .append, args := #[s, x], argTypes := #[40, 40] }) (W : World) (lo hi : Nat) (p : Option Addr) (n c : Nat) (xs : List Int)
    (hs : a.eval s = .slice p n c) (hown : Own W lo hi p n c xs) (q : Option Addr) (m d : Nat) (ys : List Int) (hx : a.eval x = .slice q m d) (hy : Ints W q m ys)
    (hn : n + m ≤ 17592186040000) (hlo : lo ≤ W.heap.size)
    (h : ∀ p' c' W', Own W' lo W'.heap.size p' (n + m) c' (xs ++ ys) → Grow W W' p p' → K (a.put o.dst (.slice p' (n + m) c')) W') :
    if Region.wanted o (yielded ops a.tmps) = true then Oper.wp Try.prog o a W K Q else E := by
  have hw : Region.wanted o (yielded ops a.tmps) = true := by simp [Region.wanted, hgd]
  rw [if_pos hw]
  exact wp_append_ints s x ho W lo hi p n c xs hs hown q m d ys hx hy hn hlo h

end Go.Proofs.Ytdchckljggjaaaa
