/- append of a row to a slice of slices of numbers of the call's own. Conditions: sizes. -/
import Derived.Test.YtpfklkmmhdpphacIsMat
namespace Go.Proofs.Ytpfklkmmhdpphac
open Go.RowKit
set_option linter.unusedVariables false
set_option linter.unusedSimpArgs false
set_option maxRecDepth 100000

theorem Grow.within {W W' : World} {p p' : Option Addr} (h : Grow W W' p p') {lo : Nat} (h2 : ∀ a, p = some a → lo ≤ a.block) : Within lo W.heap.size W W' :=
  ⟨h.by_.os, h.by_.tape, h.by_.output, h.by_.size, fun k hk hd => h.by_.block k hk fun e => by
    cases p with
    | none => cases e
    | some a =>
      simp only [blk, Option.map_some, Option.some.injEq] at e
      have := h2 a rfl
      omega⟩

theorem wp_append_row {o : Oper} {a : Act} {K : Act → World → Prop} {Q : Exit → Act → World → Prop} (s x : Operand)
    (ho : o.op = .call { callee := .builtin .append, args := #[s, x], argTypes := #[28, 28] }) (W : World) (lo hi : Nat) (p : Option Addr) (n c : Nat) (vs : List Value)
    (hs : a.eval s = .slice p n c) (hown : OwnV W 30 1 lo hi p n c vs) (g : Nat) (q : Option Addr) (m d : Nat) (hx : a.eval x = .slice (some ⟨g, 0, none⟩) 1 1) (hc : W.cell? ⟨g, 0, none⟩ = some (.slice q m d))
    (hn : n ≤ 5864062010000) (hlo : lo ≤ W.heap.size)
    (h : ∀ p' c' W', OwnV W' 30 1 lo W'.heap.size p' (n + 1) c' (vs ++ [.slice q m d]) → Grow W W' p p' → K (a.put o.dst (.slice p' (n + 1) c')) W') :
    o.wp Try.prog a W K Q :=
  wp_appendV 30 28 1 24 (.slice none 0 0) Try.underlying28 Try.infoInts rfl (by decide) s x ho W lo hi p n c _ hs hown _ 1 1 [.slice q m d] hx rfl
    (fun _ => ⟨_, rfl, fun j v hv => by match j, hv with | 0, hv => simp at hv; subst hv; simpa [Addr.add] using hc⟩) (fun v hv => by simp at hv; subst hv; rfl) (by omega) (by unfold maxLen; omega) hlo
    fun p' c' W' h2 h3 => h p' c' W' h2 h3

theorem append_row {ops : Array Oper} {rest : List Oper} {o : Oper} {a : Act} {Q : Exit → Act → World → Prop} (hgd : o.guard = none) (s x : Operand)
    (ho : o.op = .call { callee := .builtin .append, args := #[s, x], argTypes := #[28, 28] }) (W : World) (lo hi : Nat) (p : Option Addr) (n c : Nat) (vs : List Value)
    (hs : a.eval s = .slice p n c) (hown : OwnV W 30 1 lo hi p n c vs) (g : Nat) (q : Option Addr) (m d : Nat) (hx : a.eval x = .slice (some ⟨g, 0, none⟩) 1 1) (hc : W.cell? ⟨g, 0, none⟩ = some (.slice q m d))
    (hn : n ≤ 5864062010000) (hlo : lo ≤ W.heap.size)
    (h : ∀ p' c' W', OwnV W' 30 1 lo W'.heap.size p' (n + 1) c' (vs ++ [.slice q m d]) → Grow W W' p p' → wpList Try.prog ops Q rest (a.put o.dst (.slice p' (n + 1) c')) W') :
    wpList Try.prog ops Q (o :: rest) a W :=
  wpList_plain hgd fun _ hK => wp_append_row s x ho W lo hi p n c vs hs hown g q m d hx hc hn hlo fun p' c' W' h2 h3 => hK _ _ (h p' c' W' h2 h3)

theorem step_append_row {ops : Array Oper} {o : Oper} {a : Act} {K : Act → World → Prop} {E : Prop} {Q : Exit → Act → World → Prop} (hgd : o.guard = none) (s x : Operand)
    (ho : o.op = .call { callee := .builtin .append, args := #[s, x], argTypes := #[28, 28] }) (W : World) (lo hi : Nat) (p : Option Addr) (n c : Nat) (vs : List Value)
    (hs : a.eval s = .slice p n c) (hown : OwnV W 30 1 lo hi p n c vs) (g : Nat) (q : Option Addr) (m d : Nat) (hx : a.eval x = .slice (some ⟨g, 0, none⟩) 1 1) (hc : W.cell? ⟨g, 0, none⟩ = some (.slice q m d))
    (hn : n ≤ 5864062010000) (hlo : lo ≤ W.heap.size)
    (h : ∀ p' c' W', OwnV W' 30 1 lo W'.heap.size p' (n + 1) c' (vs ++ [.slice q m d]) → Grow W W' p p' → K (a.put o.dst (.slice p' (n + 1) c')) W') :
    if Region.wanted o (yielded ops a.tmps) = true then Oper.wp Try.prog o a W K Q else E := by
  have hw : Region.wanted o (yielded ops a.tmps) = true := by simp [Region.wanted, hgd]
  rw [if_pos hw]
  exact wp_append_row s x ho W lo hi p n c vs hs hown g q m d hx hc hn hlo h

/-- The empty slice of slices. -/
theorem Own2.empty (w : World) : Own2 (w.alloc (.cells #[] 30)) w.heap.size (w.heap.size + 1) (some ⟨w.heap.size, 0, none⟩) 0 0 [] [] :=
  ⟨⟨World.ownsRow_made w #[] 0 (Nat.le_refl _) (Nat.zero_le _) rfl, fun a ha => by injection ha with ha; subst ha; exact Nat.lt_succ_self _⟩, rfl, fun k h => absurd h (by simp), List.Pairwise.nil⟩
theorem Own2.nil (w : World) (lo hi : Nat) : Own2 w lo hi none 0 0 [] [] := ⟨OwnV.nil _ _ _ _ _, rfl, fun k h => absurd h (by simp), List.Pairwise.nil⟩

/-- What a slice of slices is behind the append of a new row. w: where the row is known; W: at the append; W': behind it. -/
theorem Own2.app {w W W' : World} {lo mid : Nat} {p p' : Option Addr} {n c c' : Nat} {rows : List Row} {xss : List (List Int)} (h : Own2 w lo mid p n c rows xss)
    {hi : Nat} {q : Option Addr} {m d : Nat} {ys : List Int} (hr : Own w mid hi q m d ys) (hlm : lo ≤ mid)
    (hb : Below w.heap.size w W) (hv : OwnV W' 30 1 lo W'.heap.size p' (n + 1) c' (rows.map Row.val ++ [.slice q m d])) (hg : Grow W W' p p') :
    Own2 W' lo W'.heap.size p' (n + 1) c' (rows ++ [(q, m, d)]) (xss ++ [ys]) := by
  have hc := h.count
  have hl := h.len
  have hT : 30 ≠ 3 := by decide
  have keep : ∀ {lo' hi' : Nat} {q' : Option Addr} {n' c' : Nat} {zs : List Int}, lo ≤ lo' → Own w lo' hi' q' n' c' zs → Own W' lo W'.heap.size q' n' c' zs := fun hlo hz =>
    ((hz.below hb).kept (q := p) hg.by_ ((h.outer.below hb).ne (hz.below hb).v hT)).up.widen hlo (Nat.le_refl _)
  refine ⟨by simpa [Row.val] using hv, by simp [hl], fun k hk => ?_, ?_⟩
  · by_cases hkl : k < rows.length
    · have e : nthR (xss ++ [ys]) k = nthR xss k := by
        rw [nthR_eq (by simp; omega), nthR_eq (by omega), List.getElem_append_left]
      rw [e]
      simp only [List.getElem_append_left hkl]
      exact keep (Nat.le_refl _) (h.inner k hkl)
    · simp only [List.length_append, List.length_cons, List.length_nil] at hk
      obtain rfl : k = rows.length := by omega
      have e : nthR (xss ++ [ys]) rows.length = ys := by
        rw [nthR_eq (by simp; omega), List.getElem_append_right (by omega)]
        simp [hl]
      rw [e]
      simp only [List.getElem_append_right (Nat.le_refl _), Nat.sub_self, List.getElem_cons_zero]
      exact keep hlm hr
  · rw [List.pairwise_append]
    refine ⟨h.apart, List.pairwise_singleton _ _, fun r hr1 s hs => ?_⟩
    simp only [List.mem_singleton] at hs
    subst hs
    obtain ⟨j, hj, rfl⟩ := List.getElem_of_mem hr1
    exact (h.inner j hj).apart hr (.inl (Nat.le_refl _))

theorem Own2.drew {w : World} {lo hi : Nat} {p : Option Addr} {n c : Nat} {rows : List Row} {xss : List (List Int)} (h : Own2 w lo hi p n c rows xss) : Own2 w.drew lo hi p n c rows xss :=
  ⟨h.outer.drew, h.len, fun k hk => (h.inner k hk).drew, h.apart⟩
theorem Own2.drewN {w : World} {lo hi : Nat} {p : Option Addr} {n c : Nat} {rows : List Row} {xss : List (List Int)} (h : Own2 w lo hi p n c rows xss) (z : Nat) : Own2 (w.drewN z) lo hi p n c rows xss :=
  ⟨⟨h.outer.row, h.outer.top⟩, h.len, fun k hk => (h.inner k hk).drewN z, h.apart⟩

end Go.Proofs.Ytpfklkmmhdpphac
