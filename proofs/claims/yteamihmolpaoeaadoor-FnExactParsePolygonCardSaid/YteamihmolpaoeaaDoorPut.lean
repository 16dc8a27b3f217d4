/- Words for sorted insertion: the head of a row of the call's own, append of rows; what l2Put gives. Conditions: sizes. -/
import Derived.Test.YteamihmolpaoeaaDoorSame
import Derived.Test.YteamihmolpaoeaaDoorOps2
import Derived.Test.YteamihmolpaoeaaDoorAnyU
namespace Go.Proofs.YteamihmolpaoeaaDoor
open Go.RowKit
set_option linter.unusedVariables false
set_option linter.unusedSimpArgs false
set_option maxRecDepth 100000

theorem OwnV.pre {w : World} {E : TypeId} {lo hi : Nat} {p : Option Addr} {n c : Nat} {vs : List Value} (h : OwnV w E 1 lo hi p n c vs) {k : Nat} (hk : k ≤ n) : OwnV w E 1 lo hi p k c (vs.take k) := by
  have hl := h.len
  refine ⟨⟨by rw [List.length_take]; omega, ?_⟩, h.top⟩
  rcases h.row.2 with ⟨h0, hn⟩ | ⟨g, cap, cur, hv, hl', hg, hc, hm, hs, ht⟩
  · injection h0 with a b c
    subst hn
    obtain rfl : k = 0 := by omega
    exact .inl ⟨by rw [a, c], rfl⟩
  · injection hv with a b c
    subst c
    refine .inr ⟨g, _, cur, by rw [a], hl', hg, by omega, hm, hs, ?_⟩
    rw [← ht, List.take_take]
    congr 1
    omega

/-- The slice (q, m) holds the headers ns. -/
def Rws (w : World) (q : Option Addr) (m : Nat) (ns : List Row) : Prop := ns.length = m ∧ ∀ j (h : j < ns.length), ∃ g off, q = some ⟨g, off, none⟩ ∧ w.cell? ⟨g, off + j, none⟩ = some (Row.val ns[j])
theorem OwnV.rws {w : World} {lo hi : Nat} {p : Option Addr} {n c : Nat} {rows : List Row} (h : OwnV w 39 1 lo hi p n c (rows.map Row.val)) : Rws w p n rows := by
  have hl : rows.length = n := by have := h.len; simpa using this
  refine ⟨hl, fun j hj => ?_⟩
  rcases h.form with ⟨_, h0, _⟩ | ⟨g, rfl, _⟩
  · omega
  · refine ⟨g, 0, rfl, ?_⟩
    have := h.cell (k := j) (by omega)
    rw [List.getElem?_map, List.getElem?_eq_getElem hj] at this
    rw [Nat.zero_add]; exact this
theorem Rws.drop {w : World} {g n : Nat} {ns : List Row} (h : Rws w (some ⟨g, 0, none⟩) n ns) (k : Nat) : Rws w (some ⟨g, k, none⟩) (n - k) (ns.drop k) := by
  obtain ⟨hl, hc⟩ := h
  refine ⟨by rw [List.length_drop, hl], fun j hj => ⟨g, k, rfl, ?_⟩⟩
  rw [List.length_drop] at hj
  obtain ⟨g', o', e, hc'⟩ := hc (k + j) (by omega)
  injection e with e; injection e with e1 e2
  subst e1; subst e2
  rw [List.getElem_drop, ← hc', Nat.zero_add]

/-- append(out, src...) where src holds the values ns. -/
theorem wp_append_rows {o : Oper} {a : Act} {K : Act → World → Prop} {Q : Exit → Act → World → Prop} (s x : Operand)
    (ho : o.op = .call { callee := .builtin .append, args := #[s, x], argTypes := #[30, 30] }) (W : World) (lo hi : Nat) (p : Option Addr) (n c : Nat) (vs : List Value)
    (hs : a.eval s = .slice p n c) (hown : OwnV W 39 1 lo hi p n c vs) (q : Option Addr) (m d : Nat) (ns : List Row) (hx : a.eval x = .slice q m d) (hr : Rws W q m ns)
    (hn : n + m ≤ 5864062010000) (hlo : lo ≤ W.heap.size)
    (h : ∀ p' c' W', OwnV W' 39 1 lo W'.heap.size p' (n + m) c' (vs ++ ns.map Row.val) → Grow W W' p p' → K (a.put o.dst (.slice p' (n + m) c')) W') :
    o.wp Tryd.prog a W K Q :=
  wp_appendV 39 30 1 24 (.slice none 0 0) Tryd.underlying30 Tryd.infoInts rfl (by decide) s x ho W lo hi p n c _ hs hown _ m d (ns.map Row.val) hx (by simp [hr.1])
    (fun h0 => by
      obtain ⟨g, off, hq, _⟩ := hr.2 0 (by rw [hr.1]; exact h0)
      refine ⟨_, hq, fun j v hv => ?_⟩
      rw [List.getElem?_map, Option.map_eq_some_iff] at hv
      obtain ⟨y, hy1, rfl⟩ := hv
      have hj : j < ns.length := (List.getElem?_eq_some_iff.1 hy1).1
      rw [List.getElem?_eq_getElem hj] at hy1
      injection hy1 with hy1
      subst hy1
      obtain ⟨g', off', hq', hc⟩ := hr.2 j hj
      rw [hq] at hq'
      injection hq' with hq'; injection hq' with e1 e2
      subst e1; subst e2
      rw [Addr.add_lit]; exact hc)
    (fun v hv => by
      obtain ⟨r, _, rfl⟩ := List.mem_map.1 hv
      rfl) (by omega) (by unfold maxLen; omega) hlo
    fun p' c' W' h2 h3 => h p' c' W' h2 h3

theorem append_rows {ops : Array Oper} {rest : List Oper} {o : Oper} {a : Act} {Q : Exit → Act → World → Prop} (hgd : o.guard = none) (s x : Operand)
    (ho : o.op = .call { callee := .builtin .append, args := #[s, x], argTypes := #[30, 30] }) (W : World) (lo hi : Nat) (p : Option Addr) (n c : Nat) (vs : List Value)
    (hs : a.eval s = .slice p n c) (hown : OwnV W 39 1 lo hi p n c vs) (q : Option Addr) (m d : Nat) (ns : List Row) (hx : a.eval x = .slice q m d) (hr : Rws W q m ns)
    (hn : n + m ≤ 5864062010000) (hlo : lo ≤ W.heap.size)
    (h : ∀ p' c' W', OwnV W' 39 1 lo W'.heap.size p' (n + m) c' (vs ++ ns.map Row.val) → Grow W W' p p' → wpList Tryd.prog ops Q rest (a.put o.dst (.slice p' (n + m) c')) W') :
    wpList Tryd.prog ops Q (o :: rest) a W :=
  wpList_plain hgd fun _ hK => wp_append_rows s x ho W lo hi p n c vs hs hown q m d ns hx hr hn hlo fun p' c' W' h2 h3 => hK _ _ (h p' c' W' h2 h3)

theorem step_append_rows {ops : Array Oper} {o : Oper} {a : Act} {K : Act → World → Prop} {E : Prop} {Q : Exit → Act → World → Prop} (hgd : o.guard = none) (s x : Operand)
    (ho : o.op = .call { callee := .builtin .append, args := #[s, x], argTypes := #[30, 30] }) (W : World) (lo hi : Nat) (p : Option Addr) (n c : Nat) (vs : List Value)
    (hs : a.eval s = .slice p n c) (hown : OwnV W 39 1 lo hi p n c vs) (q : Option Addr) (m d : Nat) (ns : List Row) (hx : a.eval x = .slice q m d) (hr : Rws W q m ns)
    (hn : n + m ≤ 5864062010000) (hlo : lo ≤ W.heap.size)
    (h : ∀ p' c' W', OwnV W' 39 1 lo W'.heap.size p' (n + m) c' (vs ++ ns.map Row.val) → Grow W W' p p' → K (a.put o.dst (.slice p' (n + m) c')) W') :
    if Region.wanted o (yielded ops a.tmps) = true then Oper.wp Tryd.prog o a W K Q else E := by
  have hw : Region.wanted o (yielded ops a.tmps) = true := by simp [Region.wanted, hgd]
  rw [if_pos hw]
  exact wp_append_rows s x ho W lo hi p n c vs hs hown q m d ns hx hr hn hlo h

theorem belowDrawn (lo : Nat) (w : World) (z : Nat) : Below lo w (w.drewN z) := ⟨(Below.refl lo w).os, (Below.refl lo w).tape, (Below.refl lo w).output, (Below.refl lo w).size, (Below.refl lo w).block⟩

/-- Where a list is put. -/
def putAt (xss : List (List Int)) (v : List Int) : Nat → Nat
  | 0 => 0
  | k + 1 => if befL v (nthR xss k) = true then putAt xss v k else k + 1
theorem putAt_le (xss : List (List Int)) (v : List Int) : ∀ n, putAt xss v n ≤ n
  | 0 => Nat.le_refl _
  | k + 1 => by
    rw [putAt]
    split
    · exact Nat.le_succ_of_le (putAt_le xss v k)
    · exact Nat.le_refl _
def putIn (xss : List (List Int)) (v : List Int) (k : Nat) : List (List Int) := xss.take k ++ [v] ++ xss.drop k
def putL (xss : List (List Int)) (v : List Int) : List (List Int) :=
  if 0 < putAt xss v xss.length ∧ nthR xss (putAt xss v xss.length - 1) = v then xss else putIn xss v (putAt xss v xss.length)

/-- A row put between two parts. -/
theorem Own2.put {w W' : World} {lo mid : Nat} {p p' : Option Addr} {n c c' : Nat} {rows : List Row} {xss : List (List Int)} (h : Own2 w lo mid p n c rows xss)
    {hi : Nat} {q : Option Addr} {m d : Nat} {ys : List Int} (hr : Own W' mid hi q m d ys) (hlm : lo ≤ mid) (hhi : hi ≤ W'.heap.size) (hm : mid ≤ W'.heap.size) (k : Nat) (hk : k ≤ n)
    (hin : ∀ j (h : j < rows.length), Own W' lo mid rows[j].1 rows[j].2.1 rows[j].2.2 (nthR xss j))
    (hv : OwnV W' 39 1 lo W'.heap.size p' (n + 1) c' ((rows.take k ++ [(q, m, d)] ++ rows.drop k).map Row.val)) :
    Own2 W' lo W'.heap.size p' (n + 1) c' (rows.take k ++ [(q, m, d)] ++ rows.drop k) (putIn xss ys k) := by
  have hc := h.count
  have hl := h.len
  have hq := hr.widen hlm hhi
  refine ⟨hv, by simp [putIn, hl], fun j hj => ?_, ?_⟩
  · have hjn : j < n + 1 := by simp at hj; omega
    have e : ∀ (x : List Int) (r : Row), (putIn xss ys k)[j]? = some x → (rows.take k ++ [(q, m, d)] ++ rows.drop k)[j]? = some r → Own W' lo W'.heap.size r.1 r.2.1 r.2.2 x → Own W' lo W'.heap.size ((rows.take k ++ [(q, m, d)] ++ rows.drop k)[j]).1 ((rows.take k ++ [(q, m, d)] ++ rows.drop k)[j]).2.1 ((rows.take k ++ [(q, m, d)] ++ rows.drop k)[j]).2.2 (nthR (putIn xss ys k) j) := fun x r h1 h2 h3 => by
      rw [List.getElem?_eq_getElem hj] at h2
      injection h2 with h2
      rw [h2, nthR, List.getD, h1]
      exact h3
    have ht1 : (xss.take k).length = k := by rw [List.length_take]; omega
    have ht2 : (rows.take k).length = k := by rw [List.length_take]; omega
    by_cases h1 : j < k
    · refine e (nthR xss j) rows[j] ?_ ?_ ((hin j (by omega)).widen (Nat.le_refl _) hm)
      · unfold putIn
        rw [List.append_assoc, List.getElem?_append_left (by omega), List.getElem?_take_of_lt h1, nthR_eq (by omega), List.getElem?_eq_getElem]
      · rw [List.append_assoc, List.getElem?_append_left (by omega), List.getElem?_take_of_lt h1, List.getElem?_eq_getElem]
    · by_cases h2 : j = k
      · subst h2
        refine e ys (q, m, d) ?_ ?_ hq
        · unfold putIn
          rw [List.append_assoc, List.getElem?_append_right (by omega), ht1, Nat.sub_self]; rfl
        · rw [List.append_assoc, List.getElem?_append_right (by omega), ht2, Nat.sub_self]; rfl
      · obtain ⟨i, rfl⟩ : ∃ i, j = k + 1 + i := ⟨j - k - 1, by omega⟩
        refine e (nthR xss (k + i)) (rows[k + i]'(by omega)) ?_ ?_ ((hin (k + i) (by omega)).widen (Nat.le_refl _) hm)
        · unfold putIn
          rw [List.getElem?_append_right (by simp [ht1]), List.getElem?_drop, nthR_eq (by omega), ← List.getElem?_eq_getElem]
          congr 1
          simp [ht1]
        · rw [List.getElem?_append_right (by simp [ht2]), List.getElem?_drop, ← List.getElem?_eq_getElem]
          congr 1
          simp [ht2]
  · have hnew : ∀ r ∈ rows, blk r.1 ≠ blk q ∨ r.1 = none := fun r hr1 => by
      obtain ⟨j, hj, rfl⟩ := List.getElem_of_mem hr1
      exact (hin j hj).apart hr (.inl (Nat.le_refl _))
    have hnew2 : ∀ r ∈ rows, blk q ≠ blk r.1 ∨ q = none := fun r hr1 => by
      obtain ⟨j, hj, rfl⟩ := List.getElem_of_mem hr1
      exact hr.apart (hin j hj) (.inr (Nat.le_refl _))
    have hap : (rows.take k ++ rows.drop k).Pairwise fun r s => blk r.1 ≠ blk s.1 ∨ r.1 = none := by rw [List.take_append_drop]; exact h.apart
    rw [List.pairwise_append] at hap
    rw [List.append_assoc, List.pairwise_append]
    refine ⟨hap.1, ?_, fun r hr1 s hs => ?_⟩
    · rw [List.singleton_append, List.pairwise_cons]
      exact ⟨fun r hr1 => hnew2 r (List.mem_of_mem_drop hr1), hap.2.1⟩
    · rw [List.singleton_append, List.mem_cons] at hs
      rcases hs with rfl | hs
      · exact hnew r (List.mem_of_mem_take hr1)
      · exact hap.2.2 r hr1 s hs

end Go.Proofs.YteamihmolpaoeaaDoor
