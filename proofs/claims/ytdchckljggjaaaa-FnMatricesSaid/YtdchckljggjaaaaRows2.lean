/- Words for slices of slices of numbers: read, or of the call's own. Conditions: none. -/
import Derived.Test.YtdchckljggjaaaaLawKit
namespace Go.Proofs.Ytdchckljggjaaaa
open Go.RowKit
set_option linter.unusedVariables false
set_option linter.unusedSimpArgs false
set_option maxRecDepth 100000

theorem Ints.alloc {w : World} {p : Option Addr} {n : Nat} {xs : List Int} (h : Ints w p n xs) (o : Obj) : Ints (w.alloc o) p n xs :=
  h.below ((Below.refl _ _).alloc (Nat.le_refl _) _)
theorem Ints.drew {w : World} {p : Option Addr} {n : Nat} {xs : List Int} (h : Ints w p n xs) : Ints w.drew p n xs := ⟨h.len, h.cell⟩
theorem Own.setBelow {w : World} {lo hi : Nat} {p : Option Addr} {n c : Nat} {xs : List Int} (h : Own w lo hi p n c xs) {a : Addr} (ha : a.block < lo) (u : Value) : Own (w.setCell a u) lo hi p n c xs :=
  ⟨ownsRow_setCell_below h.row ha u, h.top⟩
theorem bcell {W w1 : World} (hb : Below W.heap.size W w1) : (∀ b o, b < W.heap.size → w1.cell? ⟨b, o, none⟩ = W.cell? ⟨b, o, none⟩) ∧ (∀ b o, b < W.heap.size → w1.frozen? ⟨b, o, none⟩ = W.frozen? ⟨b, o, none⟩) :=
  ⟨fun b o h => hb.cell (p := ⟨b, o, none⟩) h, fun b o h => hb.frozen (p := ⟨b, o, none⟩) h⟩
theorem boxed (w : World) (o : Obj) : Below w.heap.size w (w.alloc o) := (Below.refl _ _).alloc (Nat.le_refl _) _

theorem boxed2 (w : World) (o o' : Obj) : Below w.heap.size w ((w.alloc o).alloc o') := (boxed w o).alloc (boxed w o).size _
theorem boxed3 (w : World) (o o' o'' : Obj) : Below w.heap.size w (((w.alloc o).alloc o').alloc o'') := (boxed2 w o o').alloc (boxed2 w o o').size _

def nthR (xss : List (List Int)) (k : Nat) : List Int := xss.getD k []
theorem nthR_eq {xss : List (List Int)} {k : Nat} (h : k < xss.length) : nthR xss k = xss[k] := by simp [nthR, List.getD, h]
theorem take_nthR {xss : List (List Int)} {k : Nat} (h : k < xss.length) : xss.take (k + 1) = xss.take k ++ [nthR xss k] := by
  rw [nthR_eq h]; exact List.take_succ_eq_append_getElem h
theorem nthR_mem {xss : List (List Int)} {k : Nat} (h : k < xss.length) : nthR xss k ∈ xss := by rw [nthR_eq h]; exact List.getElem_mem h

/-- The slice (p, n) reads as the rows xss. -/
structure Intss (w : World) (p : Option Addr) (n : Nat) (xss : List (List Int)) : Prop where
  len : xss.length = n
  cellc : ∀ k, k < n → ∃ b o q m d, p = some ⟨b, o, none⟩ ∧ w.cell? ⟨b, o + k, none⟩ = some (.slice q m d) ∧ m ≤ d ∧ d ≤ 9223372036854775807 ∧ Ints w q m (nthR xss k)
theorem Intss.cell {w : World} {p : Option Addr} {n : Nat} {xss : List (List Int)} (h : Intss w p n xss) : ∀ k, k < n → ∃ b o q m d, p = some ⟨b, o, none⟩ ∧ w.cell? ⟨b, o + k, none⟩ = some (.slice q m d) ∧ m ≤ 9223372036854775807 ∧ Ints w q m (nthR xss k) := fun k hk => by
  obtain ⟨b, o, q, m, d, hp, hc, hmd, hd, hi⟩ := h.cellc k hk
  exact ⟨b, o, q, m, d, hp, hc, by omega, hi⟩

theorem Intss.below {w w' : World} {p : Option Addr} {n : Nat} {xss : List (List Int)} (h : Intss w p n xss) (hb : Below w.heap.size w w') : Intss w' p n xss :=
  ⟨h.len, fun k hk => by
    obtain ⟨b, o, q, m, d, hp, hc, hm, hd, hi⟩ := h.cellc k hk
    exact ⟨b, o, q, m, d, hp, (hb.cell (World.block_lt_of_cell? w _ hc)).trans hc, hm, hd, hi.below hb⟩⟩
theorem Intss.drewN {w : World} {p : Option Addr} {n : Nat} {xss : List (List Int)} (h : Intss w p n xss) (z : Nat) : Intss (w.drewN z) p n xss :=
  ⟨h.len, fun k hk => by
    obtain ⟨b, o, q, m, d, hp, hc, hm, hd, hi⟩ := h.cellc k hk
    exact ⟨b, o, q, m, d, hp, hc, hm, hd, hi.drewN z⟩⟩
theorem Intss.nil (w : World) (p : Option Addr) : Intss w p 0 [] := ⟨rfl, fun _ h => absurd h (by omega)⟩

abbrev Row := Option Addr × Nat × Nat
def Row.val (r : Row) : Value := .slice r.1 r.2.1 r.2.2

/-- The rows of a slice of slices of the call's own: each a row of its own, no two in one block. -/
structure Own2 (w : World) (lo hi : Nat) (p : Option Addr) (n c : Nat) (rows : List Row) (xss : List (List Int)) : Prop where
  outer : OwnV w 40 1 lo hi p n c (rows.map Row.val)
  len : rows.length = xss.length
  inner : ∀ k (h : k < rows.length), Own w lo hi rows[k].1 rows[k].2.1 rows[k].2.2 (nthR xss k)
  apart : rows.Pairwise fun r s => blk r.1 ≠ blk s.1 ∨ r.1 = none
/-- A slice of slices of numbers of the call's own. -/
def OwnM (w : World) (lo hi : Nat) (p : Option Addr) (n c : Nat) (xss : List (List Int)) : Prop := ∃ rows, Own2 w lo hi p n c rows xss

theorem Own2.count {w : World} {lo hi : Nat} {p : Option Addr} {n c : Nat} {rows : List Row} {xss : List (List Int)} (h : Own2 w lo hi p n c rows xss) : rows.length = n := by
  have := h.outer.len; simpa using this

theorem OwnV.form {w : World} {E : TypeId} {size lo hi : Nat} {p : Option Addr} {n c : Nat} {vs : List Value} (h : OwnV w E size lo hi p n c vs) :
    (p = none ∧ n = 0 ∧ c = 0) ∨ ∃ g, p = some ⟨g, 0, none⟩ ∧ lo ≤ g ∧ g < hi ∧ g < w.heap.size ∧ n ≤ c ∧ c ≤ maxLen := by
  rcases h.row.2 with ⟨h0, hn⟩ | ⟨g', cap, cur, hv, hl, hg, hc, hm, _⟩
  · injection h0 with a b c
    exact .inl ⟨a, b, c⟩
  · injection hv with a b c
    subst c
    exact .inr ⟨g', a, hl, h.top _ a, (Array.getElem?_eq_some_iff.1 hg).1, hc, hm⟩
theorem OwnV.cell {w : World} {E : TypeId} {lo hi g size : Nat} {n c : Nat} {vs : List Value} (h : OwnV w E size lo hi (some ⟨g, 0, none⟩) n c vs) {k : Nat} (hk : k < n * size) : w.cell? ⟨g, k, none⟩ = vs[k]? :=
  h.row.cellAt k hk
theorem OwnV.frozen {w : World} {E : TypeId} {lo hi g size : Nat} {n c : Nat} {vs : List Value} (h : OwnV w E size lo hi (some ⟨g, 0, none⟩) n c vs) (k : Nat) : w.frozen? ⟨g, k, none⟩ = false := h.row.frozenAt k
theorem OwnV.elem {w : World} {E : TypeId} {lo hi g size : Nat} {n c : Nat} {vs : List Value} (h : OwnV w E size lo hi (some ⟨g, 0, none⟩) n c vs) : ∃ cur, w.heap[g]? = some (.cells cur E (0, 0)) := by
  rcases h.row.2 with ⟨h0, _⟩ | ⟨g', cap, cur, hv, _, hg, _⟩
  · cases h0
  · injection hv with a
    injection a with a
    injection a with a
    subst a
    exact ⟨cur, hg⟩

/-- Rows of different element types lie in different blocks. -/
theorem OwnV.ne {w : World} {E E' : TypeId} {lo hi lo' hi' size size' : Nat} {p p' : Option Addr} {n c n' c' : Nat} {vs vs' : List Value} (h : OwnV w E size lo hi p n c vs) (h' : OwnV w E' size' lo' hi' p' n' c' vs') (hE : E ≠ E') :
    blk p ≠ blk p' ∨ p' = none := by
  rcases h'.form with ⟨rfl, _⟩ | ⟨g', rfl, _⟩
  · exact .inr rfl
  · rcases h.form with ⟨rfl, _⟩ | ⟨g, rfl, _⟩
    · exact .inl (by simp [blk])
    · refine .inl fun e => hE ?_
      obtain ⟨cur, e1⟩ := h.elem
      obtain ⟨cur', e2⟩ := h'.elem
      simp only [blk, Option.map_some, Option.some.injEq] at e
      subst e
      rw [e1] at e2
      injection e2 with e2
      injection e2

theorem OwnV.small {w : World} {E : TypeId} {size lo hi : Nat} {p : Option Addr} {n c : Nat} {vs : List Value} (h : OwnV w E size lo hi p n c vs) : n ≤ 9223372036854775807 := by
  rcases h.form with ⟨_, rfl, _⟩ | ⟨g, _, _, _, _, hc, hm⟩
  · omega
  · unfold maxLen at hm; omega

/-- The frame of a write into one row: all blocks but the row's are as they were. -/
theorem OwnV.kept {w w' : World} {E : TypeId} {size lo hi : Nat} {p q : Option Addr} {n c : Nat} {vs : List Value} (h : OwnV w E size lo hi p n c vs) (hg : w.grownBy w' (blk q)) (hne : blk q ≠ blk p ∨ p = none) : OwnV w' E size lo hi p n c vs := by
  refine ⟨h.row.kept hg ?_, h.top⟩
  cases p with
  | none => exact .inl rfl
  | some a =>
    rcases hne with hne | hne
    · exact .inr fun e => hne (by rw [show (Value.slice (some a) n c).ownBlock = blk (some a) from rfl] at e; exact e.symm)
    · cases hne
theorem Own.kept {w w' : World} {lo hi : Nat} {p q : Option Addr} {n c : Nat} {xs : List Int} (h : Own w lo hi p n c xs) (hg : w.grownBy w' (blk q)) (hne : blk q ≠ blk p ∨ p = none) : Own w' lo hi p n c xs := (h.v.kept hg hne).own

theorem OwnV.within {w w' : World} {E : TypeId} {size lo hi lo' hi' : Nat} {p : Option Addr} {n c : Nat} {vs : List Value} (h : OwnV w E size lo hi p n c vs)
    (hw : Within lo' hi' w w') (hd : hi ≤ lo' ∨ hi' ≤ lo) : OwnV w' E size lo hi p n c vs := by
  refine ⟨⟨h.row.1, ?_⟩, h.top⟩
  rcases h.row.2 with h0 | ⟨g, cap, cur, hv, hl, hg, hr⟩
  · exact .inl h0
  · refine .inr ⟨g, cap, cur, hv, hl, ?_, hr⟩
    have hlt : g < hi := by
      injection hv with hp _ _
      exact h.top _ hp
    rw [hw.block g (Array.getElem?_eq_some_iff.1 hg).1 (by omega)]
    exact hg
theorem OwnV.below {w w' : World} {E : TypeId} {size lo hi : Nat} {p : Option Addr} {n c : Nat} {vs : List Value} (h : OwnV w E size lo hi p n c vs) (hb : Below w.heap.size w w') : OwnV w' E size lo hi p n c vs :=
  h.within (lo' := hi) (hi' := hi) (Within.of_below hb) (.inl (Nat.le_refl _))
theorem OwnV.widen {w : World} {E : TypeId} {size lo hi lo' hi' : Nat} {p : Option Addr} {n c : Nat} {vs : List Value} (h : OwnV w E size lo hi p n c vs)
    (hl : lo' ≤ lo) (hh : hi ≤ hi') : OwnV w E size lo' hi' p n c vs := by
  refine ⟨⟨h.row.1, ?_⟩, fun a ha => Nat.lt_of_lt_of_le (h.top a ha) hh⟩
  rcases h.row.2 with h0 | ⟨g, cap, cur, hv, hl', hr⟩
  · exact .inl h0
  · exact .inr ⟨g, cap, cur, hv, Nat.le_trans hl hl', hr⟩

section
variable {w w' : World} {lo hi lo' hi' : Nat} {p : Option Addr} {n c : Nat} {rows : List Row} {xss : List (List Int)}
theorem Own2.within (h : Own2 w lo hi p n c rows xss) (hw : Within lo' hi' w w') (hd : hi ≤ lo' ∨ hi' ≤ lo) : Own2 w' lo hi p n c rows xss :=
  ⟨h.outer.within hw hd, h.len, fun k hk => (h.inner k hk).within hw hd, h.apart⟩
theorem Own2.below (h : Own2 w lo hi p n c rows xss) (hb : Below w.heap.size w w') : Own2 w' lo hi p n c rows xss :=
  ⟨h.outer.below hb, h.len, fun k hk => (h.inner k hk).below hb, h.apart⟩
theorem Own2.widen (h : Own2 w lo hi p n c rows xss) (hl : lo' ≤ lo) (hh : hi ≤ hi') : Own2 w lo' hi' p n c rows xss :=
  ⟨h.outer.widen hl hh, h.len, fun k hk => (h.inner k hk).widen hl hh, h.apart⟩
theorem Own2.up (h : Own2 w lo hi p n c rows xss) : Own2 w lo w.heap.size p n c rows xss :=
  ⟨h.outer.up, h.len, fun k hk => (h.inner k hk).up, h.apart⟩
theorem Own2.rd (h : Own2 w lo hi p n c rows xss) : Intss w p n xss := by
  have hc := h.count
  have hl := h.len
  refine ⟨by omega, fun k hk => ?_⟩
  rcases h.outer.form with ⟨_, rfl, _⟩ | ⟨g, rfl, _⟩
  · omega
  · have hi := h.inner k (by omega)
    have hcell := h.outer.cell (k := k) (by omega)
    rw [List.getElem?_map, List.getElem?_eq_getElem (by omega)] at hcell
    have hcap : (rows[k]'(by omega)).2.1 ≤ (rows[k]'(by omega)).2.2 ∧ (rows[k]'(by omega)).2.2 ≤ 9223372036854775807 := by
      rcases hi.form with ⟨_, h1, h2⟩ | ⟨_, _, _, _, _, h1, h2⟩
      · omega
      · unfold maxLen at h2; omega
    refine ⟨g, 0, _, _, _, rfl, by rw [Nat.zero_add]; exact hcell, hcap.1, hcap.2, hi.ints⟩
end
theorem OwnM.within {w w' : World} {lo hi lo' hi' : Nat} {p : Option Addr} {n c : Nat} {xss : List (List Int)} (h : OwnM w lo hi p n c xss) (hw : Within lo' hi' w w') (hd : hi ≤ lo' ∨ hi' ≤ lo) : OwnM w' lo hi p n c xss := by
  obtain ⟨rows, h⟩ := h; exact ⟨rows, h.within hw hd⟩
theorem OwnM.below {w w' : World} {lo hi : Nat} {p : Option Addr} {n c : Nat} {xss : List (List Int)} (h : OwnM w lo hi p n c xss) (hb : Below w.heap.size w w') : OwnM w' lo hi p n c xss := by
  obtain ⟨rows, h⟩ := h; exact ⟨rows, h.below hb⟩
theorem OwnM.widen {w : World} {lo hi lo' hi' : Nat} {p : Option Addr} {n c : Nat} {xss : List (List Int)} (h : OwnM w lo hi p n c xss) (hl : lo' ≤ lo) (hh : hi ≤ hi') : OwnM w lo' hi' p n c xss := by
  obtain ⟨rows, h⟩ := h; exact ⟨rows, h.widen hl hh⟩
theorem OwnM.up {w : World} {lo hi : Nat} {p : Option Addr} {n c : Nat} {xss : List (List Int)} (h : OwnM w lo hi p n c xss) : OwnM w lo w.heap.size p n c xss := by
  obtain ⟨rows, h⟩ := h; exact ⟨rows, h.up⟩
theorem OwnM.rd {w : World} {lo hi : Nat} {p : Option Addr} {n c : Nat} {xss : List (List Int)} (h : OwnM w lo hi p n c xss) : Intss w p n xss := by
  obtain ⟨rows, h⟩ := h; exact h.rd
theorem OwnM.len {w : World} {lo hi : Nat} {p : Option Addr} {n c : Nat} {xss : List (List Int)} (h : OwnM w lo hi p n c xss) : xss.length = n := h.rd.len
theorem OwnM.small {w : World} {lo hi : Nat} {p : Option Addr} {n c : Nat} {xss : List (List Int)} (h : OwnM w lo hi p n c xss) : n ≤ 9223372036854775807 := by
  obtain ⟨rows, h⟩ := h; exact h.outer.small
theorem OwnM.nil (w : World) (lo hi : Nat) : OwnM w lo hi none 0 0 [] := ⟨[], OwnV.nil _ _ _ _ _, rfl, fun k h => absurd h (by simp), List.Pairwise.nil⟩

theorem pairwise_set {α : Type} {R : α → α → Prop} (hsym : ∀ a b, R a b → R b a) {l : List α} (h : l.Pairwise R) (k : Nat) (a : α) (ha : ∀ j (hj : j < l.length), j ≠ k → R a l[j]) : (l.set k a).Pairwise R := by
  rw [List.pairwise_iff_getElem] at h ⊢
  intro i j hi hj hij
  simp only [List.length_set] at hi hj
  rw [List.getElem_set, List.getElem_set]
  by_cases h1 : k = i
  · subst h1
    rw [if_pos rfl, if_neg (by omega)]
    exact ha j hj (by omega)
  · rw [if_neg h1]
    by_cases h2 : k = j
    · subst h2
      rw [if_pos rfl]
      exact hsym _ _ (ha i hi (by omega))
    · rw [if_neg h2]
      exact h i j hi hj hij

/-- Rows that lie in different intervals of blocks are apart. -/
theorem Own.apart {w : World} {lo hi lo' hi' : Nat} {p q : Option Addr} {n c m d : Nat} {xs ys : List Int} (h : Own w lo hi p n c xs) (h' : Own w lo' hi' q m d ys) (hd : hi ≤ lo' ∨ hi' ≤ lo) : blk p ≠ blk q ∨ p = none := by
  cases p with
  | none => exact .inr rfl
  | some a =>
    refine .inl fun e => ?_
    cases q with
    | none => simp [blk] at e
    | some b =>
      simp only [blk, Option.map_some, Option.some.injEq] at e
      have h1 := h.lt a rfl
      have h2 := h'.lt b rfl
      omega

theorem set_grown (w : World) (g k : Nat) (u : Value) : w.grownBy (w.setCell ⟨g, k, none⟩ u) (some g) :=
  ⟨rfl, rfl, rfl, by simp [World.setCell], fun i hi hne => Below.heap_setCell _ _ _ _ (by rintro rfl; exact hne rfl)⟩

/-- A new row is stored into the k-th cell. -/
theorem Own2.store {w : World} {lo mid hi g : Nat} {n c : Nat} {rows : List Row} {xss : List (List Int)} (h : Own2 w lo mid (some ⟨g, 0, none⟩) n c rows xss) {q : Option Addr} {m d : Nat} {ys : List Int}
    (hr : Own w mid hi q m d ys) (hlm : lo ≤ mid) (hmh : mid ≤ hi) (k : Nat) (hk : k < n) : Own2 (w.setCell ⟨g, k, none⟩ (.slice q m d)) lo hi (some ⟨g, 0, none⟩) n c (rows.set k (q, m, d)) (xss.set k ys) := by
  have hc := h.count
  have hl := h.len
  have hT : 40 ≠ 3 := by decide
  have keep : ∀ {lo' hi' : Nat} {p' : Option Addr} {n' c' : Nat} {zs : List Int}, Own w lo' hi' p' n' c' zs → Own (w.setCell ⟨g, k, none⟩ (.slice q m d)) lo' hi' p' n' c' zs := fun hz =>
    hz.kept (q := some ⟨g, 0, none⟩) (set_grown w g k _) (h.outer.ne hz.v hT)
  refine ⟨⟨?_, fun a ha => Nat.lt_of_lt_of_le (h.outer.top a ha) hmh⟩, by simpa using hl, fun j hj => ?_, ?_⟩
  · rw [List.map_set]
    exact (h.outer.row.stored (g := g) (cap := c) k (.slice q m d)).1
  · simp only [List.length_set] at hj
    by_cases hjk : k = j
    · subst hjk
      have e : nthR (xss.set k ys) k = ys := by rw [nthR_eq (by simp; omega)]; simp
      rw [e]
      simp only [List.getElem_set_self]
      exact (keep hr).widen hlm (Nat.le_refl _)
    · have e : nthR (xss.set k ys) j = nthR xss j := by
        rw [nthR_eq (by simp; omega), nthR_eq (by omega), List.getElem_set_ne hjk]
      rw [e]
      simp only [List.getElem_set_ne hjk]
      exact (keep (h.inner j hj)).widen (Nat.le_refl _) hmh
  · refine pairwise_set (fun a b hab => ?_) h.apart k (q, m, d) fun j hj hjk => ?_
    · rcases hab with hab | hab
      · exact .inl fun e => hab e.symm
      · by_cases hb : b.1 = none
        · exact .inr hb
        · refine .inl fun e => ?_
          rw [hab] at e
          cases hbb : b.1 with
          | none => exact hb hbb
          | some x => rw [hbb] at e; simp [blk] at e
    · exact hr.apart (h.inner j hj) (.inr (Nat.le_refl _))

end Go.Proofs.Ytdchckljggjaaaa
