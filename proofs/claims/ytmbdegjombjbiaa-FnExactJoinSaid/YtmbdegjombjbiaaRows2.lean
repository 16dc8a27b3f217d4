/- Words for slices of slices of numbers: read, or of the call's own. Conditions: none. -/
import Derived.Test.YtmbdegjombjbiaaLawKit
namespace Go.Proofs.Ytmbdegjombjbiaa
open Go.RowKit
set_option linter.unusedVariables false
set_option linter.unusedSimpArgs false

theorem Ints.alloc {w : World} {p : Option Addr} {n : Nat} {xs : List Int} (h : Ints w p n xs) (o : Obj) : Ints (w.alloc o) p n xs :=
  h.below ((Below.refl _ _).alloc (Nat.le_refl _) _)
theorem Ints.drew {w : World} {p : Option Addr} {n : Nat} {xs : List Int} (h : Ints w p n xs) : Ints w.drew p n xs := ⟨h.len, h.cell⟩
theorem Own.setBelow {w : World} {lo hi : Nat} {p : Option Addr} {n c : Nat} {xs : List Int} (h : Own w lo hi p n c xs) {a : Addr} (ha : a.block < lo) (u : Value) : Own (w.setCell a u) lo hi p n c xs :=
  ⟨ownsRow_setCell_below h.row ha u, h.top⟩
theorem bcell {W w1 : World} (hb : Below W.heap.size W w1) : (∀ b o, b < W.heap.size → w1.cell? ⟨b, o, none⟩ = W.cell? ⟨b, o, none⟩) ∧ (∀ b o, b < W.heap.size → w1.frozen? ⟨b, o, none⟩ = W.frozen? ⟨b, o, none⟩) :=
  ⟨fun b o h => hb.cell (p := ⟨b, o, none⟩) h, fun b o h => hb.frozen (p := ⟨b, o, none⟩) h⟩
theorem boxed (w : World) (o : Obj) : Below w.heap.size w (w.alloc o) := (Below.refl _ _).alloc (Nat.le_refl _) _

theorem boxed2 (w : World) (o o' : Obj) : Below w.heap.size w ((w.alloc o).alloc o') := (boxed w o).alloc (boxed w o).size _
theorem boxed3 (w : World) (o o' o'' : Obj) : Below w.heap.size w (((w.alloc o).alloc o').alloc o'') := (boxed2 w o o').alloc (boxed2 w o o').size _

def nthR (xss : List (List Int)) (k : Nat) : List Int := xss.getD k []
theorem nthR_eq {xss : List (List Int)} {k : Nat} (h : k < xss.length) : nthR xss k = xss[k] := by simp [nthR, List.getD, h]
theorem take_nthR {xss : List (List Int)} {k : Nat} (h : k < xss.length) : xss.take (k + 1) = xss.take k ++ [nthR xss k] := by
  rw [nthR_eq h]; exact List.take_succ_eq_append_getElem h
theorem nthR_mem {xss : List (List Int)} {k : Nat} (h : k < xss.length) : nthR xss k ∈ xss := by rw [nthR_eq h]; exact List.getElem_mem h

/-- The slice (p, n) reads as the rows xss. -/
structure Intss (w : World) (p : Option Addr) (n : Nat) (xss : List (List Int)) : Prop where
  len : xss.length = n
  cellc : ∀ k, k < n → ∃ b o q m d, p = some ⟨b, o, none⟩ ∧ w.cell? ⟨b, o + k, none⟩ = some (.slice q m d) ∧ m ≤ d ∧ d ≤ 9223372036854775807 ∧ Ints w q m (nthR xss k)
theorem Intss.cell {w : World} {p : Option Addr} {n : Nat} {xss : List (List Int)} (h : Intss w p n xss) : ∀ k, k < n → ∃ b o q m d, p = some ⟨b, o, none⟩ ∧ w.cell? ⟨b, o + k, none⟩ = some (.slice q m d) ∧ m ≤ 9223372036854775807 ∧ Ints w q m (nthR xss k) := fun k hk => by
  obtain ⟨b, o, q, m, d, hp, hc, hmd, hd, hi⟩ := h.cellc k hk
  exact ⟨b, o, q, m, d, hp, hc, by omega, hi⟩

theorem Intss.below {w w' : World} {p : Option Addr} {n : Nat} {xss : List (List Int)} (h : Intss w p n xss) (hb : Below w.heap.size w w') : Intss w' p n xss :=
  ⟨h.len, fun k hk => by
    obtain ⟨b, o, q, m, d, hp, hc, hm, hd, hi⟩ := h.cellc k hk
    exact ⟨b, o, q, m, d, hp, (hb.cell (World.block_lt_of_cell? w _ hc)).trans hc, hm, hd, hi.below hb⟩⟩
theorem Intss.drewN {w : World} {p : Option Addr} {n : Nat} {xss : List (List Int)} (h : Intss w p n xss) (z : Nat) : Intss (w.drewN z) p n xss :=
  ⟨h.len, fun k hk => by
    obtain ⟨b, o, q, m, d, hp, hc, hm, hd, hi⟩ := h.cellc k hk
    exact ⟨b, o, q, m, d, hp, hc, hm, hd, hi.drewN z⟩⟩
theorem Intss.nil (w : World) (p : Option Addr) : Intss w p 0 [] := ⟨rfl, fun _ h => absurd h (by omega)⟩

abbrev Row := Option Addr × Nat × Nat
def Row.val (r : Row) : Value := .slice r.1 r.2.1 r.2.2

theorem OwnV.form {w : World} {E : TypeId} {size lo hi : Nat} {p : Option Addr} {n c : Nat} {vs : List Value} (h : OwnV w E size lo hi p n c vs) :
    (p = none ∧ n = 0 ∧ c = 0) ∨ ∃ g, p = some ⟨g, 0, none⟩ ∧ lo ≤ g ∧ g < hi ∧ g < w.heap.size ∧ n ≤ c ∧ c ≤ maxLen := by
  rcases h.row.2 with ⟨h0, hn⟩ | ⟨g', cap, cur, hv, hl, hg, hc, hm, _⟩
  · injection h0 with a b c
    exact .inl ⟨a, b, c⟩
  · injection hv with a b c
    subst c
    exact .inr ⟨g', a, hl, h.top _ a, (Array.getElem?_eq_some_iff.1 hg).1, hc, hm⟩
theorem OwnV.cell {w : World} {E : TypeId} {lo hi g size : Nat} {n c : Nat} {vs : List Value} (h : OwnV w E size lo hi (some ⟨g, 0, none⟩) n c vs) {k : Nat} (hk : k < n * size) : w.cell? ⟨g, k, none⟩ = vs[k]? :=
  h.row.cellAt k hk
theorem OwnV.frozen {w : World} {E : TypeId} {lo hi g size : Nat} {n c : Nat} {vs : List Value} (h : OwnV w E size lo hi (some ⟨g, 0, none⟩) n c vs) (k : Nat) : w.frozen? ⟨g, k, none⟩ = false := h.row.frozenAt k
theorem OwnV.elem {w : World} {E : TypeId} {lo hi g size : Nat} {n c : Nat} {vs : List Value} (h : OwnV w E size lo hi (some ⟨g, 0, none⟩) n c vs) : ∃ cur, w.heap[g]? = some (.cells cur E (0, 0)) := by
  rcases h.row.2 with ⟨h0, _⟩ | ⟨g', cap, cur, hv, _, hg, _⟩
  · cases h0
  · injection hv with a
    injection a with a
    injection a with a
    subst a
    exact ⟨cur, hg⟩

/-- Rows of different element types lie in different blocks. -/
theorem OwnV.ne {w : World} {E E' : TypeId} {lo hi lo' hi' size size' : Nat} {p p' : Option Addr} {n c n' c' : Nat} {vs vs' : List Value} (h : OwnV w E size lo hi p n c vs) (h' : OwnV w E' size' lo' hi' p' n' c' vs') (hE : E ≠ E') :
    blk p ≠ blk p' ∨ p' = none := by
  rcases h'.form with ⟨rfl, _⟩ | ⟨g', rfl, _⟩
  · exact .inr rfl
  · rcases h.form with ⟨rfl, _⟩ | ⟨g, rfl, _⟩
    · exact .inl (by simp [blk])
    · refine .inl fun e => hE ?_
      obtain ⟨cur, e1⟩ := h.elem
      obtain ⟨cur', e2⟩ := h'.elem
      simp only [blk, Option.map_some, Option.some.injEq] at e
      subst e
      rw [e1] at e2
      injection e2 with e2
      injection e2

theorem OwnV.small {w : World} {E : TypeId} {size lo hi : Nat} {p : Option Addr} {n c : Nat} {vs : List Value} (h : OwnV w E size lo hi p n c vs) : n ≤ 9223372036854775807 := by
  rcases h.form with ⟨_, rfl, _⟩ | ⟨g, _, _, _, _, hc, hm⟩
  · omega
  · unfold maxLen at hm; omega

/-- The frame of a write into one row: all blocks but the row's are as they were. -/
theorem OwnV.kept {w w' : World} {E : TypeId} {size lo hi : Nat} {p q : Option Addr} {n c : Nat} {vs : List Value} (h : OwnV w E size lo hi p n c vs) (hg : w.grownBy w' (blk q)) (hne : blk q ≠ blk p ∨ p = none) : OwnV w' E size lo hi p n c vs := by
  refine ⟨h.row.kept hg ?_, h.top⟩
  cases p with
  | none => exact .inl rfl
  | some a =>
    rcases hne with hne | hne
    · exact .inr fun e => hne (by rw [show (Value.slice (some a) n c).ownBlock = blk (some a) from rfl] at e; exact e.symm)
    · cases hne
theorem Own.kept {w w' : World} {lo hi : Nat} {p q : Option Addr} {n c : Nat} {xs : List Int} (h : Own w lo hi p n c xs) (hg : w.grownBy w' (blk q)) (hne : blk q ≠ blk p ∨ p = none) : Own w' lo hi p n c xs := (h.v.kept hg hne).own

theorem OwnV.within {w w' : World} {E : TypeId} {size lo hi lo' hi' : Nat} {p : Option Addr} {n c : Nat} {vs : List Value} (h : OwnV w E size lo hi p n c vs)
    (hw : Within lo' hi' w w') (hd : hi ≤ lo' ∨ hi' ≤ lo) : OwnV w' E size lo hi p n c vs := by
  refine ⟨⟨h.row.1, ?_⟩, h.top⟩
  rcases h.row.2 with h0 | ⟨g, cap, cur, hv, hl, hg, hr⟩
  · exact .inl h0
  · refine .inr ⟨g, cap, cur, hv, hl, ?_, hr⟩
    have hlt : g < hi := by
      injection hv with hp _ _
      exact h.top _ hp
    rw [hw.block g (Array.getElem?_eq_some_iff.1 hg).1 (by omega)]
    exact hg
theorem OwnV.below {w w' : World} {E : TypeId} {size lo hi : Nat} {p : Option Addr} {n c : Nat} {vs : List Value} (h : OwnV w E size lo hi p n c vs) (hb : Below w.heap.size w w') : OwnV w' E size lo hi p n c vs :=
  h.within (lo' := hi) (hi' := hi) (Within.of_below hb) (.inl (Nat.le_refl _))
theorem OwnV.widen {w : World} {E : TypeId} {size lo hi lo' hi' : Nat} {p : Option Addr} {n c : Nat} {vs : List Value} (h : OwnV w E size lo hi p n c vs)
    (hl : lo' ≤ lo) (hh : hi ≤ hi') : OwnV w E size lo' hi' p n c vs := by
  refine ⟨⟨h.row.1, ?_⟩, fun a ha => Nat.lt_of_lt_of_le (h.top a ha) hh⟩
  rcases h.row.2 with h0 | ⟨g, cap, cur, hv, hl', hr⟩
  · exact .inl h0
  · exact .inr ⟨g, cap, cur, hv, Nat.le_trans hl hl', hr⟩

section
variable {w w' : World} {lo hi lo' hi' : Nat} {p : Option Addr} {n c : Nat} {rows : List Row} {xss : List (List Int)}
end
theorem pairwise_set {α : Type} {R : α → α → Prop} (hsym : ∀ a b, R a b → R b a) {l : List α} (h : l.Pairwise R) (k : Nat) (a : α) (ha : ∀ j (hj : j < l.length), j ≠ k → R a l[j]) : (l.set k a).Pairwise R := by
  rw [List.pairwise_iff_getElem] at h ⊢
  intro i j hi hj hij
  simp only [List.length_set] at hi hj
  rw [List.getElem_set, List.getElem_set]
  by_cases h1 : k = i
  · subst h1
    rw [if_pos rfl, if_neg (by omega)]
    exact ha j hj (by omega)
  · rw [if_neg h1]
    by_cases h2 : k = j
    · subst h2
      rw [if_pos rfl]
      exact hsym _ _ (ha i hi (by omega))
    · rw [if_neg h2]
      exact h i j hi hj hij

/-- Rows that lie in different intervals of blocks are apart. -/
theorem Own.apart {w : World} {lo hi lo' hi' : Nat} {p q : Option Addr} {n c m d : Nat} {xs ys : List Int} (h : Own w lo hi p n c xs) (h' : Own w lo' hi' q m d ys) (hd : hi ≤ lo' ∨ hi' ≤ lo) : blk p ≠ blk q ∨ p = none := by
  cases p with
  | none => exact .inr rfl
  | some a =>
    refine .inl fun e => ?_
    cases q with
    | none => simp [blk] at e
    | some b =>
      simp only [blk, Option.map_some, Option.some.injEq] at e
      have h1 := h.lt a rfl
      have h2 := h'.lt b rfl
      omega

theorem set_grown (w : World) (g k : Nat) (u : Value) : w.grownBy (w.setCell ⟨g, k, none⟩ u) (some g) :=
  ⟨rfl, rfl, rfl, by simp [World.setCell], fun i hi hne => Below.heap_setCell _ _ _ _ (by rintro rfl; exact hne rfl)⟩

end Go.Proofs.Ytmbdegjombjbiaa
