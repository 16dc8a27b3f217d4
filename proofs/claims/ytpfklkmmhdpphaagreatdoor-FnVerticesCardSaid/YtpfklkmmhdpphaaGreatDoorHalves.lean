/- Words for slices of pairs (a slice of numbers and a number): read, or of the call's own. Conditions: none. -/
import Derived.Test.YtpfklkmmhdpphaaGreatDoorJnIsMat
import Derived.Test.YtpfklkmmhdpphaaGreatDoorJnVecFns2
namespace Go.Proofs.YtpfklkmmhdpphaaGreatDoor
open Go.RowKit
set_option linter.unusedVariables false
set_option linter.unusedSimpArgs false
set_option maxRecDepth 100000

abbrev Pr := List Int × Int
def prAt (hs : List Pr) (k : Nat) : Pr := hs.getD k ([], 0)
def nrm (hs : List Pr) (k : Nat) : List Int := (prAt hs k).1
def bnd (hs : List Pr) (k : Nat) : Int := (prAt hs k).2
theorem prAt_eq {hs : List Pr} {k : Nat} (h : k < hs.length) : prAt hs k = hs[k] := by simp [prAt, List.getD, h]
theorem prAt_mem {hs : List Pr} {k : Nat} (h : k < hs.length) : prAt hs k ∈ hs := by rw [prAt_eq h]; exact List.getElem_mem h
theorem take_prAt {hs : List Pr} {k : Nat} (h : k < hs.length) : hs.take (k + 1) = hs.take k ++ [prAt hs k] := by
  rw [prAt_eq h]; exact List.take_succ_eq_append_getElem h
theorem prAt_set {hs : List Pr} {k j : Nat} (h : j < hs.length) (x : Pr) : prAt (hs.set k x) j = if k = j then x else prAt hs j := by
  rw [prAt_eq (by simpa using h), prAt_eq h, List.getElem_set]
theorem prAt_app {hs : List Pr} {j : Nat} (h : j < hs.length) (x : Pr) : prAt (hs ++ [x]) j = prAt hs j := by
  rw [prAt_eq (by simp; omega), prAt_eq h, List.getElem_append_left]
theorem prAt_last (hs : List Pr) (x : Pr) : prAt (hs ++ [x]) hs.length = x := by
  rw [prAt_eq (by simp), List.getElem_append_right (Nat.le_refl _)]; simp

/-- The slice (p, n) reads as the pairs hs. -/
structure Prs (w : World) (p : Option Addr) (n : Nat) (hs : List Pr) : Prop where
  len : hs.length = n
  cell : ∀ k, k < n → ∃ b o q m d, p = some ⟨b, o, none⟩ ∧ w.cell? ⟨b, o + k * 2, none⟩ = some (.slice q m d) ∧ w.cell? ⟨b, o + k * 2 + 1, none⟩ = some (.int .i64 (bnd hs k)) ∧ m ≤ d ∧ d ≤ 9223372036854775807 ∧ Ints w q m (nrm hs k)
theorem Prs.below {w w' : World} {p : Option Addr} {n : Nat} {hs : List Pr} (h : Prs w p n hs) (hb : Below w.heap.size w w') : Prs w' p n hs :=
  ⟨h.len, fun k hk => by
    obtain ⟨b, o, q, m, d, hp, hc, hc2, hm, hd, hi⟩ := h.cell k hk
    exact ⟨b, o, q, m, d, hp, (hb.cell (World.block_lt_of_cell? w _ hc)).trans hc, (hb.cell (World.block_lt_of_cell? w _ hc2)).trans hc2, hm, hd, hi.below hb⟩⟩
theorem Prs.drewN {w : World} {p : Option Addr} {n : Nat} {hs : List Pr} (h : Prs w p n hs) (z : Nat) : Prs (w.drewN z) p n hs := h.below (Below.drawn (Below.refl _ _) z)
theorem Prs.drew {w : World} {p : Option Addr} {n : Nat} {hs : List Pr} (h : Prs w p n hs) : Prs w.drew p n hs := h.below (drewBelow w)
theorem Prs.alloc {w : World} {p : Option Addr} {n : Nat} {hs : List Pr} (h : Prs w p n hs) (o : Obj) : Prs (w.alloc o) p n hs := h.below (boxed w o)
theorem Prs.nil (w : World) (p : Option Addr) : Prs w p 0 [] := ⟨rfl, fun _ h => absurd h (by omega)⟩

/-- The cells of pairs. -/
def pcells : List Row → List Pr → List Value
  | r :: rs, h :: hs => Row.val r :: .int .i64 h.2 :: pcells rs hs
  | _, _ => []
theorem pcells_length {rows : List Row} {hs : List Pr} (h : rows.length = hs.length) : (pcells rows hs).length = rows.length * 2 := by
  induction rows generalizing hs with
  | nil => cases hs <;> rfl
  | cons r rs ih =>
    cases hs with
    | nil => simp at h
    | cons x hs => simp only [pcells, List.length_cons, ih (by simpa using h)]; omega
theorem pcells_row {rows : List Row} {hs : List Pr} (h : rows.length = hs.length) {k : Nat} (hk : k < rows.length) : (pcells rows hs)[k * 2]? = some (Row.val rows[k]) ∧ (pcells rows hs)[k * 2 + 1]? = some (.int .i64 (bnd hs k)) := by
  induction rows generalizing hs k with
  | nil => simp at hk
  | cons r rs ih =>
    cases hs with
    | nil => simp at h
    | cons x hs =>
      cases k with
      | zero => exact ⟨rfl, rfl⟩
      | succ k =>
        have := ih (hs := hs) (by simpa using h) (k := k) (by simpa using hk)
        rw [show (k + 1) * 2 = k * 2 + 1 + 1 by omega]
        simp only [pcells, List.getElem?_cons_succ, List.getElem_cons_succ]
        exact this
theorem pcells_app {rows : List Row} {hs : List Pr} (h : rows.length = hs.length) (r : Row) (x : Pr) : pcells (rows ++ [r]) (hs ++ [x]) = pcells rows hs ++ [Row.val r, .int .i64 x.2] := by
  induction rows generalizing hs with
  | nil =>
    cases hs with
    | nil => rfl
    | cons y hs => simp at h
  | cons s rs ih =>
    cases hs with
    | nil => simp at h
    | cons y hs => simp [pcells, ih (hs := hs) (by simpa using h)]
theorem pcells_set {rows : List Row} {hs : List Pr} (h : rows.length = hs.length) {k : Nat} (hk : k < rows.length) (r : Row) (x : Pr) :
    ((pcells rows hs).set (k * 2) (Row.val r)).set (k * 2 + 1) (.int .i64 x.2) = pcells (rows.set k r) (hs.set k x) := by
  induction rows generalizing hs k with
  | nil => simp at hk
  | cons s rs ih =>
    cases hs with
    | nil => simp at h
    | cons y hs =>
      cases k with
      | zero => rfl
      | succ k =>
        have := ih (hs := hs) (by simpa using h) (k := k) (by simpa using hk)
        rw [show (k + 1) * 2 = k * 2 + 1 + 1 by omega]
        simp only [pcells, List.set_cons_succ]
        rw [this]
theorem pcells_set1 {rows : List Row} {hs : List Pr} (h : rows.length = hs.length) {k : Nat} (hk : k < rows.length) (b : Int) :
    (pcells rows hs).set (k * 2 + 1) (.int .i64 b) = pcells rows (hs.set k (nrm hs k, b)) := by
  have h1 := pcells_set h hk rows[k] (nrm hs k, b)
  have h2 : (pcells rows hs).set (k * 2) (Row.val rows[k]) = pcells rows hs := by
    have h3 := (pcells_row h hk).1
    have hl := pcells_length h
    rw [List.getElem?_eq_some_iff] at h3
    obtain ⟨h4, h5⟩ := h3
    rw [← h5]; exact List.set_getElem_self h4
  rw [h2, List.set_getElem_self] at h1
  exact h1

/-- Pairs of the call's own: each slice of numbers is a row of its own, no two in one block. E: the pairs' type. -/
structure OwnP (E : TypeId) (w : World) (lo hi : Nat) (p : Option Addr) (n c : Nat) (rows : List Row) (hs : List Pr) : Prop where
  outer : OwnV w E 2 lo hi p n c (pcells rows hs)
  len : rows.length = hs.length
  inner : ∀ k (h : k < rows.length), Own w lo hi rows[k].1 rows[k].2.1 rows[k].2.2 (nrm hs k)
  apart : rows.Pairwise fun r s => blk r.1 ≠ blk s.1 ∨ r.1 = none
def OwnPM (E : TypeId) (w : World) (lo hi : Nat) (p : Option Addr) (n c : Nat) (hs : List Pr) : Prop := ∃ rows, OwnP E w lo hi p n c rows hs

section
variable {E : TypeId} {w w' : World} {lo hi lo' hi' : Nat} {p : Option Addr} {n c : Nat} {rows : List Row} {hs : List Pr}
theorem OwnP.count (h : OwnP E w lo hi p n c rows hs) : rows.length = n := by
  have := h.outer.len
  rw [pcells_length h.len] at this
  omega
theorem OwnP.within (h : OwnP E w lo hi p n c rows hs) (hw : Within lo' hi' w w') (hd : hi ≤ lo' ∨ hi' ≤ lo) : OwnP E w' lo hi p n c rows hs :=
  ⟨h.outer.within hw hd, h.len, fun k hk => (h.inner k hk).within hw hd, h.apart⟩
theorem OwnP.below (h : OwnP E w lo hi p n c rows hs) (hb : Below w.heap.size w w') : OwnP E w' lo hi p n c rows hs :=
  ⟨h.outer.below hb, h.len, fun k hk => (h.inner k hk).below hb, h.apart⟩
theorem OwnP.widen (h : OwnP E w lo hi p n c rows hs) (hl : lo' ≤ lo) (hh : hi ≤ hi') : OwnP E w lo' hi' p n c rows hs :=
  ⟨h.outer.widen hl hh, h.len, fun k hk => (h.inner k hk).widen hl hh, h.apart⟩
theorem OwnP.up (h : OwnP E w lo hi p n c rows hs) : OwnP E w lo w.heap.size p n c rows hs :=
  ⟨h.outer.up, h.len, fun k hk => (h.inner k hk).up, h.apart⟩
theorem OwnP.drew (h : OwnP E w lo hi p n c rows hs) : OwnP E w.drew lo hi p n c rows hs := ⟨h.outer.drew, h.len, fun k hk => (h.inner k hk).drew, h.apart⟩
theorem OwnP.rd (h : OwnP E w lo hi p n c rows hs) : Prs w p n hs := by
  have hc := h.count
  have hl := h.len
  refine ⟨by omega, fun k hk => ?_⟩
  rcases h.outer.form with ⟨_, rfl, _⟩ | ⟨g, rfl, _⟩
  · omega
  · have hi := h.inner k (by omega)
    have hr := pcells_row h.len (k := k) (by omega)
    have hcell := h.outer.cell (k := k * 2) (by omega)
    have hcell2 := h.outer.cell (k := k * 2 + 1) (by omega)
    rw [hr.1] at hcell
    rw [hr.2] at hcell2
    have hcap : (rows[k]'(by omega)).2.1 ≤ (rows[k]'(by omega)).2.2 ∧ (rows[k]'(by omega)).2.2 ≤ 9223372036854775807 := by
      rcases hi.form with ⟨_, h1, h2⟩ | ⟨_, _, _, _, _, h1, h2⟩
      · omega
      · unfold maxLen at h2; omega
    refine ⟨g, 0, _, _, _, rfl, by rw [Nat.zero_add]; exact hcell, by rw [Nat.zero_add]; exact hcell2, hcap.1, hcap.2, hi.ints⟩
theorem OwnP.nil (E : TypeId) (w : World) (lo hi : Nat) : OwnP E w lo hi none 0 0 [] [] := ⟨OwnV.nil _ _ _ _ _, rfl, fun k h => absurd h (by simp), List.Pairwise.nil⟩
theorem OwnPM.within (h : OwnPM E w lo hi p n c hs) (hw : Within lo' hi' w w') (hd : hi ≤ lo' ∨ hi' ≤ lo) : OwnPM E w' lo hi p n c hs := by
  obtain ⟨rows, h⟩ := h; exact ⟨rows, h.within hw hd⟩
theorem OwnPM.below (h : OwnPM E w lo hi p n c hs) (hb : Below w.heap.size w w') : OwnPM E w' lo hi p n c hs := by
  obtain ⟨rows, h⟩ := h; exact ⟨rows, h.below hb⟩
theorem OwnPM.widen (h : OwnPM E w lo hi p n c hs) (hl : lo' ≤ lo) (hh : hi ≤ hi') : OwnPM E w lo' hi' p n c hs := by
  obtain ⟨rows, h⟩ := h; exact ⟨rows, h.widen hl hh⟩
theorem OwnPM.up (h : OwnPM E w lo hi p n c hs) : OwnPM E w lo w.heap.size p n c hs := by
  obtain ⟨rows, h⟩ := h; exact ⟨rows, h.up⟩
theorem OwnPM.rd (h : OwnPM E w lo hi p n c hs) : Prs w p n hs := by
  obtain ⟨rows, h⟩ := h; exact h.rd
theorem OwnPM.len (h : OwnPM E w lo hi p n c hs) : hs.length = n := h.rd.len
theorem OwnPM.small (h : OwnPM E w lo hi p n c hs) : n ≤ 9223372036854775807 := by
  obtain ⟨rows, h⟩ := h; exact h.outer.small
theorem OwnPM.nil (E : TypeId) (w : World) (lo hi : Nat) : OwnPM E w lo hi none 0 0 [] := ⟨[], OwnP.nil _ _ _ _⟩
end

/-- A pair is stored into the k-th place; its row is new. -/
theorem OwnP.put {E : TypeId} (hE : E ≠ 3) {w : World} {lo mid hi g : Nat} {n c : Nat} {rows : List Row} {hs : List Pr} (h : OwnP E w lo mid (some ⟨g, 0, none⟩) n c rows hs) {q : Option Addr} {m d : Nat} {ys : List Int}
    (hr : Own w mid hi q m d ys) (hlm : lo ≤ mid) (hmh : mid ≤ hi) (k : Nat) (hk : k < n) (b : Int) :
    OwnP E ((w.setCell ⟨g, k * 2, none⟩ (.slice q m d)).setCell ⟨g, k * 2 + 1, none⟩ (.int .i64 b)) lo hi (some ⟨g, 0, none⟩) n c (rows.set k (q, m, d)) (hs.set k (ys, b)) := by
  have hc := h.count
  have hl := h.len
  have keep : ∀ {lo' hi' : Nat} {p' : Option Addr} {n' c' : Nat} {zs : List Int}, Own w lo' hi' p' n' c' zs → Own ((w.setCell ⟨g, k * 2, none⟩ (.slice q m d)).setCell ⟨g, k * 2 + 1, none⟩ (.int .i64 b)) lo' hi' p' n' c' zs := fun hz =>
    (hz.kept (q := some ⟨g, 0, none⟩) (set_grown w g _ _) (h.outer.ne hz.v hE)).kept (q := some ⟨g, 0, none⟩) (set_grown _ g _ _) (h.outer.ne hz.v hE)
  refine ⟨⟨?_, fun a ha => Nat.lt_of_lt_of_le (h.outer.top a ha) hmh⟩, by simpa using hl, fun j hj => ?_, ?_⟩
  · rw [← pcells_set h.len (by omega) (q, m, d) (ys, b)]
    exact ((h.outer.row.stored (g := g) (cap := c) (k * 2) (.slice q m d)).1.stored (g := g) (cap := c) (k * 2 + 1) (.int .i64 b)).1
  · simp only [List.length_set] at hj
    rw [nrm, prAt_set (by omega)]
    by_cases hjk : k = j
    · subst hjk
      simp only [List.getElem_set_self, if_pos]
      exact (keep hr).widen hlm (Nat.le_refl _)
    · rw [if_neg hjk]
      simp only [List.getElem_set_ne hjk]
      exact (keep (h.inner j hj)).widen (Nat.le_refl _) hmh
  · refine pairwise_set (fun a b hab => ?_) h.apart k _ fun j hj hjk => ?_
    · rcases hab with h1 | h1
      · exact .inl fun e => h1 e.symm
      · cases hb : b.1 with
        | none => exact .inr rfl
        | some x => exact .inl (by rw [h1]; simp [blk])
    · exact hr.apart (h.inner j hj) (.inr (Nat.le_refl _))

end Go.Proofs.YtpfklkmmhdpphaaGreatDoor
