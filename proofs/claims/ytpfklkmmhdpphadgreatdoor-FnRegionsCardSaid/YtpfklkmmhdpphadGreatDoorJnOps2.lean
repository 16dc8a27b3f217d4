/- Texts joined: Ops2 Halves Pairs Halves2 RegKit RegKit2 Box Half. -/
import Derived.Test.YtpfklkmmhdpphadGreatDoorJnNum2
import Derived.Test.YtpfklkmmhdpphadGreatDoorJnVecFns2

/- append of a row to a slice of slices of numbers of the call's own. Conditions: sizes. -/
namespace Go.Proofs.YtpfklkmmhdpphadGreatDoor
open Go.RowKit
set_option linter.unusedVariables false
set_option linter.unusedSimpArgs false
set_option maxRecDepth 100000

theorem Grow.within {W W' : World} {p p' : Option Addr} (h : Grow W W' p p') {lo : Nat} (h2 : ∀ a, p = some a → lo ≤ a.block) : Within lo W.heap.size W W' :=
  ⟨h.by_.os, h.by_.tape, h.by_.output, h.by_.size, fun k hk hd => h.by_.block k hk fun e => by
    cases p with
    | none => cases e
    | some a =>
      simp only [blk, Option.map_some, Option.some.injEq] at e
      have := h2 a rfl
      omega⟩

/-- The empty slice of slices. -/
theorem Own2.empty (w : World) : Own2 (w.alloc (.cells #[] 27)) w.heap.size (w.heap.size + 1) (some ⟨w.heap.size, 0, none⟩) 0 0 [] [] :=
  ⟨⟨World.ownsRow_made w #[] 0 (Nat.le_refl _) (Nat.zero_le _) rfl, fun a ha => by injection ha with ha; subst ha; exact Nat.lt_succ_self _⟩, rfl, fun k h => absurd h (by simp), List.Pairwise.nil⟩
theorem Own2.nil (w : World) (lo hi : Nat) : Own2 w lo hi none 0 0 [] [] := ⟨OwnV.nil _ _ _ _ _, rfl, fun k h => absurd h (by simp), List.Pairwise.nil⟩

/-- What a slice of slices is behind the append of a new row. w: where the row is known; W: at the append; W': behind it. -/
theorem Own2.app {w W W' : World} {lo mid : Nat} {p p' : Option Addr} {n c c' : Nat} {rows : List Row} {xss : List (List Int)} (h : Own2 w lo mid p n c rows xss)
    {hi : Nat} {q : Option Addr} {m d : Nat} {ys : List Int} (hr : Own w mid hi q m d ys) (hlm : lo ≤ mid)
    (hb : Below w.heap.size w W) (hv : OwnV W' 27 1 lo W'.heap.size p' (n + 1) c' (rows.map Row.val ++ [.slice q m d])) (hg : Grow W W' p p') :
    Own2 W' lo W'.heap.size p' (n + 1) c' (rows ++ [(q, m, d)]) (xss ++ [ys]) := by
  have hc := h.count
  have hl := h.len
  have hT : 27 ≠ 3 := by decide
  have keep : ∀ {lo' hi' : Nat} {q' : Option Addr} {n' c' : Nat} {zs : List Int}, lo ≤ lo' → Own w lo' hi' q' n' c' zs → Own W' lo W'.heap.size q' n' c' zs := fun hlo hz =>
    ((hz.below hb).kept (q := p) hg.by_ ((h.outer.below hb).ne (hz.below hb).v hT)).up.widen hlo (Nat.le_refl _)
  refine ⟨by simpa [Row.val] using hv, by simp [hl], fun k hk => ?_, ?_⟩
  · by_cases hkl : k < rows.length
    · have e : nthR (xss ++ [ys]) k = nthR xss k := by
        rw [nthR_eq (by simp; omega), nthR_eq (by omega), List.getElem_append_left]
      rw [e]
      simp only [List.getElem_append_left hkl]
      exact keep (Nat.le_refl _) (h.inner k hkl)
    · simp only [List.length_append, List.length_cons, List.length_nil] at hk
      obtain rfl : k = rows.length := by omega
      have e : nthR (xss ++ [ys]) rows.length = ys := by
        rw [nthR_eq (by simp; omega), List.getElem_append_right (by omega)]
        simp [hl]
      rw [e]
      simp only [List.getElem_append_right (Nat.le_refl _), Nat.sub_self, List.getElem_cons_zero]
      exact keep hlm hr
  · rw [List.pairwise_append]
    refine ⟨h.apart, List.pairwise_singleton _ _, fun r hr1 s hs => ?_⟩
    simp only [List.mem_singleton] at hs
    subst hs
    obtain ⟨j, hj, rfl⟩ := List.getElem_of_mem hr1
    exact (h.inner j hj).apart hr (.inl (Nat.le_refl _))

theorem Own2.drew {w : World} {lo hi : Nat} {p : Option Addr} {n c : Nat} {rows : List Row} {xss : List (List Int)} (h : Own2 w lo hi p n c rows xss) : Own2 w.drew lo hi p n c rows xss :=
  ⟨h.outer.drew, h.len, fun k hk => (h.inner k hk).drew, h.apart⟩
theorem Own2.drewN {w : World} {lo hi : Nat} {p : Option Addr} {n c : Nat} {rows : List Row} {xss : List (List Int)} (h : Own2 w lo hi p n c rows xss) (z : Nat) : Own2 (w.drewN z) lo hi p n c rows xss :=
  ⟨⟨h.outer.row, h.outer.top⟩, h.len, fun k hk => (h.inner k hk).drewN z, h.apart⟩

end Go.Proofs.YtpfklkmmhdpphadGreatDoor

/- Words for slices of pairs (a slice of numbers and a number): read, or of the call's own. Conditions: none. -/
namespace Go.Proofs.YtpfklkmmhdpphadGreatDoor
open Go.RowKit
set_option linter.unusedVariables false
set_option linter.unusedSimpArgs false
set_option maxRecDepth 100000

abbrev Pr := List Int × Int
def prAt (hs : List Pr) (k : Nat) : Pr := hs.getD k ([], 0)
def nrm (hs : List Pr) (k : Nat) : List Int := (prAt hs k).1
def bnd (hs : List Pr) (k : Nat) : Int := (prAt hs k).2
theorem prAt_eq {hs : List Pr} {k : Nat} (h : k < hs.length) : prAt hs k = hs[k] := by simp [prAt, List.getD, h]
theorem prAt_mem {hs : List Pr} {k : Nat} (h : k < hs.length) : prAt hs k ∈ hs := by rw [prAt_eq h]; exact List.getElem_mem h
theorem take_prAt {hs : List Pr} {k : Nat} (h : k < hs.length) : hs.take (k + 1) = hs.take k ++ [prAt hs k] := by
  rw [prAt_eq h]; exact List.take_succ_eq_append_getElem h
theorem prAt_set {hs : List Pr} {k j : Nat} (h : j < hs.length) (x : Pr) : prAt (hs.set k x) j = if k = j then x else prAt hs j := by
  rw [prAt_eq (by simpa using h), prAt_eq h, List.getElem_set]
theorem prAt_app {hs : List Pr} {j : Nat} (h : j < hs.length) (x : Pr) : prAt (hs ++ [x]) j = prAt hs j := by
  rw [prAt_eq (by simp; omega), prAt_eq h, List.getElem_append_left]
theorem prAt_last (hs : List Pr) (x : Pr) : prAt (hs ++ [x]) hs.length = x := by
  rw [prAt_eq (by simp), List.getElem_append_right (Nat.le_refl _)]; simp

/-- The slice (p, n) reads as the pairs hs. -/
structure Prs (w : World) (p : Option Addr) (n : Nat) (hs : List Pr) : Prop where
  len : hs.length = n
  cell : ∀ k, k < n → ∃ b o q m d, p = some ⟨b, o, none⟩ ∧ w.cell? ⟨b, o + k * 2, none⟩ = some (.slice q m d) ∧ w.cell? ⟨b, o + k * 2 + 1, none⟩ = some (.int .i64 (bnd hs k)) ∧ m ≤ d ∧ d ≤ 9223372036854775807 ∧ Ints w q m (nrm hs k)
theorem Prs.below {w w' : World} {p : Option Addr} {n : Nat} {hs : List Pr} (h : Prs w p n hs) (hb : Below w.heap.size w w') : Prs w' p n hs :=
  ⟨h.len, fun k hk => by
    obtain ⟨b, o, q, m, d, hp, hc, hc2, hm, hd, hi⟩ := h.cell k hk
    exact ⟨b, o, q, m, d, hp, (hb.cell (World.block_lt_of_cell? w _ hc)).trans hc, (hb.cell (World.block_lt_of_cell? w _ hc2)).trans hc2, hm, hd, hi.below hb⟩⟩
theorem Prs.drewN {w : World} {p : Option Addr} {n : Nat} {hs : List Pr} (h : Prs w p n hs) (z : Nat) : Prs (w.drewN z) p n hs := h.below (Below.drawn (Below.refl _ _) z)
theorem Prs.drew {w : World} {p : Option Addr} {n : Nat} {hs : List Pr} (h : Prs w p n hs) : Prs w.drew p n hs := h.below (drewBelow w)
theorem Prs.alloc {w : World} {p : Option Addr} {n : Nat} {hs : List Pr} (h : Prs w p n hs) (o : Obj) : Prs (w.alloc o) p n hs := h.below (boxed w o)
theorem Prs.nil (w : World) (p : Option Addr) : Prs w p 0 [] := ⟨rfl, fun _ h => absurd h (by omega)⟩

/-- The cells of pairs. -/
def pcells : List Row → List Pr → List Value
  | r :: rs, h :: hs => Row.val r :: .int .i64 h.2 :: pcells rs hs
  | _, _ => []
theorem pcells_length {rows : List Row} {hs : List Pr} (h : rows.length = hs.length) : (pcells rows hs).length = rows.length * 2 := by
  induction rows generalizing hs with
  | nil => cases hs <;> rfl
  | cons r rs ih =>
    cases hs with
    | nil => simp at h
    | cons x hs => simp only [pcells, List.length_cons, ih (by simpa using h)]; omega
theorem pcells_row {rows : List Row} {hs : List Pr} (h : rows.length = hs.length) {k : Nat} (hk : k < rows.length) : (pcells rows hs)[k * 2]? = some (Row.val rows[k]) ∧ (pcells rows hs)[k * 2 + 1]? = some (.int .i64 (bnd hs k)) := by
  induction rows generalizing hs k with
  | nil => simp at hk
  | cons r rs ih =>
    cases hs with
    | nil => simp at h
    | cons x hs =>
      cases k with
      | zero => exact ⟨rfl, rfl⟩
      | succ k =>
        have := ih (hs := hs) (by simpa using h) (k := k) (by simpa using hk)
        rw [show (k + 1) * 2 = k * 2 + 1 + 1 by omega]
        simp only [pcells, List.getElem?_cons_succ, List.getElem_cons_succ]
        exact this
theorem pcells_app {rows : List Row} {hs : List Pr} (h : rows.length = hs.length) (r : Row) (x : Pr) : pcells (rows ++ [r]) (hs ++ [x]) = pcells rows hs ++ [Row.val r, .int .i64 x.2] := by
  induction rows generalizing hs with
  | nil =>
    cases hs with
    | nil => rfl
    | cons y hs => simp at h
  | cons s rs ih =>
    cases hs with
    | nil => simp at h
    | cons y hs => simp [pcells, ih (hs := hs) (by simpa using h)]
theorem pcells_set {rows : List Row} {hs : List Pr} (h : rows.length = hs.length) {k : Nat} (hk : k < rows.length) (r : Row) (x : Pr) :
    ((pcells rows hs).set (k * 2) (Row.val r)).set (k * 2 + 1) (.int .i64 x.2) = pcells (rows.set k r) (hs.set k x) := by
  induction rows generalizing hs k with
  | nil => simp at hk
  | cons s rs ih =>
    cases hs with
    | nil => simp at h
    | cons y hs =>
      cases k with
      | zero => rfl
      | succ k =>
        have := ih (hs := hs) (by simpa using h) (k := k) (by simpa using hk)
        rw [show (k + 1) * 2 = k * 2 + 1 + 1 by omega]
        simp only [pcells, List.set_cons_succ]
        rw [this]
theorem pcells_set1 {rows : List Row} {hs : List Pr} (h : rows.length = hs.length) {k : Nat} (hk : k < rows.length) (b : Int) :
    (pcells rows hs).set (k * 2 + 1) (.int .i64 b) = pcells rows (hs.set k (nrm hs k, b)) := by
  have h1 := pcells_set h hk rows[k] (nrm hs k, b)
  have h2 : (pcells rows hs).set (k * 2) (Row.val rows[k]) = pcells rows hs := by
    have h3 := (pcells_row h hk).1
    have hl := pcells_length h
    rw [List.getElem?_eq_some_iff] at h3
    obtain ⟨h4, h5⟩ := h3
    rw [← h5]; exact List.set_getElem_self h4
  rw [h2, List.set_getElem_self] at h1
  exact h1

/-- Pairs of the call's own: each slice of numbers is a row of its own, no two in one block. E: the pairs' type. -/
structure OwnP (E : TypeId) (w : World) (lo hi : Nat) (p : Option Addr) (n c : Nat) (rows : List Row) (hs : List Pr) : Prop where
  outer : OwnV w E 2 lo hi p n c (pcells rows hs)
  len : rows.length = hs.length
  inner : ∀ k (h : k < rows.length), Own w lo hi rows[k].1 rows[k].2.1 rows[k].2.2 (nrm hs k)
  apart : rows.Pairwise fun r s => blk r.1 ≠ blk s.1 ∨ r.1 = none
def OwnPM (E : TypeId) (w : World) (lo hi : Nat) (p : Option Addr) (n c : Nat) (hs : List Pr) : Prop := ∃ rows, OwnP E w lo hi p n c rows hs

section
variable {E : TypeId} {w w' : World} {lo hi lo' hi' : Nat} {p : Option Addr} {n c : Nat} {rows : List Row} {hs : List Pr}
theorem OwnP.count (h : OwnP E w lo hi p n c rows hs) : rows.length = n := by
  have := h.outer.len
  rw [pcells_length h.len] at this
  omega
theorem OwnP.within (h : OwnP E w lo hi p n c rows hs) (hw : Within lo' hi' w w') (hd : hi ≤ lo' ∨ hi' ≤ lo) : OwnP E w' lo hi p n c rows hs :=
  ⟨h.outer.within hw hd, h.len, fun k hk => (h.inner k hk).within hw hd, h.apart⟩
theorem OwnP.below (h : OwnP E w lo hi p n c rows hs) (hb : Below w.heap.size w w') : OwnP E w' lo hi p n c rows hs :=
  ⟨h.outer.below hb, h.len, fun k hk => (h.inner k hk).below hb, h.apart⟩
theorem OwnP.widen (h : OwnP E w lo hi p n c rows hs) (hl : lo' ≤ lo) (hh : hi ≤ hi') : OwnP E w lo' hi' p n c rows hs :=
  ⟨h.outer.widen hl hh, h.len, fun k hk => (h.inner k hk).widen hl hh, h.apart⟩
theorem OwnP.up (h : OwnP E w lo hi p n c rows hs) : OwnP E w lo w.heap.size p n c rows hs :=
  ⟨h.outer.up, h.len, fun k hk => (h.inner k hk).up, h.apart⟩
theorem OwnP.drew (h : OwnP E w lo hi p n c rows hs) : OwnP E w.drew lo hi p n c rows hs := ⟨h.outer.drew, h.len, fun k hk => (h.inner k hk).drew, h.apart⟩
theorem OwnP.rd (h : OwnP E w lo hi p n c rows hs) : Prs w p n hs := by
  have hc := h.count
  have hl := h.len
  refine ⟨by omega, fun k hk => ?_⟩
  rcases h.outer.form with ⟨_, rfl, _⟩ | ⟨g, rfl, _⟩
  · omega
  · have hi := h.inner k (by omega)
    have hr := pcells_row h.len (k := k) (by omega)
    have hcell := h.outer.cell (k := k * 2) (by omega)
    have hcell2 := h.outer.cell (k := k * 2 + 1) (by omega)
    rw [hr.1] at hcell
    rw [hr.2] at hcell2
    have hcap : (rows[k]'(by omega)).2.1 ≤ (rows[k]'(by omega)).2.2 ∧ (rows[k]'(by omega)).2.2 ≤ 9223372036854775807 := by
      rcases hi.form with ⟨_, h1, h2⟩ | ⟨_, _, _, _, _, h1, h2⟩
      · omega
      · unfold maxLen at h2; omega
    refine ⟨g, 0, _, _, _, rfl, by rw [Nat.zero_add]; exact hcell, by rw [Nat.zero_add]; exact hcell2, hcap.1, hcap.2, hi.ints⟩
theorem OwnP.nil (E : TypeId) (w : World) (lo hi : Nat) : OwnP E w lo hi none 0 0 [] [] := ⟨OwnV.nil _ _ _ _ _, rfl, fun k h => absurd h (by simp), List.Pairwise.nil⟩
theorem OwnPM.within (h : OwnPM E w lo hi p n c hs) (hw : Within lo' hi' w w') (hd : hi ≤ lo' ∨ hi' ≤ lo) : OwnPM E w' lo hi p n c hs := by
  obtain ⟨rows, h⟩ := h; exact ⟨rows, h.within hw hd⟩
theorem OwnPM.below (h : OwnPM E w lo hi p n c hs) (hb : Below w.heap.size w w') : OwnPM E w' lo hi p n c hs := by
  obtain ⟨rows, h⟩ := h; exact ⟨rows, h.below hb⟩
theorem OwnPM.widen (h : OwnPM E w lo hi p n c hs) (hl : lo' ≤ lo) (hh : hi ≤ hi') : OwnPM E w lo' hi' p n c hs := by
  obtain ⟨rows, h⟩ := h; exact ⟨rows, h.widen hl hh⟩
theorem OwnPM.up (h : OwnPM E w lo hi p n c hs) : OwnPM E w lo w.heap.size p n c hs := by
  obtain ⟨rows, h⟩ := h; exact ⟨rows, h.up⟩
theorem OwnPM.rd (h : OwnPM E w lo hi p n c hs) : Prs w p n hs := by
  obtain ⟨rows, h⟩ := h; exact h.rd
theorem OwnPM.len (h : OwnPM E w lo hi p n c hs) : hs.length = n := h.rd.len
theorem OwnPM.small (h : OwnPM E w lo hi p n c hs) : n ≤ 9223372036854775807 := by
  obtain ⟨rows, h⟩ := h; exact h.outer.small
theorem OwnPM.nil (E : TypeId) (w : World) (lo hi : Nat) : OwnPM E w lo hi none 0 0 [] := ⟨[], OwnP.nil _ _ _ _⟩
end

/-- A pair is stored into the k-th place; its row is new. -/
theorem OwnP.put {E : TypeId} (hE : E ≠ 3) {w : World} {lo mid hi g : Nat} {n c : Nat} {rows : List Row} {hs : List Pr} (h : OwnP E w lo mid (some ⟨g, 0, none⟩) n c rows hs) {q : Option Addr} {m d : Nat} {ys : List Int}
    (hr : Own w mid hi q m d ys) (hlm : lo ≤ mid) (hmh : mid ≤ hi) (k : Nat) (hk : k < n) (b : Int) :
    OwnP E ((w.setCell ⟨g, k * 2, none⟩ (.slice q m d)).setCell ⟨g, k * 2 + 1, none⟩ (.int .i64 b)) lo hi (some ⟨g, 0, none⟩) n c (rows.set k (q, m, d)) (hs.set k (ys, b)) := by
  have hc := h.count
  have hl := h.len
  have keep : ∀ {lo' hi' : Nat} {p' : Option Addr} {n' c' : Nat} {zs : List Int}, Own w lo' hi' p' n' c' zs → Own ((w.setCell ⟨g, k * 2, none⟩ (.slice q m d)).setCell ⟨g, k * 2 + 1, none⟩ (.int .i64 b)) lo' hi' p' n' c' zs := fun hz =>
    (hz.kept (q := some ⟨g, 0, none⟩) (set_grown w g _ _) (h.outer.ne hz.v hE)).kept (q := some ⟨g, 0, none⟩) (set_grown _ g _ _) (h.outer.ne hz.v hE)
  refine ⟨⟨?_, fun a ha => Nat.lt_of_lt_of_le (h.outer.top a ha) hmh⟩, by simpa using hl, fun j hj => ?_, ?_⟩
  · rw [← pcells_set h.len (by omega) (q, m, d) (ys, b)]
    exact ((h.outer.row.stored (g := g) (cap := c) (k * 2) (.slice q m d)).1.stored (g := g) (cap := c) (k * 2 + 1) (.int .i64 b)).1
  · simp only [List.length_set] at hj
    rw [nrm, prAt_set (by omega)]
    by_cases hjk : k = j
    · subst hjk
      simp only [List.getElem_set_self, if_pos]
      exact (keep hr).widen hlm (Nat.le_refl _)
    · rw [if_neg hjk]
      simp only [List.getElem_set_ne hjk]
      exact (keep (h.inner j hj)).widen (Nat.le_refl _) hmh
  · refine pairwise_set (fun a b hab => ?_) h.apart k _ fun j hj hjk => ?_
    · rcases hab with h1 | h1
      · exact .inl fun e => h1 e.symm
      · cases hb : b.1 with
        | none => exact .inr rfl
        | some x => exact .inl (by rw [h1]; simp [blk])
    · exact hr.apart (h.inner j hj) (.inr (Nat.le_refl _))

end Go.Proofs.YtpfklkmmhdpphadGreatDoor

/- Contracts of the laws' helpers on a struct of a slice of numbers and a number (a half, a rational). Conditions: sizes. -/
namespace Go.Proofs.YtpfklkmmhdpphadGreatDoor
open Go.RowKit
set_option linter.unusedVariables false
set_option linter.unusedSimpArgs false
set_option maxRecDepth 100000

theorem Below.cells {w w1 : World} (hb : Below w.heap.size w w1) {a : Addr} {v : Value} (h : w.cell? a = some v) : w1.cell? a = some v :=
  (hb.cell (World.block_lt_of_cell? w a h)).trans h


/-- A new struct of a slice of numbers and a number. -/
def NewP (w : World) (n : Nat) (xs : List Int) (b : Int) (e : Ending) (w' : World) : Prop :=
  ∃ p c, e = .returned (.agg #[.slice p n c, .int .i64 b]) ∧ Own w' w.heap.size w'.heap.size p n c xs ∧ Below w.heap.size w w'

end Go.Proofs.YtpfklkmmhdpphadGreatDoor

/- More words for slices of pairs: made by make, grown by append, written in place. Conditions: none. -/
namespace Go.Proofs.YtpfklkmmhdpphadGreatDoor
open Go.RowKit
set_option linter.unusedVariables false
set_option linter.unusedSimpArgs false
set_option maxRecDepth 100000

def mixP (ys zs : List Pr) (k : Nat) : List Pr := ys.take k ++ zs.drop k
theorem mixP_zero (ys zs : List Pr) : mixP ys zs 0 = zs := by simp [mixP]
theorem mixP_all {ys zs : List Pr} {k : Nat} (h : ys.length ≤ k) (h' : zs.length ≤ k) : mixP ys zs k = ys := by
  simp [mixP, List.take_of_length_le h, List.drop_eq_nil_of_le h']
theorem mixP_set {ys zs : List Pr} {k : Nat} (h : k < ys.length) (h' : k < zs.length) : (mixP ys zs k).set k (prAt ys k) = mixP ys zs (k + 1) := by
  unfold mixP
  rw [take_prAt h, List.set_append_right _ _ (by simp; omega)]
  have e : k - (ys.take k).length = 0 := by simp; omega
  rw [e, List.drop_eq_getElem_cons h', List.set_cons_zero]
  simp
theorem mixP_at {ys zs : List Pr} {k : Nat} (h2 : k ≤ ys.length) : prAt (mixP ys zs k) k = prAt zs k := by
  have hl : (ys.take k).length = k := by simp; omega
  unfold mixP prAt
  simp [List.getD, List.getElem?_append_right, hl]
theorem mixP_length {ys zs : List Pr} {k : Nat} (h : k ≤ ys.length) (h' : ys.length = zs.length) : (mixP ys zs k).length = ys.length := by
  simp [mixP]; omega

theorem made_pairs (n : Nat) : (madeCells (Value.agg #[.slice none 0 0, .int .i64 0]).cells (n * 2)).toList = pcells (List.replicate n (none, 0, 0)) (List.replicate n ([], 0)) := by
  have e : (Value.agg #[.slice none 0 0, .int .i64 0]).cells = #[.slice none 0 0, .int .i64 0] := rfl
  rw [e]
  apply List.ext_getElem
  · rw [pcells_length (by simp)]; simp [size_madeCells]
  · intro i h1 h2
    simp only [madeCells, Array.getElem_toList, Array.getElem_map, Array.getElem_range]
    have hi : i < n * 2 := by simpa [size_madeCells] using h1
    have hr := pcells_row (rows := List.replicate n ((none, 0, 0) : Row)) (hs := List.replicate n (([], 0) : Pr)) (by simp) (k := i / 2) (by simp; omega)
    have hb : bnd (List.replicate n (([], 0) : Pr)) (i / 2) = 0 := by rw [bnd, prAt_eq (by simp; omega)]; simp
    rw [hb] at hr
    simp only [List.getElem_replicate] at hr
    rcases Nat.mod_two_eq_zero_or_one i with h0 | h0
    · have h3 := hr.1
      rw [show i / 2 * 2 = i by omega] at h3
      rw [List.getElem?_eq_getElem h2] at h3
      injection h3 with h3
      rw [h3]
      simp [h0, Row.val]
    · have h3 := hr.2
      rw [show i / 2 * 2 + 1 = i by omega] at h3
      rw [List.getElem?_eq_getElem h2] at h3
      injection h3 with h3
      rw [h3]
      simp [h0]

theorem made_ownP {E : TypeId} {w w1 : World} {n : Nat} (hown : w1.ownsRow w.heap.size E 2 (.slice (some ⟨w.heap.size, 0, none⟩) n n) n (madeCells (Value.agg #[.slice none 0 0, .int .i64 0]).cells (n * 2)).toList) :
    OwnP E w1 w.heap.size w1.heap.size (some ⟨w.heap.size, 0, none⟩) n n (List.replicate n (none, 0, 0)) (List.replicate n ([], 0)) := by
  rw [made_pairs] at hown
  refine ⟨⟨hown, fun a ha => by have := hown.lt a.block (by rw [ha]; rfl); exact this.2⟩, by simp, fun k hk => ?_, ?_⟩
  · simp only [List.getElem_replicate]
    rw [show nrm (List.replicate n (([], 0) : Pr)) k = [] by simp only [List.length_replicate] at hk; rw [nrm, prAt_eq (by simpa using hk)]; simp]
    exact Own.nil _ _ _
  · rw [List.pairwise_iff_getElem]
    intro i j _ _ _
    exact .inr (by simp)

/-- Behind the append of a pair whose row is new. w: where the row is known; W: at the append; W': behind it. -/
theorem OwnP.app {E : TypeId} (hE : E ≠ 3) {w W W' : World} {lo mid : Nat} {p p' : Option Addr} {n c c' : Nat} {rows : List Row} {hs : List Pr} (h : OwnP E w lo mid p n c rows hs)
    {hi : Nat} {q : Option Addr} {m d : Nat} {ys : List Int} {b : Int} (hr : Own w mid hi q m d ys) (hlm : lo ≤ mid)
    (hb : Below w.heap.size w W) (hv : OwnV W' E 2 lo W'.heap.size p' (n + 1) c' (pcells rows hs ++ [.slice q m d, .int .i64 b])) (hg : Grow W W' p p') :
    OwnP E W' lo W'.heap.size p' (n + 1) c' (rows ++ [(q, m, d)]) (hs ++ [(ys, b)]) := by
  have hc := h.count
  have hl := h.len
  have keep : ∀ {lo' hi' : Nat} {q' : Option Addr} {n' c' : Nat} {zs : List Int}, lo ≤ lo' → Own w lo' hi' q' n' c' zs → Own W' lo W'.heap.size q' n' c' zs := fun hlo hz =>
    ((hz.below hb).kept (q := p) hg.by_ ((h.outer.below hb).ne (hz.below hb).v hE)).up.widen hlo (Nat.le_refl _)
  refine ⟨by rw [pcells_app hl]; exact hv, by simp [hl], fun k hk => ?_, ?_⟩
  · by_cases hkl : k < rows.length
    · rw [nrm, prAt_app (by omega)]
      simp only [List.getElem_append_left hkl]
      exact keep (Nat.le_refl _) (h.inner k hkl)
    · simp only [List.length_append, List.length_cons, List.length_nil] at hk
      obtain rfl : k = rows.length := by omega
      have e : nrm (hs ++ [(ys, b)]) rows.length = ys := by rw [nrm, hl, prAt_last]
      rw [e]
      simp only [List.getElem_append_right (Nat.le_refl _), Nat.sub_self, List.getElem_cons_zero]
      exact keep hlm hr
  · rw [List.pairwise_append]
    refine ⟨h.apart, List.pairwise_singleton _ _, fun r hr1 s hs => ?_⟩
    simp only [List.mem_singleton] at hs
    subst hs
    obtain ⟨j, hj, rfl⟩ := List.getElem_of_mem hr1
    exact (h.inner j hj).apart hr (.inl (Nat.le_refl _))

/-- The number of one pair is written anew. -/
theorem OwnP.setB {E : TypeId} (hE : E ≠ 3) {w : World} {lo hi g : Nat} {n c : Nat} {rows : List Row} {hs : List Pr} (h : OwnP E w lo hi (some ⟨g, 0, none⟩) n c rows hs) (k : Nat) (hk : k < n) (b : Int) :
    OwnP E (w.setCell ⟨g, k * 2 + 1, none⟩ (.int .i64 b)) lo hi (some ⟨g, 0, none⟩) n c rows (hs.set k (nrm hs k, b)) := by
  have hc := h.count
  have hl := h.len
  refine ⟨⟨?_, h.outer.top⟩, by simpa using hl, fun j hj => ?_, h.apart⟩
  · rw [← pcells_set1 hl (by omega)]
    exact (h.outer.row.stored (g := g) (cap := c) (k * 2 + 1) (.int .i64 b)).1
  · have hin := (h.inner j hj).kept (q := some ⟨g, 0, none⟩) (set_grown w g (k * 2 + 1) (.int .i64 b)) (h.outer.ne (h.inner j hj).v hE)
    have e : nrm (hs.set k (nrm hs k, b)) j = nrm hs j := by
      rw [nrm, prAt_set (by omega)]
      split
      · rename_i e; subst e; rfl
      · rfl
    rw [e]; exact hin

theorem Own.emptyOf {w : World} {lo hi : Nat} {p : Option Addr} {n c : Nat} {xs : List Int} (h : Own w lo hi p n c xs) (h0 : n = 0) : xs = [] := by
  have := h.len; exact List.length_eq_zero_iff.1 (by omega)

/-- One row of the pairs is written anew. -/
theorem OwnP.mark {E : TypeId} (hE : E ≠ 3) {w : World} {lo hi : Nat} {p : Option Addr} {n c : Nat} {rows : List Row} {hs : List Pr} (h : OwnP E w lo hi p n c rows hs) (k : Nat) (hk : k < rows.length) :
    ∃ lo' hi', Own w lo' hi' rows[k].1 rows[k].2.1 rows[k].2.2 (nrm hs k) ∧ ∀ (w' : World) (ys : List Int), Own w' lo' hi' rows[k].1 rows[k].2.1 rows[k].2.2 ys → Within lo' hi' w w' → OwnP E w' lo hi p n c rows (hs.set k (ys, bnd hs k)) ∧ Within lo hi w w' := by
  have hT : 3 ≠ E := fun e => hE e.symm
  have hc := h.count
  have hl := h.len
  have hin := h.inner k hk
  have hcs : ∀ ys : List Int, pcells rows (hs.set k (ys, bnd hs k)) = pcells rows hs := fun ys => by
    have h1 := pcells_set hl hk rows[k] (ys, bnd hs k)
    have h2 := pcells_set hl hk rows[k] (nrm hs k, bnd hs k)
    rw [List.set_getElem_self] at h1 h2
    rw [← h1]
    have e : hs.set k (nrm hs k, bnd hs k) = hs := by
      rw [show (nrm hs k, bnd hs k) = prAt hs k from rfl, prAt_eq (by omega)]; exact List.set_getElem_self _
    rw [e] at h2
    exact h2
  have hlens : ∀ ys : List Int, rows.length = (hs.set k (ys, bnd hs k)).length := fun ys => by simpa using hl
  rcases hin.form with ⟨hp, hn, hcc⟩ | ⟨g, hp, hg1, hg2, hg3, _⟩
  · have hlh : lo ≤ hi := by
      rcases h.outer.form with ⟨_, hn0, _⟩ | ⟨g, _, h1, h2, _⟩
      · omega
      · omega
    have e0 := hin.emptyOf hn
    refine ⟨lo, lo, ?_, fun w' ys ho hw => ?_⟩
    · rw [hp, hn, hcc, e0]; exact Own.nil _ _ _
    · have e1 := ho.emptyOf hn
      subst e1
      have e2 : hs.set k ([], bnd hs k) = hs := by
        rw [← e0, show (nrm hs k, bnd hs k) = prAt hs k from rfl, prAt_eq (by omega)]; exact List.set_getElem_self _
      rw [e2]
      exact ⟨h.within hw (.inr (Nat.le_refl _)), hw.wide (Nat.le_refl _) hlh⟩
  · refine ⟨g, g + 1, ?_, fun w' ys ho hw => ⟨⟨?_, hlens ys, fun j hj => ?_, h.apart⟩, hw.wide hg1 hg2⟩⟩
    · rw [hp] at hin ⊢; exact hin.tight
    · rw [hcs]
      exact h.outer.kept (q := rows[k].1) (by rw [hp]; exact hw.grownAt) (hin.v.ne h.outer hT)
    · rw [nrm, prAt_set (by omega)]
      by_cases hjk : k = j
      · subst hjk
        rw [if_pos rfl]
        exact ho.widen hg1 hg2
      · rw [if_neg hjk]
        have hap : blk rows[k].1 ≠ blk rows[j].1 ∨ rows[j].1 = none := by
          have h2 := List.pairwise_iff_getElem.1 h.apart
          by_cases hlt : k < j
          · rcases h2 k j hk hj hlt with h3 | h3
            · exact .inl h3
            · rw [hp] at h3; cases h3
          · rcases h2 j k hj hk (by omega) with h3 | h3
            · exact .inl fun e => h3 e.symm
            · exact .inr h3
        exact (h.inner j hj).kept (q := rows[k].1) (by rw [hp]; exact hw.grownAt) hap

theorem OwnP.rowAt {E : TypeId} {w : World} {lo hi : Nat} {p : Option Addr} {n c : Nat} {rows : List Row} {hs : List Pr} (h : OwnP E w lo hi p n c rows hs) (k : Nat) (hlt : k < n) (hk : k < rows.length) :
    ∃ g, p = some ⟨g, 0, none⟩ ∧ lo ≤ g ∧ g < hi ∧ w.cell? ⟨g, k * 2, none⟩ = some (.slice rows[k].1 rows[k].2.1 rows[k].2.2) ∧ w.cell? ⟨g, k * 2 + 1, none⟩ = some (.int .i64 (bnd hs k)) ∧ (∀ j, w.frozen? ⟨g, j, none⟩ = false) := by
  rcases h.outer.form with ⟨_, rfl, _⟩ | ⟨g, rfl, h1, h2, _⟩
  · omega
  · have hr := pcells_row h.len (k := k) hk
    have hcell := h.outer.cell (k := k * 2) (by omega)
    have hcell2 := h.outer.cell (k := k * 2 + 1) (by omega)
    rw [hr.1] at hcell
    rw [hr.2] at hcell2
    exact ⟨g, rfl, h1, h2, hcell, hcell2, h.outer.frozen⟩

/-- The empty slice of pairs. -/
theorem OwnP.empty (E : TypeId) (w : World) : OwnP E (w.alloc (.cells #[] E)) w.heap.size (w.heap.size + 1) (some ⟨w.heap.size, 0, none⟩) 0 0 [] [] :=
  ⟨⟨World.ownsRow_made w #[] 0 (Nat.le_refl _) (Nat.zero_le _) rfl, fun a ha => by injection ha with ha; subst ha; exact Nat.lt_succ_self _⟩, rfl, fun k h => absurd h (by simp), List.Pairwise.nil⟩

/-- The slices of numbers of pairs. -/
def nrms (hs : List Pr) : List (List Int) := hs.map (·.1)
theorem nrms_length (hs : List Pr) : (nrms hs).length = hs.length := by simp [nrms]
theorem nrms_nth {hs : List Pr} {k : Nat} (h : k < hs.length) : nthR (nrms hs) k = nrm hs k := by
  rw [nthR_eq (by rw [nrms_length]; exact h), nrm, prAt_eq h]; simp [nrms]
def totH (hs : List Pr) : Nat := tot (nrms hs)
theorem totH_take {hs : List Pr} {k : Nat} (h : k < hs.length) : totH (hs.take (k + 1)) = totH (hs.take k) + (nrm hs k).length := by
  unfold totH
  have := tot_take (xss := nrms hs) (k := k) (by rw [nrms_length]; exact h)
  rw [nrms_nth h] at this
  simpa [nrms, List.map_take] using this
theorem totH_le (hs : List Pr) (k : Nat) : totH (hs.take k) ≤ totH hs := by
  have := tot_le (nrms hs) k
  simpa [totH, nrms, List.map_take] using this
theorem len_le_totH {hs : List Pr} {k : Nat} (h : k < hs.length) : (nrm hs k).length ≤ totH hs := by
  have := totH_le hs (k + 1)
  rw [totH_take h] at this
  omega

/-- The numbers from k on, in pairs whose slices are as long as those of hs. -/
def upP : Int → List Pr → List Pr
  | _, [] => []
  | k, h :: r => (upFrom k h.1.length, k + (h.1.length : Int)) :: upP (k + (h.1.length : Int) + 1) r
theorem upP_length (hs : List Pr) : ∀ k, (upP k hs).length = hs.length := by
  induction hs with
  | nil => intro k; rfl
  | cons x r ih => intro k; simp [upP, ih]
theorem upP_at (hs : List Pr) : ∀ (k0 : Int) (k : Nat), k < hs.length → prAt (upP k0 hs) k = (upFrom (k0 + (totH (hs.take k) : Nat) + k) (nrm hs k).length, k0 + (totH (hs.take k) : Nat) + k + ((nrm hs k).length : Int)) := by
  induction hs with
  | nil => intro k0 k h; simp at h
  | cons x r ih =>
    intro k0 k h
    cases k with
    | zero => simp [prAt, nrm, upP, totH, nrms, tot]
    | succ k =>
      have h' : k < r.length := by simpa using h
      have := ih (k0 + (x.1.length : Int) + 1) k h'
      rw [show prAt (upP k0 (x :: r)) (k + 1) = prAt (upP (k0 + (x.1.length : Int) + 1) r) k by simp [prAt, upP], this,
        show nrm (x :: r) (k + 1) = nrm r k by simp [nrm, prAt]]
      have e : k0 + (x.1.length : Int) + 1 + (totH (r.take k) : Nat) + (k : Int) = k0 + (totH ((x :: r).take (k + 1)) : Nat) + ((k + 1 : Nat) : Int) := by
        simp only [List.take_succ_cons, totH, nrms, tot, List.map_cons, List.sum_cons]
        omega
      rw [e]

end Go.Proofs.YtpfklkmmhdpphadGreatDoor

/- Contracts of the laws' helpers on slices of halves. Conditions: sizes. -/
namespace Go.Proofs.YtpfklkmmhdpphadGreatDoor
open Go.RowKit
set_option linter.unusedVariables false
set_option linter.unusedSimpArgs false
set_option maxRecDepth 100000

theorem Tryz.infoHalf : (Tryz.prog.info? 36).map (fun i => (i.zero, i.size, i.bytes)) = some (some (.agg #[.slice none 0 0, .int .i64 0]), 2, 32) := by kernel_rfl
theorem halfNe : 36 ≠ 3 := by decide

def NewH (w : World) (n : Nat) (hs : List Pr) (e : Ending) (w' : World) : Prop :=
  ∃ p c, e = .returned (.slice p n c) ∧ OwnPM 36 w' w.heap.size w'.heap.size p n c hs ∧ Below w.heap.size w w'

end Go.Proofs.YtpfklkmmhdpphadGreatDoor

/- Contracts of the laws' helpers on regions. Conditions: sizes. -/
namespace Go.Proofs.YtpfklkmmhdpphadGreatDoor
open Go.RowKit
set_option linter.unusedVariables false
set_option linter.unusedSimpArgs false
set_option maxRecDepth 100000

/-- A new region. -/
def NewR (w : World) (z : Int) (n : Nat) (hs : List Pr) (e : Ending) (w' : World) : Prop :=
  ∃ p c, e = .returned (.agg #[.int .i64 z, .slice p n c]) ∧ OwnPM 36 w' w.heap.size w'.heap.size p n c hs ∧ Below w.heap.size w w'

theorem OwnPM.setBelow {E : TypeId} {w : World} {lo hi : Nat} {p : Option Addr} {n c : Nat} {hs : List Pr} (h : OwnPM E w lo hi p n c hs) {a : Addr} (ha : a.block < lo) (u : Value) : OwnPM E (w.setCell a u) lo hi p n c hs := by
  obtain ⟨rows, h⟩ := h
  refine ⟨rows, ⟨⟨ownsRow_setCell_below h.outer.row ha u, h.outer.top⟩, h.len, fun k hk => (h.inner k hk).setBelow ha u, h.apart⟩⟩

end Go.Proofs.YtpfklkmmhdpphadGreatDoor

/- Words for a block of two cells (a struct that the call keeps in memory), and append of a pair. Conditions: sizes. -/
namespace Go.Proofs.YtpfklkmmhdpphadGreatDoor
open Go.RowKit
set_option linter.unusedVariables false
set_option linter.unusedSimpArgs false
set_option maxRecDepth 100000

/-- Block b is the two cells v0, v1. -/
def Box2 (w : World) (b : Nat) (v0 v1 : Value) (T : TypeId) : Prop := w.heap[b]? = some (.cells #[v0, v1] T (0, 0))
section
variable {w w' : World} {b : Nat} {v0 v1 : Value} {T : TypeId}
theorem Box2.lt (h : Box2 w b v0 v1 T) : b < w.heap.size := (Array.getElem?_eq_some_iff.1 h).1
theorem Box2.c0 (h : Box2 w b v0 v1 T) : w.cell? ⟨b, 0, none⟩ = some v0 := by rw [cell_of_row w b 0 _ T (0, 0) h]; rfl
theorem Box2.c1 (h : Box2 w b v0 v1 T) : w.cell? ⟨b, 1, none⟩ = some v1 := by rw [cell_of_row w b 1 _ T (0, 0) h]; rfl
theorem Box2.fr (h : Box2 w b v0 v1 T) (k : Nat) : w.frozen? ⟨b, k, none⟩ = false := by unfold Box2 at h; simp [World.frozen?, h]
theorem Box2.new (w : World) (v0 v1 : Value) (T : TypeId) : Box2 (w.alloc (.cells #[v0, v1] T)) w.heap.size v0 v1 T := heap_alloc_new w _
theorem Box2.below (h : Box2 w b v0 v1 T) (hb : Below w.heap.size w w') : Box2 w' b v0 v1 T := (hb.block b h.lt).trans h
theorem Box2.within {lo hi : Nat} (h : Box2 w b v0 v1 T) (hw : Within lo hi w w') (hd : b < lo ∨ hi ≤ b) : Box2 w' b v0 v1 T := (hw.block b h.lt hd).trans h
theorem Box2.drew (h : Box2 w b v0 v1 T) : Box2 w.drew b v0 v1 T := h
theorem Box2.alloc (h : Box2 w b v0 v1 T) (o : Obj) : Box2 (w.alloc o) b v0 v1 T := h.below (boxed w o)
theorem Box2.grow (h : Box2 w b v0 v1 T) {p p' : Option Addr} (hg : Grow w w' p p') (hne : ∀ a, p = some a → a.block ≠ b) : Box2 w' b v0 v1 T := by
  refine (hg.by_.block b h.lt fun e => ?_).trans h
  cases p with
  | none => cases e
  | some a => simp only [blk, Option.map_some, Option.some.injEq] at e; exact hne a rfl e.symm
theorem Box2.other (h : Box2 w b v0 v1 T) {a : Addr} (u : Value) (hne : b ≠ a.block) : Box2 (w.setCell a u) b v0 v1 T := (Below.heap_setCell w a u b hne).trans h
theorem Box2.set1 (h : Box2 w b v0 v1 T) (u : Value) : Box2 (w.setCell ⟨b, 1, none⟩ u) b v0 u T := by
  have hlt := h.lt
  have h' : w.heap[b] = .cells #[v0, v1] T (0, 0) := by simpa [Box2, Array.getElem?_eq_getElem hlt] using h
  show (w.heap.modify b _)[b]? = _
  rw [Array.getElem?_eq_getElem (by simpa using hlt), Array.getElem_modify_self, h']
  rfl
theorem Box2.set0 (h : Box2 w b v0 v1 T) (u : Value) : Box2 (w.setCell ⟨b, 0, none⟩ u) b u v1 T := by
  have hlt := h.lt
  have h' : w.heap[b] = .cells #[v0, v1] T (0, 0) := by simpa [Box2, Array.getElem?_eq_getElem hlt] using h
  show (w.heap.modify b _)[b]? = _
  rw [Array.getElem?_eq_getElem (by simpa using hlt), Array.getElem_modify_self, h']
  rfl
end

theorem Within.cells2 {lo hi : Nat} {w w1 : World} (hw : Within lo hi w w1) {a : Addr} {v : Value} (h : w.cell? a = some v) (ha : a.block < lo ∨ hi ≤ a.block) : w1.cell? a = some v :=
  (World.cell?_of_block (hw.block a.block (World.block_lt_of_cell? w a h) ha)).trans h

/-- append(out, half): the walk has laid the pair in a block of its own. -/
theorem wp_append_half {o : Oper} {a : Act} {K : Act → World → Prop} {Q : Exit → Act → World → Prop} (s x : Operand)
    (ho : o.op = .call { callee := .builtin .append, args := #[s, x], argTypes := #[24, 24] }) (W : World) (lo hi : Nat) (p : Option Addr) (n c : Nat) (vs : List Value)
    (hs : a.eval s = .slice p n c) (hown : OwnV W 36 2 lo hi p n c vs) (g : Nat) (q : Option Addr) (m d : Nat) (b : Int) (hx : a.eval x = .slice (some ⟨g, 0, none⟩) 1 1) (hc : Box2 W g (.slice q m d) (.int .i64 b) 36)
    (hn : n ≤ 4398046510000) (hlo : lo ≤ W.heap.size)
    (h : ∀ p' c' W', OwnV W' 36 2 lo W'.heap.size p' (n + 1) c' (vs ++ [.slice q m d, .int .i64 b]) → Grow W W' p p' → K (a.put o.dst (.slice p' (n + 1) c')) W') :
    o.wp Tryz.prog a W K Q :=
  wp_appendV 36 24 2 32 (.agg #[.slice none 0 0, .int .i64 0]) Tryz.underlying24 Tryz.infoHalf rfl (by decide) s x ho W lo hi p n c _ hs hown _ 1 1 [.slice q m d, .int .i64 b] hx rfl
    (fun _ => ⟨_, rfl, fun j v hv => by
      match j, hv with
      | 0, hv => simp at hv; subst hv; simpa [Addr.add] using hc.c0
      | 1, hv => simp at hv; subst hv; simpa [Addr.add] using hc.c1⟩)
    (fun v hv => by simp at hv; rcases hv with rfl | rfl <;> rfl) (by omega) (by unfold maxLen; omega) hlo
    fun p' c' W' h2 h3 => h p' c' W' h2 h3

theorem append_half {ops : Array Oper} {rest : List Oper} {o : Oper} {a : Act} {Q : Exit → Act → World → Prop} (hgd : o.guard = none) (s x : Operand)
    (ho : o.op = .call { callee := .builtin .append, args := #[s, x], argTypes := #[24, 24] }) (W : World) (lo hi : Nat) (p : Option Addr) (n c : Nat) (vs : List Value)
    (hs : a.eval s = .slice p n c) (hown : OwnV W 36 2 lo hi p n c vs) (g : Nat) (q : Option Addr) (m d : Nat) (b : Int) (hx : a.eval x = .slice (some ⟨g, 0, none⟩) 1 1) (hc : Box2 W g (.slice q m d) (.int .i64 b) 36)
    (hn : n ≤ 4398046510000) (hlo : lo ≤ W.heap.size)
    (h : ∀ p' c' W', OwnV W' 36 2 lo W'.heap.size p' (n + 1) c' (vs ++ [.slice q m d, .int .i64 b]) → Grow W W' p p' → wpList Tryz.prog ops Q rest (a.put o.dst (.slice p' (n + 1) c')) W') :
    wpList Tryz.prog ops Q (o :: rest) a W :=
  wpList_plain hgd fun _ hK => wp_append_half s x ho W lo hi p n c vs hs hown g q m d b hx hc hn hlo fun p' c' W' h2 h3 => hK _ _ (h p' c' W' h2 h3)

theorem step_append_half {ops : Array Oper} {o : Oper} {a : Act} {K : Act → World → Prop} {E : Prop} {Q : Exit → Act → World → Prop} (hgd : o.guard = none) (s x : Operand)
    (ho : o.op = .call { callee := .builtin .append, args := #[s, x], argTypes := #[24, 24] }) (W : World) (lo hi : Nat) (p : Option Addr) (n c : Nat) (vs : List Value)
    (hs : a.eval s = .slice p n c) (hown : OwnV W 36 2 lo hi p n c vs) (g : Nat) (q : Option Addr) (m d : Nat) (b : Int) (hx : a.eval x = .slice (some ⟨g, 0, none⟩) 1 1) (hc : Box2 W g (.slice q m d) (.int .i64 b) 36)
    (hn : n ≤ 4398046510000) (hlo : lo ≤ W.heap.size)
    (h : ∀ p' c' W', OwnV W' 36 2 lo W'.heap.size p' (n + 1) c' (vs ++ [.slice q m d, .int .i64 b]) → Grow W W' p p' → K (a.put o.dst (.slice p' (n + 1) c')) W') :
    if Region.wanted o (yielded ops a.tmps) = true then Oper.wp Tryz.prog o a W K Q else E := by
  have hw : Region.wanted o (yielded ops a.tmps) = true := by simp [Region.wanted, hgd]
  rw [if_pos hw]
  exact wp_append_half s x ho W lo hi p n c vs hs hown g q m d b hx hc hn hlo h

end Go.Proofs.YtpfklkmmhdpphadGreatDoor

/- Contracts of both IsHalf and of both CompareRationals. Conditions: sizes. -/
namespace Go.Proofs.YtpfklkmmhdpphadGreatDoor
open Go.RowKit
set_option linter.unusedVariables false
set_option linter.unusedSimpArgs false
set_option maxRecDepth 100000

def isHalf (z : Int) (xs : List Int) (b : Int) : Bool := inR z 1 3 && (decide ((xs.length : Int) = z) && (allR xs (-20) 20 && (decide (0 < gcdL xs) && inR b (-200) 200)))

theorem allR_in62 {xs : List Int} {lo hi : Int} (h : allR xs lo hi = true) (h1 : -4611686018427387904 ≤ lo) (h2 : hi ≤ 4611686018427387904) : ∀ k, k < xs.length → In62 (nth xs k) := fun k hk => by
  have := allR_nth h k hk
  unfold In62; omega

theorem implIsHalf_any (z : Int) (p : Option Addr) (n c : Nat) (xs : List Int) (b : Int) (w : World) (hn : n ≤ 9223372036854775807) (hx : Ints w p n xs) :
    Calls Tryz.prog 19 #[.int .i64 z, .agg #[.slice p n c, .int .i64 b]] w (Ret (.bool (isHalf z xs b)) w) := by
  have hl := Lib.hid hx.len
  have hx1 := hx.alloc (.cells #[.slice p n c, .int .i64 b] 36)
  cases h1 : inR z 1 3
  · go_enter Tryz.func19, Tryz.ntmps19
    go_wp2_with (go_at_call 57; (with_reducible refine (within_any _ _ _ _).mono ?_); rintro e w' ⟨rfl, rfl⟩)
    go_ret
    exact ⟨ret_bool (by simp [isHalf, h1]), boxed _ _⟩
  by_cases h2 : (n : Int) = z
  · subst h2
    cases h3 : allR xs (-20) 20
    · go_enter Tryz.func19, Tryz.ntmps19
      go_wp2_with (first | (go_at_call 57; (with_reducible refine (within_any _ _ _ _).mono ?_); rintro e w' ⟨rfl, rfl⟩) | (go_at_call 58; (with_reducible refine (allWithin_any _ _ _ _ _ _ _ hx1 hn).mono ?_); rintro e w' ⟨rfl, rfl⟩))
      go_ret
      exact ⟨ret_bool (by simp [isHalf, h3]), boxed _ _⟩
    have hB := Lib.hid (allR_in62 h3 (by decide) (by decide))
    by_cases h4 : 0 < gcdL xs
    · cases h5 : inR b (-200) 200
      all_goals
        go_enter Tryz.func19, Tryz.ntmps19
        go_wp2_with (first | (go_at_call 57; (with_reducible refine (within_any _ _ _ _).mono ?_); rintro e w' ⟨rfl, rfl⟩) | (go_at_call 58; (with_reducible refine (allWithin_any _ _ _ _ _ _ _ hx1 hn).mono ?_); rintro e w' ⟨rfl, rfl⟩) | (go_at_call 59; (with_reducible refine (gcdAll_any _ _ _ _ _ hn hx1 hB.out).mono ?_); rintro e w' ⟨rfl, y, rfl⟩))
        go_ret
        exact ⟨ret_bool (by simp [isHalf, h1, h3, h4, h5, hl.out]), Below.drawn (boxed _ _) _⟩
    · go_enter Tryz.func19, Tryz.ntmps19
      go_wp2_with (first | (go_at_call 57; (with_reducible refine (within_any _ _ _ _).mono ?_); rintro e w' ⟨rfl, rfl⟩) | (go_at_call 58; (with_reducible refine (allWithin_any _ _ _ _ _ _ _ hx1 hn).mono ?_); rintro e w' ⟨rfl, rfl⟩) | (go_at_call 59; (with_reducible refine (gcdAll_any _ _ _ _ _ hn hx1 hB.out).mono ?_); rintro e w' ⟨rfl, y, rfl⟩))
      go_ret
      exact ⟨ret_bool (by rw [isHalf, show decide (0 < gcdL xs) = false from decide_eq_false (by omega)]; simp), Below.drawn (boxed _ _) _⟩
  · go_enter Tryz.func19, Tryz.ntmps19
    go_wp2_with (go_at_call 57; (with_reducible refine (within_any _ _ _ _).mono ?_); rintro e w' ⟨rfl, rfl⟩)
    go_ret
    exact ⟨ret_bool (by simp [isHalf, hl.out, h2]), boxed _ _⟩

theorem specIsHalf_any (z : Int) (p : Option Addr) (n c : Nat) (xs : List Int) (b : Int) (w : World) (hn : n ≤ 9223372036854775807) (hx : Ints w p n xs) :
    Calls Tryz.prog 20 #[.int .i64 z, .agg #[.slice p n c, .int .i64 b]] w (Ret (.bool (isHalf z xs b)) w) := by
  have hl := Lib.hid hx.len
  have hx1 := hx.alloc (.cells #[.slice p n c, .int .i64 b] 36)
  cases h1 : inR z 1 3
  · go_enter Tryz.func20, Tryz.ntmps20
    go_wp2_with (go_at_call 60; (with_reducible refine (l1In_any _ _ _ _).mono ?_); rintro e w' ⟨rfl, rfl⟩)
    go_ret
    exact ⟨ret_bool (by simp [isHalf, h1]), boxed _ _⟩
  by_cases h2 : (n : Int) = z
  · subst h2
    cases h3 : allR xs (-20) 20
    · go_enter Tryz.func20, Tryz.ntmps20
      go_wp2_with (first | (go_at_call 60; (with_reducible refine (l1In_any _ _ _ _).mono ?_); rintro e w' ⟨rfl, rfl⟩) | (go_at_call 61; (with_reducible refine (l2Small_any _ _ _ _ _ _ hx1 hn (by decide) (by decide)).mono ?_); rintro e w' ⟨rfl, rfl⟩))
      go_ret
      exact ⟨ret_bool (by simp [isHalf, h3]), boxed _ _⟩
    have hB := Lib.hid (allR_in62 h3 (by decide) (by decide))
    by_cases h4 : 0 < gcdL xs
    · cases h5 : inR b (-200) 200
      all_goals
        go_enter Tryz.func20, Tryz.ntmps20
        go_wp2_with (first | (go_at_call 60; (with_reducible refine (l1In_any _ _ _ _).mono ?_); rintro e w' ⟨rfl, rfl⟩) | (go_at_call 61; (with_reducible refine (l2Small_any _ _ _ _ _ _ hx1 hn (by decide) (by decide)).mono ?_); rintro e w' ⟨rfl, rfl⟩) | (go_at_call 62; (with_reducible refine (l2All_any _ _ _ _ _ hn hx1 hB.out).mono ?_); rintro e w' ⟨rfl, rfl⟩))
        go_ret
        exact ⟨ret_bool (by simp [isHalf, h1, h3, h4, h5, hl.out]), boxed _ _⟩
    · go_enter Tryz.func20, Tryz.ntmps20
      go_wp2_with (first | (go_at_call 60; (with_reducible refine (l1In_any _ _ _ _).mono ?_); rintro e w' ⟨rfl, rfl⟩) | (go_at_call 61; (with_reducible refine (l2Small_any _ _ _ _ _ _ hx1 hn (by decide) (by decide)).mono ?_); rintro e w' ⟨rfl, rfl⟩) | (go_at_call 62; (with_reducible refine (l2All_any _ _ _ _ _ hn hx1 hB.out).mono ?_); rintro e w' ⟨rfl, rfl⟩))
      go_ret
      exact ⟨ret_bool (by rw [isHalf, show decide (0 < gcdL xs) = false from decide_eq_false (by omega)]; simp), boxed _ _⟩
  · go_enter Tryz.func20, Tryz.ntmps20
    go_wp2_with (go_at_call 60; (with_reducible refine (l1In_any _ _ _ _).mono ?_); rintro e w' ⟨rfl, rfl⟩)
    go_ret
    exact ⟨ret_bool (by simp [isHalf, hl.out, h2]), boxed _ _⟩

end Go.Proofs.YtpfklkmmhdpphadGreatDoor
