/- Rows picked out of lists of the call's own by a test. Conditions: none. -/
import Derived.Test.YthdonnkekggbbaaGreatDoorTurn
import Derived.Test.YthdonnkekggbbaaGreatDoorJnVecFns2
namespace Go.Proofs.YthdonnkekggbbaaGreatDoor
open Go.RowKit
set_option linter.unusedVariables false
set_option linter.unusedSimpArgs false
set_option maxRecDepth 100000

/-- The places of the first k lists that a test takes. -/
def idxTo (t : List Int → Bool) (xss : List (List Int)) : Nat → List Nat
  | 0 => []
  | k + 1 => if t (nthR xss k) = true then idxTo t xss k ++ [k] else idxTo t xss k
theorem idxTo_lt (t : List Int → Bool) (xss : List (List Int)) : ∀ k, ∀ i ∈ idxTo t xss k, i < k
  | 0 => by simp [idxTo]
  | k + 1 => by
    intro i hi
    unfold idxTo at hi
    split at hi
    · rcases List.mem_append.1 hi with h | h
      · have := idxTo_lt t xss k i h; omega
      · simp only [List.mem_singleton] at h; omega
    · have := idxTo_lt t xss k i hi; omega
theorem idxTo_inc (t : List Int → Bool) (xss : List (List Int)) : ∀ k, (idxTo t xss k).Pairwise (· < ·)
  | 0 => by simp [idxTo]
  | k + 1 => by
    unfold idxTo
    split
    · rw [List.pairwise_append]
      refine ⟨idxTo_inc t xss k, List.pairwise_singleton _ _, fun a ha b hb => ?_⟩
      simp only [List.mem_singleton] at hb
      have := idxTo_lt t xss k a ha
      omega
    · exact idxTo_inc t xss k
theorem idxTo_filter (t : List Int → Bool) (xss : List (List Int)) : ∀ k, k ≤ xss.length → (idxTo t xss k).map (nthR xss) = (xss.take k).filter t
  | 0, _ => by simp [idxTo]
  | k + 1, hk => by
    have e : idxTo t xss (k + 1) = if t (nthR xss k) = true then idxTo t xss k ++ [k] else idxTo t xss k := rfl
    rw [e, take_nthR (by omega), List.filter_append, ← idxTo_filter t xss k (by omega)]
    by_cases h : t (nthR xss k) = true
    · simp [h]
    · simp [h]

def rowAtD (rows : List Row) (i : Nat) : Row := rows.getD i (none, 0, 0)
theorem rowAtD_eq {rows : List Row} {i : Nat} (h : i < rows.length) : rowAtD rows i = rows[i] := by simp [rowAtD, List.getD, h]
def rowsOf (rows : List Row) (idx : List Nat) : List Row := idx.map (rowAtD rows)

/-- Some rows of lists of the call's own, in a slice of their own. -/
theorem Own2.pick {w : World} {lo hi lo' : Nat} {p q : Option Addr} {n c m d : Nat} {rows : List Row} {xss : List (List Int)} (h : Own2 w lo hi p n c rows xss) {idx : List Nat} (hlt : ∀ i ∈ idx, i < rows.length) (hinc : idx.Pairwise (· < ·))
    (ho : OwnV w 29 1 lo' w.heap.size q m d ((rowsOf rows idx).map Row.val)) (h1 : lo ≤ lo') (h2 : hi ≤ w.heap.size) : Own2 w lo w.heap.size q m d (rowsOf rows idx) (idx.map (nthR xss)) := by
  refine ⟨ho.widen h1 (Nat.le_refl _), by simp [rowsOf], fun k hk => ?_, ?_⟩
  · simp only [rowsOf, List.length_map] at hk
    have hi := hlt idx[k] (List.getElem_mem hk)
    have e : nthR (idx.map (nthR xss)) k = nthR xss idx[k] := by rw [nthR_eq (by simpa using hk)]; simp
    rw [e]
    simp only [rowsOf, List.getElem_map, rowAtD_eq hi]
    exact (h.inner idx[k] hi).widen (Nat.le_refl _) h2
  · rw [rowsOf, List.pairwise_map]
    refine hinc.imp_of_mem fun {a b} ha hb hab => ?_
    rw [rowAtD_eq (hlt a ha), rowAtD_eq (hlt b hb)]
    exact List.pairwise_iff_getElem.1 h.apart a b (hlt a ha) (hlt b hb) hab

theorem rowsOf_app (rows : List Row) (idx : List Nat) (i : Nat) : rowsOf rows (idx ++ [i]) = rowsOf rows idx ++ [rowAtD rows i] := by simp [rowsOf]
theorem Own2.cellD {w : World} {lo hi : Nat} {p : Option Addr} {n c : Nat} {rows : List Row} {xss : List (List Int)} (h : Own2 w lo hi p n c rows xss) {k : Nat} (hk : k < n) :
    ∃ g, p = some ⟨g, 0, none⟩ ∧ w.cell? ⟨g, k, none⟩ = some (.slice (rowAtD rows k).1 (rowAtD rows k).2.1 (rowAtD rows k).2.2) ∧ Ints w (rowAtD rows k).1 (rowAtD rows k).2.1 (nthR xss k) := by
  have hkr : k < rows.length := by rw [h.count]; exact hk
  obtain ⟨g, hg, hc⟩ := h.rowAt k hk hkr
  exact ⟨g, hg, by rw [rowAtD_eq hkr]; exact hc, by rw [rowAtD_eq hkr]; exact (h.inner k hkr).ints⟩

theorem Own2.off {W W' : World} {lo hi : Nat} {p p' q : Option Addr} {n c : Nat} {rows : List Row} {xss : List (List Int)} (h : Own2 W lo hi q n c rows xss) (ho : Off lo hi p) (hg : Grow W W' p p') : Own2 W' lo hi q n c rows xss := by
  cases p with
  | none => exact h.within (lo' := 0) (hi' := 0) ⟨hg.by_.os, hg.by_.tape, hg.by_.output, hg.by_.size, fun k hk _ => hg.by_.block k hk (by simp [blk])⟩ (.inr (Nat.zero_le _))
  | some a =>
    have h1 := ho a.block rfl
    exact h.within (lo' := a.block) (hi' := a.block + 1) ⟨hg.by_.os, hg.by_.tape, hg.by_.output, hg.by_.size, fun k hk hd => hg.by_.block k hk (by
      simp only [blk, Option.map_some, ne_eq, Option.some.injEq]; omega)⟩ (by omega)

theorem Own2.rowI {w : World} {lo hi : Nat} {p : Option Addr} {n c : Nat} {rows : List Row} {xss : List (List Int)} (h : Own2 w lo hi p n c rows xss) {k : Nat} (hk : k < n) :
    Own w lo hi (rowAtD rows k).1 (rowAtD rows k).2.1 (rowAtD rows k).2.2 (nthR xss k) := by
  have hkr : k < rows.length := by rw [h.count]; exact hk
  rw [rowAtD_eq hkr]
  exact h.inner k hkr
theorem Own.some_ {w : World} {lo hi : Nat} {p : Option Addr} {n c : Nat} {xs : List Int} (h : Own w lo hi p n c xs) (hn : 1 ≤ n) : ∃ g, p = some ⟨g, 0, none⟩ := by
  rcases h.row.2 with ⟨hv, h0⟩ | ⟨g, cap, cur, hv, _⟩
  · omega
  · injection hv with h1 h2 h3
    exact ⟨g, h1⟩
theorem Own.other {w : World} {g n c g2 : Nat} {xs : List Int} (h : Own w g (g + 1) (some ⟨g, 0, none⟩) n c xs) (hne : g2 ≠ g) (k : Nat) (u : Value) : Own (w.setCell ⟨g2, k, none⟩ u) g (g + 1) (some ⟨g, 0, none⟩) n c xs :=
  h.within (lo' := g2) (hi' := g2 + 1) (Within.setCell (p := ⟨g2, k, none⟩) (Within.refl g2 (g2 + 1) w) (Nat.le_refl _) (Nat.lt_succ_self _) u) (by omega)
/-- Two rows of the call's own, apart. -/
structure Duo (w : World) (lo g1 g2 n c1 c2 : Nat) (xs ys : List Int) : Prop where
  a : Own w g1 (g1 + 1) (some ⟨g1, 0, none⟩) n c1 xs
  b : Own w g2 (g2 + 1) (some ⟨g2, 0, none⟩) n c2 ys
  ne : g1 ≠ g2
  la : lo ≤ g1
  lb : lo ≤ g2
theorem Duo.drew {w : World} {lo g1 g2 n c1 c2 : Nat} {xs ys : List Int} (h : Duo w lo g1 g2 n c1 c2 xs ys) : Duo w.drew lo g1 g2 n c1 c2 xs ys := ⟨h.a.drew, h.b.drew, h.ne, h.la, h.lb⟩
theorem Duo.symm {w : World} {lo g1 g2 n c1 c2 : Nat} {xs ys : List Int} (h : Duo w lo g1 g2 n c1 c2 xs ys) : Duo w lo g2 g1 n c2 c1 ys xs := ⟨h.b, h.a, fun e => h.ne e.symm, h.lb, h.la⟩
theorem Duo.setA {w : World} {lo g1 g2 n c1 c2 : Nat} {xs ys : List Int} (h : Duo w lo g1 g2 n c1 c2 xs ys) (k : Nat) (u : Int) : Duo (w.setCell ⟨g1, k, none⟩ (.int .i64 u)) lo g1 g2 n c1 c2 (xs.set k u) ys := ⟨h.a.set k u, h.b.other h.ne k _, h.ne, h.la, h.lb⟩
theorem Duo.setB {w : World} {lo g1 g2 n c1 c2 : Nat} {xs ys : List Int} (h : Duo w lo g1 g2 n c1 c2 xs ys) (k : Nat) (u : Int) : Duo (w.setCell ⟨g2, k, none⟩ (.int .i64 u)) lo g1 g2 n c1 c2 xs (ys.set k u) := (h.symm.setA k u).symm

end Go.Proofs.YthdonnkekggbbaaGreatDoor
