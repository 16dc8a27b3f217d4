/- The reference's draws of polygons, bent. Printed by polD2.py. Conditions: sizes. -/
import Derived.Test.YthdonnkekggbbaaGreatDoorPolD1
import Derived.Test.YthdonnkekggbbaaGreatDoorMDraw2
namespace Go.Proofs.YthdonnkekggbbaaGreatDoor
open Go.RowKit
set_option linter.unusedVariables false
set_option linter.unusedSimpArgs false
set_option maxRecDepth 100000

theorem nthR_set {M : List (List Int)} {i r : Nat} (x : List Int) (h : i < M.length) : nthR (M.set i x) r = if i = r then x else nthR M r := by
  by_cases hr : r < M.length
  · rw [nthR_eq (by simpa using hr), nthR_eq hr, List.getElem_set]
  · rw [if_neg (by omega)]
    simp [nthR, List.getD, List.getElem?_eq_none (show M.length ≤ r by omega), List.getElem?_eq_none (show (M.set i x).length ≤ r by simp; omega)]
theorem Own2.apartBlk {w : World} {lo hi : Nat} {p : Option Addr} {n c : Nat} {rows : List Row} {xss : List (List Int)} (h : Own2 w lo hi p n c rows xss) {i j : Nat} (hi : i < rows.length) (hj : j < rows.length) (hne : i ≠ j) :
    blk rows[i].1 ≠ blk rows[j].1 ∨ rows[i].1 = none := by
  have h2 := List.pairwise_iff_getElem.1 h.apart
  by_cases hlt : i < j
  · exact h2 i j hi hj hlt
  · rcases h2 j i hj hi (by omega) with h3 | h3
    · exact .inl fun e => h3 e.symm
    · cases hb : rows[i].1 with
      | none => exact .inr rfl
      | some a => exact .inl (by rw [h3]; simp [blk])
/-- Two rows are exchanged. -/
theorem Own2.swap {w : World} {lo top g : Nat} {n c : Nat} {rows : List Row} {xss : List (List Int)} (h : Own2 w lo top (some ⟨g, 0, none⟩) n c rows xss) {i j : Nat} (hi : i < rows.length) (hj : j < rows.length) (hij : i ≠ j) :
    Own2 ((w.setCell ⟨g, i, none⟩ (Row.val rows[j])).setCell ⟨g, j, none⟩ (Row.val rows[i])) lo top (some ⟨g, 0, none⟩) n c ((rows.set i rows[j]).set j rows[i]) ((xss.set i (nthR xss j)).set j (nthR xss i)) := by
  have hT : 29 ≠ 3 := by decide
  have hl := h.len
  have keep : ∀ {lo' hi' : Nat} {p' : Option Addr} {n' c' : Nat} {zs : List Int}, Own w lo' hi' p' n' c' zs → Own ((w.setCell ⟨g, i, none⟩ (Row.val rows[j])).setCell ⟨g, j, none⟩ (Row.val rows[i])) lo' hi' p' n' c' zs := fun hz =>
    (hz.kept (q := some ⟨g, 0, none⟩) (set_grown w g i _) (h.outer.ne hz.v hT)).kept (q := some ⟨g, 0, none⟩) (set_grown _ g j _) (h.outer.ne hz.v hT)
  refine ⟨⟨?_, h.outer.top⟩, by simpa using hl, fun k hk => ?_, ?_⟩
  · rw [List.map_set, List.map_set]
    exact ((h.outer.row.stored (g := g) (cap := c) i (Row.val rows[j])).1.stored (g := g) (cap := c) j (Row.val rows[i])).1
  · simp only [List.length_set] at hk
    have e : nthR ((xss.set i (nthR xss j)).set j (nthR xss i)) k = if j = k then nthR xss i else if i = k then nthR xss j else nthR xss k := by
      rw [nthR_set _ (by simp; omega), nthR_set _ (by omega)]
    rw [e]
    simp only [List.getElem_set]
    by_cases h1 : j = k
    · simp only [if_pos h1]; exact keep (h.inner i hi)
    · simp only [if_neg h1]
      by_cases h2 : i = k
      · simp only [if_pos h2]; exact keep (h.inner j hj)
      · simp only [if_neg h2]; exact keep (h.inner k hk)
  · have hs : ∀ k, k < rows.length → (if j = k then i else if i = k then j else k) < rows.length := fun k hk => by
      split
      · exact hi
      · split
        · exact hj
        · exact hk
    have key : ∀ k (hk : k < rows.length), ((rows.set i rows[j]).set j rows[i])[k]'(by simpa using hk) = rows[if j = k then i else if i = k then j else k]'(hs k hk) := fun k hk => by
      simp only [List.getElem_set]
      by_cases h1 : j = k
      · simp only [if_pos h1]
      · simp only [if_neg h1]
        by_cases h2 : i = k
        · simp only [if_pos h2]
        · simp only [if_neg h2]
    rw [List.pairwise_iff_getElem]
    intro a b ha hb hab
    simp only [List.length_set] at ha hb
    rw [key a ha, key b hb]
    refine h.apartBlk _ _ ?_
    split <;> split <;> (try split) <;> (try split) <;> omega

/-- A polygon that was drawn, bent. -/
def DrawnB (w : World) (g : Nat) (p : Option Addr) (n c : Nat) (xs : List Int) (e : Ending) (w' : World) : Prop :=
  ∃ (q : Option Addr) (k d : Nat) (rows : List Row) (yss : List (List Int)), e = .returned (.slice q k d) ∧ Own2 w' w.heap.size w'.heap.size q k d rows yss ∧ k ≤ 12 ∧ Drawn1 w g p n c xs w'

set_option maxHeartbeats 4000000 in
theorem l7Bent_any (g : Nat) (p : Option Addr) (n c : Nat) (xs : List Int) (w : World) (hn : n ≤ 1048576) (hx : Cur w g p n c xs) :
    Calls Tryz.prog 28 #[.pointer (some ⟨g, 0, none⟩)] w (DrawnB w g p n c xs) := by
  have hgl := hx.lt
  go_enter Tryz.func28, Tryz.ntmps28
  go_wp2_with fail
  refine (l7Draw_any _ _ _ _ _ _ _ hn hx (by omega) (by omega)).mono ?_
  rintro e w1 ⟨q, k, d, rows, yss, rfl, hown, hk3, hk12, hD⟩
  have hs1 := hD.2.size
  go_wp2_with fail
  refine (l1Below_any _ _ _ _ _ _ _ hn hD.1 (by omega) (by omega)).mono ?_
  rintro e V ⟨y, rfl, hy0, hy1, hD2⟩
  have hD3 := hD.step hD2
  have hs2 := hD2.2.size
  have hownV := hown.within hD2.2 (.inr (by omega))
  have hcnt := hownV.count
  have hlen := hownV.len
  clear hown hD hD2
  rcases hownV.outer.form with ⟨_, h0, _⟩ | ⟨gq, rfl, hg1, hg2, hg3, hkd, hdm⟩
  · omega
  have c0 : V.cell? ⟨gq, 0, none⟩ = some (Row.val (rows[0]'(by omega))) := by
    rw [hownV.outer.cell (k := 0) (by omega), List.getElem?_map, List.getElem?_eq_getElem (by omega)]; rfl
  have c1 : V.cell? ⟨gq, 1, none⟩ = some (Row.val (rows[1]'(by omega))) := by
    rw [hownV.outer.cell (k := 1) (by omega), List.getElem?_map, List.getElem?_eq_getElem (by omega)]; rfl
  have fz0 := hownV.outer.frozen 0
  have fz1 := hownV.outer.frozen 1
  obtain ⟨⟨qa, ma, da⟩, hra⟩ : ∃ r, rows[0]'(by omega) = r := ⟨_, rfl⟩
  obtain ⟨⟨qb, mb, db⟩, hrb⟩ : ∃ r, rows[1]'(by omega) = r := ⟨_, rfl⟩
  have z0 : (0 : Int) < (k : Int) := by omega
  have z1 : (1 : Int) < (k : Int) := by omega
  have z0n : 0 < k := by omega
  have z1n : 1 < k := by omega
  by_cases e0 : y = 0
  · subst e0
    have hsw := hownV.swap (i := 0) (j := 1) (by omega) (by omega) (by omega)
    rw [hra, hrb] at hsw
    rw [hra] at c0
    rw [hrb] at c1
    simp only [Row.val] at c0 c1 hsw
    have hD4 := hD3.low (((Below.refl w.heap.size V).setCell (p := ⟨gq, 0, none⟩) (by dsimp only; omega) (.slice qb mb db)).setCell (p := ⟨gq, 1, none⟩) (by dsimp only; omega) (.slice qa ma da)) (Nat.le_refl _) hgl
    go_wp2_with fail
    go_ret
    exact ⟨_, k, _, _, _, rfl, hsw.up, by omega, hD4⟩
  · have hy2 : (y == 0) = false := by simpa using e0
    by_cases e1 : y = 1
    · subst e1
      go_wp2_with fail
      refine (l1Once_any _ _ _ _ _ _ _ hn hD3.1 (by omega) (by omega)).mono ?_
      rintro e V2 ⟨t, rfl, hD4⟩
      obtain ⟨b, hb0, hb1, hbit⟩ := l1Bit_some t
      obtain ⟨m, hm⟩ : ∃ m : Nat, 2 + b = (m : Int) := ⟨(2 + b).toNat, by omega⟩
      have hm3 : m ≤ 3 := by omega
      have hw1 : IntKind.i64.wrap (2 + b) = (m : Int) := by rw [wrapEq, hm]; exact wrap64_id (by omega) (by omega)
      have Hm := Lib.hid hm
      clear hm
      have hD5 := hD3.step hD4
      have hs4 := hD4.2.size
      have hown2 := hownV.within hD4.2 (.inr (by omega))
      go_wp2_with (go_at_call 46; (with_reducible refine (hbit _).mono ?_); rintro e w' ⟨rfl, rfl⟩)
      refine (l2Draw_i _ _ _ _ m _ _ _ _ rfl hn hD5.1 (by omega) (by omega) (by omega)).mono ?_
      rintro e V3 ⟨q5, d5, zs, rfl, ho5, _, hD6⟩
      have hD7 := hD5.step hD6
      have hs6 := hD6.2.size
      have hown3 := hown2.within hD6.2 (.inr (by omega))
      have c3 : V3.cell? ⟨gq, 0, none⟩ = some (Row.val (rows[0]'(by omega))) := by
        rw [hown3.outer.cell (k := 0) (by omega), List.getElem?_map, List.getElem?_eq_getElem (by omega)]; rfl
      rw [hra] at c3
      simp only [Row.val] at c3
      have fz3 := hown3.outer.frozen 0
      have hst := (hown3.widen (Nat.le_refl _) (show w1.heap.size ≤ V2.heap.size by omega)).store (hi := V3.heap.size) ho5 (by omega) (by omega) 0 (by omega)
      have hD8 := hD7.low ((Below.refl w.heap.size V3).setCell (p := ⟨gq, 0, none⟩) (by dsimp only; omega) (.slice q5 m d5)) (Nat.le_refl _) hgl
      clear c0 c1 fz0 fz1
      go_wp2_with fail
      go_ret
      exact ⟨_, k, _, _, _, rfl, hst.up, by omega, hD8⟩
    · have hy3 : (y == 1) = false := by simpa using e1
      by_cases e2 : y = 2
      · subst e2
        have z2 : (2 : Int) ≤ (d : Int) := by omega
        have hpr := hownV.pre (k := 2) (by omega)
        go_wp2_with fail
        go_ret
        exact ⟨_, 2, _, _, _, rfl, hpr.up, by omega, hD3⟩
      · have hy4 : (y == 2) = false := by simpa using e2
        go_wp2_with fail
        go_ret
        exact ⟨_, k, _, _, _, rfl, hownV.up, by omega, hD3⟩

end Go.Proofs.YthdonnkekggbbaaGreatDoor
