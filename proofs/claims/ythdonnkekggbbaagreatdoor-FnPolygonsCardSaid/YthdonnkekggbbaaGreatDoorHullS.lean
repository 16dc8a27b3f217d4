/- The sort and the reversal of the points of a call's own, in the words of rows. Conditions: sizes. -/
import Derived.Test.YthdonnkekggbbaaGreatDoorHullD
import Derived.Test.YthdonnkekggbbaaGreatDoorJnTexts
import Derived.Test.YthdonnkekggbbaaGreatDoorShelf
import Derived.Lib.OwnBridge
namespace Go.Proofs.YthdonnkekggbbaaGreatDoor
open Go.RowKit
set_option linter.unusedVariables false
set_option linter.unusedSimpArgs false
set_option maxRecDepth 100000

theorem cmpL_trans : ∀ x y z : List Int, cmpL x y < 0 → cmpL y z < 0 → cmpL x z < 0
  | [], [], _, h, _ => by simp [cmpL] at h
  | [], _ :: _, [], _, h => by simp [cmpL] at h
  | [], _ :: _, _ :: _, _, _ => by simp [cmpL]
  | _ :: _, [], _, h, _ => by simp [cmpL] at h
  | _ :: _, _ :: _, [], _, h => by simp [cmpL] at h
  | a :: x, b :: y, c :: z, h1, h2 => by
    have ih := cmpL_trans x y z
    simp only [cmpL, cmpI] at h1 h2 ⊢
    by_cases e1 : a < b <;> by_cases e2 : b < a <;> by_cases e3 : b < c <;> by_cases e4 : c < b <;> by_cases e5 : a < c <;> by_cases e6 : c < a <;> simp_all <;> omega
theorem cmpL_ntrans : ∀ x y z : List Int, ¬ cmpL x y < 0 → ¬ cmpL y z < 0 → ¬ cmpL x z < 0
  | [], [], _, _, h => h
  | [], _ :: _, _, h, _ => absurd (by simp [cmpL]) h
  | _ :: _, [], [], h, _ => h
  | _ :: _, [], _ :: _, _, h => absurd (by simp [cmpL]) h
  | _ :: _, _ :: _, [], _, _ => by simp [cmpL]
  | a :: x, b :: y, c :: z, h1, h2 => by
    have ih := cmpL_ntrans x y z
    simp only [cmpL, cmpI] at h1 h2 ⊢
    by_cases e1 : a < b <;> by_cases e2 : b < a <;> by_cases e3 : b < c <;> by_cases e4 : c < b <;> by_cases e5 : a < c <;> by_cases e6 : c < a <;> simp_all <;> omega
theorem cmpL_self : ∀ x : List Int, cmpL x x = 0
  | [] => rfl
  | a :: x => by rw [cmpL, if_pos (cmpI_self a), cmpL_self x]

/-- The points, in an order of their own. -/
structure PtsS (B : Nat) (W : World) (g n c : Nat) (R : List Row) (xss : List (List Int)) (seq : List Nat) : Prop where
  hdr : OwnV W 29 1 g (g + 1) (some ⟨g, 0, none⟩) n c (seq.map fun i => Row.val (rowD R i))
  row : ∀ i, i < n → ∃ b o d, rowD R i = (some ⟨b, o, none⟩, 2, d) ∧ Ints W (some ⟨b, o, none⟩) 2 (nthR xss i) ∧ b < B ∧ b ≠ g
  gB : g < B
  len : seq.length = n
  lt : ∀ i ∈ seq, i < n

theorem PtsS.below {B : Nat} {W W' : World} {g n c : Nat} {R : List Row} {xss : List (List Int)} {seq : List Nat} (h : PtsS B W g n c R xss seq) (hb : Below B W W') : PtsS B W' g n c R xss seq := by
  have hB := hb
  refine ⟨h.hdr.within (lo' := B) (hi' := W'.heap.size + B + 1) ⟨hb.os, hb.tape, hb.output, hb.size, fun k hk hd => ?_⟩ (.inl h.gB), fun i hi => ?_, h.gB, h.len, h.lt⟩
  · rcases hd with hd | hd
    · exact hb.block k hd
    · have := hb.size; omega
  · obtain ⟨b, o, d, e, hi2, hlt, hne⟩ := h.row i hi
    refine ⟨b, o, d, e, ⟨hi2.len, fun k hk => ?_⟩, hlt, hne⟩
    obtain ⟨b', o', e', hc⟩ := hi2.cell k hk
    injection e' with e'; injection e' with e1 e2
    subst e1; subst e2
    exact ⟨b, o, rfl, (hb.cell hlt).trans hc⟩
theorem within_put {α : Type} [Inhabited α] (enc : α → Value) (w : World) (g m : Nat) (d : Array α) : Within g (g + 1) w (Sort.putRow enc (Sort.ahead w m) g 0 d) :=
  ⟨rfl, rfl, rfl, by simp [Sort.putRow, Sort.mapBlock, Sort.ahead], fun k hk hd => by
    simp [Sort.putRow, Sort.mapBlock, Sort.ahead, Array.getElem?_modify, show g ≠ k by omega]⟩
theorem below_grow (w : World) (os : Array Obj) : Below w.heap.size w (Sort.grow w os) :=
  ⟨rfl, rfl, rfl, by simp [Sort.grow], fun k hk => by simp [Sort.grow, Array.getElem?_append, hk]⟩

/-- Where the header block alone is written. -/
theorem PtsS.written {B : Nat} {W W' : World} {g n c : Nat} {R : List Row} {xss : List (List Int)} {seq seq' : List Nat} (h : PtsS B W g n c R xss seq) (hw : Within g (g + 1) W W') (hd : OwnV W' 29 1 g (g + 1) (some ⟨g, 0, none⟩) n c (seq'.map fun i => Row.val (rowD R i))) (hl : seq'.length = n) (hlt : ∀ i ∈ seq', i < n) : PtsS B W' g n c R xss seq' := by
  refine ⟨hd, fun i hi => ?_, h.gB, hl, hlt⟩
  obtain ⟨b, o, d, e, hi2, hb, hne⟩ := h.row i hi
  exact ⟨b, o, d, e, hi2.within hw (fun a ha => by injection ha with ha; subst ha; dsimp only; omega), hb, hne⟩

theorem reverse_any {B : Nat} {W : World} {g n c : Nat} {R : List Row} {xss : List (List Int)} {seq : List Nat} (h : PtsS B W g n c R xss seq) (hn : n ≤ 1000) :
    Calls Tryz.prog 41 #[.slice (some ⟨g, 0, none⟩) n c] W fun e w' => e = .returned (.tuple #[]) ∧ PtsS B w' g n c R xss seq.reverse ∧ Within g (g + 1) W w' := by
  obtain ⟨g', cap, e, hlo, _, _, _, _, hH⟩ := Lib.holds_of_ownsRow (zs := seq) h.hdr.row (by simp)
  injection e with e _ ec
  injection e with e
  injection e with e
  subst e; subst ec
  have hc := Tryz.slices_Reverse (fun i : Nat => Row.val (rowD R i)) (fun _ => rfl) g 0 c seq W hH (by rw [h.len]; omega)
  rw [h.len] at hc
  refine hc.mono ?_
  rintro e w' ⟨he, m, rfl⟩
  refine ⟨he, h.written (within_put _ W g m _) ⟨?_, h.hdr.top⟩ (by simp [h.len]) (fun i hi => h.lt i (by simpa using hi)), within_put _ W g m _⟩
  have := Lib.ownsRow_putRow (q := m) (ys := seq.reverse) h.hdr.row (by simp [h.len]) (Nat.le_refl n)
  rw [List.take_of_length_le (by simp [h.len])] at this
  exact this

theorem range_vals (R : List Row) : (List.range R.length).map (fun i => Row.val (rowD R i)) = R.map Row.val := by
  refine List.ext_getElem (by simp) fun i h1 h2 => ?_
  simp only [List.length_map] at h2
  simp [rowD_eq h2]
theorem ptsOf {w : World} {lo hi g n c : Nat} {R : List Row} {xss : List (List Int)} (h : Own2 w lo hi (some ⟨g, 0, none⟩) n c R xss) (h2 : ∀ k, k < n → (nthR xss k).length = 2) : PtsS w.heap.size w g n c R xss (List.range n) := by
  have hcnt := h.count
  refine ⟨⟨?_, fun a ha => by injection ha with ha; subst ha; exact Nat.lt_succ_self _⟩, fun i hi => ?_, (h.outer.lt _ rfl).2.2, by simp, fun i hi => by simpa using hi⟩
  · have hr := h.outer.row
    rw [← range_vals, hcnt] at hr
    refine ⟨hr.1, ?_⟩
    rcases hr.2 with h0 | ⟨g', cap, cur, hv, hl, hg, hr'⟩
    · exact .inl h0
    · refine .inr ⟨g', cap, cur, hv, ?_, hg, hr'⟩
      injection hv with hp _ _
      injection hp with hp
      injection hp with hp
      omega
  · have hir : i < R.length := by rw [hcnt]; exact hi
    have hin := h.inner i hir
    have hl2 : R[i].2.1 = 2 := by rw [← hin.len]; exact h2 i hi
    rw [hl2] at hin
    obtain ⟨b, hb⟩ : ∃ b, R[i].1 = some ⟨b, 0, none⟩ := by
      rcases hin.v.form with ⟨_, h0, _⟩ | ⟨b, hb, _⟩
      · omega
      · exact ⟨b, hb⟩
    refine ⟨b, 0, R[i].2.2, by rw [rowD_eq hir, ← hb, ← hl2], by rw [← hb]; exact hin.ints, ?_, ?_⟩
    · exact (hin.lt _ hb).2.2
    · rintro rfl
      rcases h.outer.ne hin.v (by decide) with h1 | h1
      · rw [hb] at h1; exact h1 rfl
      · rw [hb] at h1; cases h1

theorem clamp_map {R : List Row} {n : Nat} {seq : List Nat} (h : ∀ i ∈ seq, i < n) : seq.map (fun i => Row.val (rowD R (min i (n - 1)))) = seq.map fun i => Row.val (rowD R i) :=
  List.map_congr_left fun i hi => by have := h i hi; rw [show min i (n - 1) = i by omega]

set_option maxHeartbeats 1000000 in
theorem sort_any {w : World} {g n c : Nat} {R : List Row} {xss : List (List Int)} (h : PtsS w.heap.size w g n c R xss (List.range n)) (h1 : 1 ≤ n) (hn : n ≤ 1000) :
    Calls Tryz.prog 38 #[.slice (some ⟨g, 0, none⟩) n c, .func (.func 39) #[] #[]] w fun e w' => e = .returned (.tuple #[]) ∧ ∃ seq, PtsS w.heap.size w' g n c R xss seq ∧ Below g w w' ∧ (∀ i, i ∈ seq ↔ i < n) ∧ (seq.map (nthR xss)).Pairwise (fun a b => ¬ cmpL b a < 0) := by
  have hrow := h.hdr.row
  rw [← clamp_map (fun i hi => by simpa using hi)] at hrow
  obtain ⟨g', cap, e, hlo, hgw, _, _, _, hH⟩ := Lib.holds_of_ownsRow (zs := List.range n) hrow (by simp)
  injection e with e _ ec
  injection e with e
  injection e with e
  subst e; subst ec
  have hlt : ∀ x y : Nat, ltOf (fun i j => cmpL (nthR xss (min i (n - 1))) (nthR xss (min j (n - 1)))) x y = decide (cmpL (nthR xss (min x (n - 1))) (nthR xss (min y (n - 1))) < 0) := fun _ _ => rfl
  have hO : Sort.SWO (ltOf fun i j : Nat => cmpL (nthR xss (min i (n - 1))) (nthR xss (min j (n - 1)))) :=
    ⟨fun x => by rw [hlt, cmpL_self]; simp, fun x y z h1 h2 => by rw [hlt] at *; simp only [decide_eq_true_eq] at *; exact cmpL_trans _ _ _ h1 h2,
      fun x y z h1 h2 => by rw [hlt] at *; simp only [decide_eq_false_iff_not] at *; exact cmpL_ntrans _ _ _ h1 h2⟩
  have eg : ∀ args w, (callFunc 39 args).run Tryz.prog w = .ok (.enter 39 args) w := enters_of Tryz.func39 (by kernel_rfl) rfl
  have hcmp : CmpLays1 Tryz.prog 39 #[] (fun i : Nat => Row.val (rowD R (min i (n - 1)))) (fun i j => cmpL (nthR xss (min i (n - 1))) (nthR xss (min j (n - 1)))) g 0 (List.range n).toArray.size w := fun m os dk _ x y => by
    have hw := within_put (fun i : Nat => Row.val (rowD R (min i (n - 1)))) w g m dk
    have hW : ∀ i : Nat, ∃ b o d, rowD R (min i (n - 1)) = (some ⟨b, o, none⟩, 2, d) ∧ Ints (sortWorld (fun i : Nat => Row.val (rowD R (min i (n - 1)))) w g 0 m dk os) (some ⟨b, o, none⟩) 2 (nthR xss (min i (n - 1))) := fun i => by
      obtain ⟨b, o, d, e, hi2, hb, hne⟩ := h.row (min i (n - 1)) (by omega)
      exact ⟨b, o, d, e, (hi2.within hw (fun a ha => by injection ha with ha; subst ha; dsimp only; omega)).below (below_grow _ os)⟩
    obtain ⟨b1, o1, d1, e1, i1⟩ := hW x
    obtain ⟨b2, o2, d2, e2, i2⟩ := hW y
    have hc := slicesCompare_any _ _ 2 d1 d2 _ _ _ (by omega) i1 i2
    dsimp only
    rw [e1, e2]
    refine hc.mono ?_
    rintro e w' ⟨he, hw'⟩
    exact ⟨he, 0, #[], by rw [← hw']; simp [World.drewN]⟩
  have hc := Tryz.slices_SortFunc (fun i : Nat => Row.val (rowD R (min i (n - 1)))) (fun _ => rfl) (fun i j => cmpL (nthR xss (min i (n - 1))) (nthR xss (min j (n - 1)))) hO 39 #[] g 0 c (List.range n).toArray w eg hcmp hH hgw (by simp; omega)
  rw [show (List.range n).toArray.size = n by simp] at hc
  refine hc.mono ?_
  rintro e w' ⟨he, d', m, os, hp, hs, rfl⟩
  have hsz : d'.size = n := by have := hp.1; simpa using this
  have hpm : d'.toList.Perm (List.range n) := by
    have := hp.2.2
    rw [show d'.extract 0 n = d' by rw [← hsz]; simp, show (List.range n).toArray.extract 0 n = (List.range n).toArray by
      have : (List.range n).toArray.size = n := by simp
      conv => lhs; arg 3; rw [← this]
      simp] at this
    exact this
  have hmem : ∀ i, i ∈ d'.toList ↔ i < n := fun i => by rw [hpm.mem_iff]; simp
  have hlen : d'.toList.length = n := by simpa using hsz
  have hbg := below_grow (Sort.putRow (fun i : Nat => Row.val (rowD R (min i (n - 1)))) (Sort.ahead w m) g 0 d') os
  have hown : OwnV (Sort.putRow (fun i : Nat => Row.val (rowD R (min i (n - 1)))) (Sort.ahead w m) g 0 d') 29 1 g (g + 1) (some ⟨g, 0, none⟩) n c (d'.toList.map fun i => Row.val (rowD R i)) := by
    refine ⟨?_, h.hdr.top⟩
    have := Lib.ownsRow_putRow (q := m) (ys := d'.toList) hrow hlen (Nat.le_refl n)
    rw [List.take_of_length_le (by omega), clamp_map (fun i hi => (hmem i).1 hi), Array.toArray_toList] at this
    exact this
  have hwi := within_put (fun i : Nat => Row.val (rowD R (min i (n - 1)))) w g m d'
  have hP := h.written hwi hown hlen (fun i hi => (hmem i).1 hi)
  refine ⟨he, d'.toList, hP.below (hbg.mono (by have := hwi.size; omega)), ?_, hmem, ?_⟩
  · exact (hwi.below (Nat.le_refl g) (by omega)).trans (hbg.mono (by have := hwi.size; omega))
  · rw [List.pairwise_map, List.pairwise_iff_getElem]
    intro i j hi hj hij
    have := hs i j (Nat.zero_le _) hij (by omega)
    rw [hlt] at this
    simp only [decide_eq_false_iff_not] at this
    rw [getElem!_pos d' i (by omega), getElem!_pos d' j (by omega)] at this
    have m1 := (hmem d'[i]).1 (by simp)
    have m2 := (hmem d'[j]).1 (by simp)
    rw [show min d'[i] (n - 1) = d'[i] by omega, show min d'[j] (n - 1) = d'[j] by omega] at this
    simpa using this

end Go.Proofs.YthdonnkekggbbaaGreatDoor
