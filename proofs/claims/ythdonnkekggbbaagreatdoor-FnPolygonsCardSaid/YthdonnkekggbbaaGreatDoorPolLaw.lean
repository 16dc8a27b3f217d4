/- Plain: the points of a polygon, as the program lists them, are as many as the area and the sides tell. No program in sight. Conditions: none. -/
import Derived.Test.YthdonnkekggbbaaGreatDoorPck
import Derived.Test.YthdonnkekggbbaaGreatDoorPpt0
import Derived.Test.YthdonnkekggbbaaGreatDoorInner
namespace Go.Proofs.YthdonnkekggbbaaGreatDoor
open Go.RowKit
set_option linter.unusedVariables false
set_option linter.unusedSimpArgs false
set_option maxRecDepth 100000

/-- How many of the first k points of a list have the place v. -/
noncomputable def plcTo (P : List (List Int)) (v : Int) (L : List (List Int)) : Nat → Int
  | 0 => 0
  | k + 1 => if placV P (nthR L k) = v then plcTo P v L k + 1 else plcTo P v L k
noncomputable def plcL (P : List (List Int)) (v : Int) : List (List Int) → Int
  | [] => 0
  | x :: r => (if placV P x = v then 1 else 0) + plcL P v r
theorem plcL_app (P : List (List Int)) (v : Int) : ∀ a b, plcL P v (a ++ b) = plcL P v a + plcL P v b
  | [], b => by simp [plcL]
  | x :: a, b => by rw [List.cons_append, plcL, plcL, plcL_app P v a b]; omega
theorem plcTo_take (P : List (List Int)) (v : Int) (L : List (List Int)) : ∀ k, k ≤ L.length → plcTo P v L k = plcL P v (L.take k)
  | 0, _ => by simp [plcTo, plcL]
  | k + 1, hk => by
    have e : L.take (k + 1) = L.take k ++ [nthR L k] := by rw [nthR_eq (by omega)]; exact List.take_succ_eq_append_getElem (by omega)
    rw [plcTo, plcTo_take P v L k (by omega), e, plcL_app, plcL, plcL]
    split <;> omega
theorem plcTo_all (P : List (List Int)) (v : Int) (L : List (List Int)) : plcTo P v L L.length = plcL P v L := by
  rw [plcTo_take P v L _ (Nat.le_refl _), List.take_length]
theorem plcTo_in (P : List (List Int)) (v : Int) (L : List (List Int)) : ∀ k, 0 ≤ plcTo P v L k ∧ plcTo P v L k ≤ k
  | 0 => by simp [plcTo]
  | k + 1 => by have := plcTo_in P v L k; rw [plcTo]; split <;> omega

/-- The corners, going around. -/
def qOf (P : List (List Int)) : Nat → Pt := cyc P.length fun k => ptOf (nthR P k)
theorem placT_tn {P : List (List Int)} {x : List Int} {k : Nat} (hk : k < P.length) : placT P x k = tn (qOf P k) (qOf P (k + 1)) (ptOf x) := by
  unfold placT turnZ qOf cyc
  rw [Nat.mod_eq_of_lt hk]
theorem placTo_one {P : List (List Int)} {x : List Int} : ∀ k, placTo P x k = 1 ↔ ∀ j, j < k → placT P x j ≠ 0
  | 0 => by simp [placTo]
  | k + 1 => by
    rw [placTo]
    by_cases h : placT P x k = 0
    · rw [if_pos h]
      constructor
      · intro e; omega
      · intro e; exact absurd h (e k (by omega))
    · rw [if_neg h, placTo_one k]
      constructor
      · intro e j hj
        by_cases hjk : j = k
        · rw [hjk]; exact h
        · exact e j (by omega)
      · intro e j hj; exact e j (by omega)
theorem placTo_01 {P : List (List Int)} {x : List Int} : ∀ k, placTo P x k = 1 ∨ placTo P x k = 0
  | 0 => .inl rfl
  | k + 1 => by rw [placTo]; split; exact .inr rfl; exact placTo_01 k
theorem plac_ins (P : List (List Int)) (x : List Int) : 0 ≤ placV P x ↔ Ins P.length (qOf P) (ptOf x) := by
  unfold Ins
  constructor
  · intro h k hk
    rcases Int.lt_or_le (tn (qOf P k) (qOf P (k + 1)) (ptOf x)) 0 with hn | hn
    · rw [← placT_tn hk] at hn
      rw [placV_neg hk hn] at h
      omega
    · exact hn
  · intro h
    rw [placV_end fun j hj => by rw [placT_tn hj]; exact h j hj]
    rcases placTo_01 (P := P) (x := x) P.length with e | e <;> omega
theorem plac_insS (P : List (List Int)) (x : List Int) : placV P x = 1 ↔ InsS P.length (qOf P) (ptOf x) := by
  unfold InsS
  constructor
  · intro h k hk
    have h0 := (plac_ins P x).1 (by omega)
    rw [placV_end fun j hj => by rw [placT_tn hj]; exact h0 j hj, placTo_one] at h
    have := h k hk
    rw [placT_tn hk] at this
    have := h0 k hk
    omega
  · intro h
    rw [placV_end fun j hj => by rw [placT_tn hj]; exact Int.le_of_lt (h j hj), placTo_one]
    intro j hj
    rw [placT_tn hj]
    have := h j hj
    omega
theorem plac_01 (P : List (List Int)) (x : List Int) : placV P x = -1 ∨ placV P x = 0 ∨ placV P x = 1 := by
  unfold placV
  split
  · exact .inl rfl
  · rcases placTo_01 (P := P) (x := x) P.length with e | e
    · exact .inr (.inr e)
    · exact .inr (.inl e)

theorem plcL_filter (P : List (List Int)) (v : Int) (hv : 0 ≤ v) : ∀ L, plcL P v (L.filter (inP P)) = plcL P v L
  | [] => rfl
  | x :: r => by
    by_cases h : inP P x = true
    · rw [List.filter_cons_of_pos h, plcL, plcL, plcL_filter P v hv r]
    · rw [List.filter_cons_of_neg h, plcL, plcL_filter P v hv r, if_neg]
      · omega
      · intro e; apply h; unfold inP; simpa using (by omega : 0 ≤ placV P x)
theorem plcL_sum (P : List (List Int)) : ∀ L : List (List Int), plcL P 0 (L.filter (inP P)) + plcL P 1 (L.filter (inP P)) = ((L.filter (inP P)).length : Int)
  | [] => by simp [plcL]
  | x :: r => by
    by_cases h : inP P x = true
    · have ih := plcL_sum P r
      rw [List.filter_cons_of_pos h, plcL, plcL, List.length_cons]
      have : 0 ≤ placV P x := by unfold inP at h; simpa using h
      rcases plac_01 P x with e | e | e <;> rw [e] <;> simp <;> omega
    · rw [List.filter_cons_of_neg h]
      exact plcL_sum P r

theorem plcL_row (P : List (List Int)) (v : Int) (u : List Int) (lo : Int) : ∀ t, plcL P v (latRow u lo t) = sg (fun j => if placV P (u ++ [lo + (j : Nat)]) = v then 1 else 0) t
  | 0 => by simp [latRow, plcL, sg]
  | t + 1 => by
    have e : latRow u lo (t + 1) = latRow u lo t ++ [u ++ [lo + (t : Int)]] := by simp [latRow, List.range_succ]
    rw [e, plcL_app, plcL_row P v u lo t, plcL, plcL]
    simp only [sg]
    omega
theorem plcL_box (P : List (List Int)) (v : Int) (lo hi lo0 : Int) : ∀ t, plcL P v (latStep lo hi (latRow [] lo0 t)) = sg (fun i => sg (fun j => if placV P [lo0 + (i : Nat), lo + (j : Nat)] = v then 1 else 0) (wid lo hi)) t
  | 0 => by simp [latRow, latStep, plcL, sg]
  | t + 1 => by
    have app : ∀ a b : List (List Int), latStep lo hi (a ++ b) = latStep lo hi a ++ latStep lo hi b := by
      intro a b
      induction a with
      | nil => rfl
      | cons v r ih => simp [latStep, ih]
    have e : latRow [] lo0 (t + 1) = latRow [] lo0 t ++ [[lo0 + (t : Int)]] := by simp [latRow, List.range_succ]
    rw [e, app, plcL_app, plcL_box P v lo hi lo0 t]
    simp only [latStep, sg, List.append_nil]
    rw [plcL_row]
    rfl

theorem mnTo_le (P : List (List Int)) (j : Nat) : ∀ k i, i < k → mnTo P j k ≤ nth (nthR P i) j
  | 0, i, h => by omega
  | k + 1, i, h => by
    rw [mnTo]
    by_cases e : i = k
    · subst e; omega
    · have := mnTo_le P j k i (by omega); omega
theorem mxTo_ge (P : List (List Int)) (j : Nat) : ∀ k i, i < k → nth (nthR P i) j ≤ mxTo P j k
  | 0, i, h => by omega
  | k + 1, i, h => by
    rw [mxTo]
    by_cases e : i = k
    · subst e; omega
    · have := mxTo_ge P j k i (by omega); omega
theorem mxTo_is (P : List (List Int)) (j : Nat) : ∀ k, 0 < k → ∃ i, i < k ∧ mxTo P j k = nth (nthR P i) j
  | 0, h => by omega
  | k + 1, _ => by
    rw [mxTo]
    rcases Nat.eq_zero_or_pos k with rfl | hk
    · exact ⟨0, by omega, by simp [mxTo]⟩
    · obtain ⟨i, hi, e⟩ := mxTo_is P j k hk
      by_cases h : mxTo P j k ≤ nth (nthR P k) j
      · exact ⟨k, by omega, by omega⟩
      · exact ⟨i, by omega, by omega⟩

theorem area_area2 (P : List (List Int)) : areaTo P P.length = area2 P.length (qOf P) := by
  have key : ∀ k, k ≤ P.length → areaTo P k = sg (fun i => cr (qOf P i) (qOf P (i + 1))) k := by
    intro k
    induction k with
    | zero => intro _; rfl
    | succ k ih =>
      intro hk
      rw [areaTo, ih (by omega)]
      simp only [sg]
      congr 2
      unfold qOf; rw [cyc_lt (by omega)]
  exact key _ (Nat.le_refl _)
theorem side_gcdL (P : List (List Int)) {k : Nat} (hk : k < P.length) : gcdL (sideL P k) = (Nat.gcd ((qOf P (k + 1)).1 - (qOf P k).1).natAbs ((qOf P (k + 1)).2 - (qOf P k).2).natAbs : Int) := by
  have e : qOf P k = ptOf (nthR P k) := by unfold qOf; rw [cyc_lt hk]
  rw [e]
  unfold qOf cyc sideL minusL gcdL ptOf
  simp [gcdTo, gcdI, nth, Int.gcd]
theorem sides_in {P : List (List Int)} (h12 : P.length ≤ 12) (hp : ∀ k, k < P.length → PtIn 50 (nthR P k)) : ∀ k, k ≤ P.length → bndTo P k = sg (fun i => (Nat.gcd ((qOf P (i + 1)).1 - (qOf P i).1).natAbs ((qOf P (i + 1)).2 - (qOf P i).2).natAbs : Int)) k ∧ 0 ≤ bndTo P k ∧ bndTo P k ≤ 200 * (k : Int) := by
  intro k
  induction k with
  | zero => intro _; simp [bndTo, sg]
  | succ k ih =>
    intro hk
    obtain ⟨e, h0, h1⟩ := ih (by omega)
    have hg := side_gcdL P (k := k) (by omega)
    have hm : (k + 1) % P.length < P.length := Nat.mod_lt _ (by omega)
    have b1 := hp k (by omega)
    have b2 := hp _ hm
    have hb : gcdL (sideL P k) ≤ 200 := by
      rw [hg]
      have e1 : qOf P k = ptOf (nthR P k) := by unfold qOf; rw [cyc_lt (by omega)]
      have e2 : qOf P (k + 1) = ptOf (nthR P ((k + 1) % P.length)) := rfl
      rw [e1, e2]
      unfold ptOf
      simp only
      obtain ⟨_, a1, a2, a3, a4⟩ := b1
      obtain ⟨_, c1, c2, c3, c4⟩ := b2
      generalize hA : (nth (nthR P ((k + 1) % P.length)) 0 - nth (nthR P k) 0).natAbs = A
      generalize hB : (nth (nthR P ((k + 1) % P.length)) 1 - nth (nthR P k) 1).natAbs = B
      rcases Nat.eq_zero_or_pos A with h | h
      · rw [h, Nat.gcd_zero_left]; omega
      · have := Nat.gcd_le_left B h; omega
    have hn : 0 ≤ gcdL (sideL P k) := by rw [hg]; exact Int.natCast_nonneg _
    have hw : wrap64 (bndTo P k + gcdL (sideL P k)) = bndTo P k + gcdL (sideL P k) := wrap64_id (by omega) (by omega)
    rw [bndTo, hw]
    refine ⟨?_, by omega, by omega⟩
    simp only [sg]
    rw [← e, ← hg]

theorem pick_law {P : List (List Int)} (h : polyB P = true) (hne : ptsPV P ≠ []) :
    plcTo P 1 (ptsPV P) (ptsPV P).length = innV P ∧ plcTo P 0 (ptsPV P) (ptsPV P).length = bndV P
    ∧ plcTo P 1 (ptsPV P) (ptsPV P).length + plcTo P 0 (ptsPV P) (ptsPV P).length = ((ptsPV P).length : Int) := by
  obtain ⟨h3, h12, hpt, hg⟩ := polyB_iff.1 h
  have hp : ∀ k, k < P.length → PtIn 50 (nthR P k) := fun k hk => isPt_in (hpt k hk)
  have h2 : ∀ k, k < P.length → (nthR P k).length = 2 := fun k hk => (hp k hk).len
  have hF := (fan_iff h3 h2).2 hg
  obtain ⟨m, hC⟩ := hF.cp
  have hC : CP P.length m (qOf P) := hC
  have heq : ptsPV P = (boxP P).filter (inP P) := by
    unfold ptsPV at hne ⊢
    split
    · rfl
    · next hh => rw [if_neg hh] at hne; exact absurd rfl hne
  have hm := hC.mn
  have hm0 := hC.m0
  have q0 : qOf P 0 = ptOf (nthR P 0) := by unfold qOf; rw [cyc_lt (by omega)]
  have qk : ∀ k, k < P.length → qOf P k = ptOf (nthR P k) := fun k hk => by unfold qOf; rw [cyc_lt hk]
  have mn0 := mn_first h2 (fun k hk hk0 => (hg k hk).2.1 hk0) (by omega) P.length (Nat.le_refl _)
  have e0 : (qOf P 0).1 = mnTo P 0 P.length := by rw [q0, mn0]; rfl
  have em : (qOf P m).1 = mxTo P 0 P.length := by
    have a1 := mxTo_ge P 0 P.length m hm
    obtain ⟨i, hi, ei⟩ := mxTo_is P 0 P.length (by omega)
    have a2 : (qOf P i).1 ≤ (qOf P m).1 := by
      by_cases him : i ≤ m
      · exact hC.low.mono him (Nat.le_refl _)
      · have := hC.top.mono (i := P.length - i) (j := P.length - m) (by omega) (Nat.le_refl _)
        unfold topC at this
        rwa [show P.length - (P.length - i) = i by omega, show P.length - (P.length - m) = m by omega] at this
    rw [qk i hi, qk m hm] at a2
    rw [qk m hm]
    have a1 : (ptOf (nthR P m)).1 ≤ mxTo P 0 P.length := a1
    have ei : mxTo P 0 P.length = (ptOf (nthR P i)).1 := ei
    omega
  have hw := hC.wide
  obtain ⟨W, hW⟩ : ∃ W : Nat, W = ((qOf P m).1 - (qOf P 0).1).toNat := ⟨_, rfl⟩
  have hW' : (qOf P m).1 = (qOf P 0).1 + W := by omega
  have wx : wid (mnTo P 0 P.length) (mxTo P 0 P.length) = W + 1 := by unfold wid; rw [← e0, ← em]; omega
  have hB : Box P.length (qOf P) (mnTo P 1 P.length) (wid (mnTo P 1 P.length) (mxTo P 1 P.length)) := by
    intro i hi
    have key : ∀ k, k < P.length → mnTo P 1 P.length ≤ (qOf P k).2 ∧ (qOf P k).2 < mnTo P 1 P.length + (wid (mnTo P 1 P.length) (mxTo P 1 P.length) : Int) := by
      intro k hk
      have a1 : mnTo P 1 P.length ≤ (ptOf (nthR P k)).2 := mnTo_le P 1 P.length k hk
      have a2 : (ptOf (nthR P k)).2 ≤ mxTo P 1 P.length := mxTo_ge P 1 P.length k hk
      rw [qk k hk]
      unfold wid
      omega
    by_cases e : i = P.length
    · rw [e, hC.q0]; exact key 0 (by omega)
    · exact key i (by omega)
  have pk := hC.pick hB hW'
  have c1 : ∀ y0 : Int, ∀ hh : Nat, ∀ x : Int, cnt (fun y => InsS P.length (qOf P) (x, y)) y0 hh = sg (fun j => if placV P [x, y0 + (j : Nat)] = 1 then 1 else 0) hh := by
    intro y0 hh x
    unfold cnt
    apply sg_congr
    intro j _
    have hi := plac_insS P [x, y0 + (j : Nat)]
    have hp : ptOf [x, y0 + (j : Nat)] = (x, y0 + (j : Nat)) := rfl
    rw [hp] at hi
    by_cases hs : InsS P.length (qOf P) (x, y0 + (j : Nat))
    · rw [if_pos hs, if_pos (hi.2 hs)]
    · rw [if_neg hs, if_neg fun e => hs (hi.1 e)]
  have c0 : ∀ y0 : Int, ∀ hh : Nat, ∀ x : Int, cnt (fun y => Ins P.length (qOf P) (x, y)) y0 hh = sg (fun j => (if placV P [x, y0 + (j : Nat)] = 0 then 1 else 0) + (if placV P [x, y0 + (j : Nat)] = 1 then 1 else 0)) hh := by
    intro y0 hh x
    unfold cnt
    apply sg_congr
    intro j _
    have hi := plac_ins P [x, y0 + (j : Nat)]
    have hp : ptOf [x, y0 + (j : Nat)] = (x, y0 + (j : Nat)) := rfl
    rw [hp] at hi
    by_cases hs : Ins P.length (qOf P) (x, y0 + (j : Nat))
    · rw [if_pos hs]
      have := hi.2 hs
      rcases plac_01 P [x, y0 + (j : Nat)] with e | e | e <;> rw [e] at this ⊢ <;> simp <;> omega
    · rw [if_neg hs]
      have : ¬ 0 ≤ placV P [x, y0 + (j : Nat)] := fun e => hs (hi.1 e)
      rcases plac_01 P [x, y0 + (j : Nat)] with e | e | e <;> rw [e] at this ⊢ <;> simp <;> omega
  have b1 : plcL P 1 (boxP P) = sg (fun j => cnt (fun y => InsS P.length (qOf P) ((qOf P 0).1 + (j : Nat), y)) (mnTo P 1 P.length) (wid (mnTo P 1 P.length) (mxTo P 1 P.length))) (W + 1) := by
    rw [boxP_eq, plcL_box, wx, ← e0]
    exact sg_congr fun j _ => (c1 _ _ _).symm
  have b0 : plcL P 0 (boxP P) + plcL P 1 (boxP P) = sg (fun j => cnt (fun y => Ins P.length (qOf P) ((qOf P 0).1 + (j : Nat), y)) (mnTo P 1 P.length) (wid (mnTo P 1 P.length) (mxTo P 1 P.length))) (W + 1) := by
    rw [boxP_eq, plcL_box, plcL_box, wx, ← e0, ← sg_add]
    exact sg_congr fun j _ => by rw [c0, sg_add]
  rw [← b0, ← b1] at pk
  obtain ⟨p1, p2⟩ := pk
  have s1 := plcL_filter P 1 (by omega) (boxP P)
  have s0 := plcL_filter P 0 (by omega) (boxP P)
  have ss := plcL_sum P (boxP P)
  rw [← heq] at s1 s0 ss
  obtain ⟨g1, g2, g3⟩ := sides_in h12 hp P.length (Nat.le_refl _)
  have hb : bndV P = sides P.length (qOf P) := by unfold bndV; rw [if_pos h, g1]; rfl
  have hbb : bndV P = bndTo P P.length := by unfold bndV; rw [if_pos h]
  have ha := area_area2 P
  have hai := areaTo_in hp P.length (Nat.le_refl _)
  have hI : innV P = plcL P 1 (ptsPV P) := by
    unfold innV
    rw [if_pos h, wrap64_id (a := areaTo P P.length - bndV P) (by omega) (by omega), wrap64_id (a := areaTo P P.length - bndV P + 2) (by omega) (by omega)]
    rw [show areaTo P P.length - bndV P + 2 = 2 * plcL P 1 (ptsPV P) by omega, Int.mul_tdiv_cancel_left _ (by omega)]
    exact wrap64_id (by omega) (by omega)
  rw [plcTo_all, plcTo_all]
  refine ⟨hI.symm, by omega, by omega⟩

end Go.Proofs.YthdonnkekggbbaaGreatDoor
