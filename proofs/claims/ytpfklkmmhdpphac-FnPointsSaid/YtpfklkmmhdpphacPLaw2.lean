/- Plain laws of points: the slices' counts add up. Conditions: none. -/
import Derived.Test.YtpfklkmmhdpphacPLaw
namespace Go.Proofs.Ytpfklkmmhdpphac
open Go.RowKit
set_option linter.unusedVariables false
set_option linter.unusedSimpArgs false
set_option maxRecDepth 100000

theorem latRow_cons (x : Int) (v : List Int) (lo : Int) (t : Nat) : latRow (x :: v) lo t = (latRow v lo t).map (x :: ·) := by simp [latRow]
theorem latStep_cons (lo hi x : Int) (L : List (List Int)) : latStep lo hi (L.map (x :: ·)) = (latStep lo hi L).map (x :: ·) := by
  induction L with
  | nil => rfl
  | cons v r ih => simp only [List.map_cons, latStep, List.map_append, ih, latRow_cons]
theorem latStep_flat (lo hi : Int) (Ls : List (List (List Int))) : latStep lo hi Ls.flatten = (Ls.map (latStep lo hi)).flatten := by
  induction Ls with
  | nil => rfl
  | cons L r ih => simp only [List.flatten_cons, latStep_app, List.map_cons, ih]
theorem allTo_cons (lo hi : Int) : ∀ n, allTo lo hi (n + 1) = ((List.range (wid lo hi)).map fun (j : Nat) => (allTo lo hi n).map ((lo + (j : Int)) :: ·)).flatten
  | 0 => by
    show latRow [] lo (wid lo hi) ++ [] = _
    rw [List.append_nil, latRow]
    generalize List.range (wid lo hi) = R
    induction R with
    | nil => rfl
    | cons j r ih => simp only [List.map_cons, List.flatten_cons, allTo, List.nil_append, List.map_nil, List.cons_append] at ih ⊢; rw [ih]
  | n + 1 => by
    show latStep lo hi (allTo lo hi (n + 1)) = _
    conv => lhs; rw [allTo_cons lo hi n, latStep_flat, List.map_map]
    congr 1
    refine List.map_congr_left fun j _ => ?_
    exact latStep_cons _ _ _ _

/-- How many points of the region have x as their first number. -/
def cntAt (hs : List Pr) (n : Nat) (x : Int) : Nat := ((allTo (-6) 6 n).filter fun y => hasP hs (x :: y)).length
theorem pts_sum {z : Int} {hs : List Pr} {n : Nat} (h : isReg z hs = true) (hz : z = (n : Int) + 1) : (ptsV z hs).length = ((List.range 13).map fun (j : Nat) => cntAt hs n (-6 + (j : Int))).sum := by
  unfold ptsV boxOf
  rw [if_pos h, show z.toNat = n + 1 by omega, allTo_cons, List.filter_flatten, List.length_flatten, List.map_map, List.map_map, show wid (-6) 6 = 13 by rfl]
  congr 1
  refine List.map_congr_left fun j _ => ?_
  simp only [Function.comp, cntAt, List.filter_map, List.length_map]
  rfl

theorem cut0 (a : Int) (us : List Int) : cutL 0 (a :: us) = us := by simp [cutL]

/-- One half, cut at its first number. -/
theorem half_cut {z : Int} {h : Pr} {i : Int} {y : List Int} (hh : isHalf z h.1 h.2 = true) (hz : z ≤ 3) (hi : -6 ≤ i ∧ i ≤ 6) (hy : ∀ x ∈ y, Abs 6 x) (hl : (y.length : Int) + 1 = z) :
    (dotW h.1 (i :: y) ≤ h.2 ↔ dotW (slP 0 i h).1 y ≤ (slP 0 i h).2) ∧ (slKeep (slP 0 i h) = false → dotW (slP 0 i h).1 y = 0) ∧
    (slP 0 i h).1.length = y.length ∧ allR (slP 0 i h).1 (-20) 20 = true ∧ (slP 0 i h).2 = h.2 - nth h.1 0 * i ∧ Abs 20 (nth h.1 0) := by
  obtain ⟨hlen, hall, hg, hb1, hb2⟩ := isHalf_facts hh
  obtain ⟨v, b⟩ := h
  cases v with
  | nil => simp only [List.length_nil] at hlen; omega
  | cons a us =>
    dsimp only at *
    have ha : Abs 20 a := allR_nth hall 0 (by simp)
    have hus : ∀ u ∈ us, Abs 20 u := fun u hu => by
      simp only [allR, List.all_eq_true] at hall
      have := inR_true (hall u (by simp [hu]))
      exact this
    have hul : us.length = y.length := by simp only [List.length_cons] at hlen; omega
    have hai : Abs 120 (a * i) := ha.mul (show Abs 6 i from hi)
    have hd := dz_bound hus hy (by omega)
    have hd2 : Abs 360 (dz us y) := hd.mono (by omega)
    have e1 : dotW (a :: us) (i :: y) = a * i + dz us y := by
      rw [dotW_dz (by simp [hul])]
      exact (hai.add hd2).wrap (by omega)
    have e2 : dotW us y = dz us y := by rw [dotW_dz hul]; exact hd2.wrap (by omega)
    have e3 : (slP 0 i (a :: us, b)).1 = us := cut0 a us
    have e4 : (slP 0 i (a :: us, b)).2 = b - a * i := by
      show wrap64 (b - wrap64 (a * i)) = _
      rw [hai.wrap (by omega)]
      have hb : Abs 200 b := ⟨hb1, hb2⟩
      exact (hb.sub hai).wrap (by omega)
    rw [e1, e3, e4, e2]
    refine ⟨by omega, fun hk => ?_, hul, ?_, rfl, ha⟩
    · have hg0 : gcdL us = 0 := by
        have h1 : ¬ 0 < gcdL us := by
          have := hk
          unfold slKeep at this
          rw [e3] at this
          simpa using this
        have h2 : 0 ≤ gcdL us := by
          unfold gcdL
          cases us.length
          · exact Int.le_refl _
          · exact gcdI_nonneg _ _
        omega
      refine dz_zero fun u hu => ?_
      obtain ⟨j, hj, e⟩ := List.getElem_of_mem hu
      rw [← e, ← nth_eq hj]
      exact gcdTo_zero us.length hg0 j hj
    · simp only [allR, List.all_eq_true] at hall ⊢
      exact fun x hx => hall x (by simp [hx])

theorem hasP_cut {z : Int} {hs : List Pr} {i : Int} {y : List Int} (h : isReg z hs = true) (hi : -6 ≤ i ∧ i ≤ 6) (hy : ∀ x ∈ y, Abs 6 x) (hl : (y.length : Int) + 1 = z) :
    hasP hs (i :: y) = (!slBad 0 i hs hs.length && hasP (slTo 0 i hs hs.length) y) := by
  obtain ⟨h1, h3, h8, hall⟩ := isReg_facts h
  have key : ∀ x ∈ hs, (dotW x.1 (i :: y) ≤ x.2 ↔ dotW (slP 0 i x).1 y ≤ (slP 0 i x).2) ∧ (slKeep (slP 0 i x) = false → dotW (slP 0 i x).1 y = 0) := fun x hx => by
    obtain ⟨k, hk, e⟩ := List.getElem_of_mem hx
    have hh := hall k hk
    rw [nrm, bnd, prAt_eq hk, e] at hh
    have := half_cut hh h3 hi hy hl
    exact ⟨this.1, this.2.1⟩
  rw [Bool.eq_iff_iff]
  unfold hasP slBad slTo
  rw [List.take_length]
  simp only [List.all_eq_true, decide_eq_true_eq, Bool.and_eq_true, Bool.not_eq_true', List.any_eq_false, List.mem_map, List.mem_filter]
  constructor
  · intro hA
    refine ⟨?_, ?_⟩
    · rintro p ⟨x, hx, rfl⟩
      have := (key x hx).1.1 (hA x hx)
      unfold slOff
      cases hk : slKeep (slP 0 i x)
      · rw [(key x hx).2 hk] at this
        simp; omega
      · simp
    · rintro p ⟨⟨x, hx, rfl⟩, _⟩
      exact (key x hx).1.1 (hA x hx)
  · rintro ⟨hB, hC⟩ x hx
    rw [(key x hx).1]
    cases hk : slKeep (slP 0 i x)
    · have := hB _ ⟨x, hx, rfl⟩
      unfold slOff at this
      rw [hk] at this
      rw [(key x hx).2 hk]
      simp at this; omega
    · exact hC _ ⟨⟨x, hx, rfl⟩, hk⟩

/-- What the law adds for one slice. -/
def slCnt (z i : Int) (hs : List Pr) : Int := if (sliceV z 0 i hs).2 = true then countV (sliceV z 0 i hs).1.1 (sliceV z 0 i hs).1.2 else 0

theorem slCnt_eq {z i : Int} {hs : List Pr} {n : Nat} (h : isReg z hs = true) (hz : z = (n : Int) + 1) (hn : 1 ≤ n) (hi : -6 ≤ i ∧ i ≤ 6)
    (hok : (sliceV z 0 i hs).2 = true ∨ ∀ k, k < hs.length → -60 ≤ bnd hs k ∧ bnd hs k ≤ 60) : slCnt z i hs = (cntAt hs n i : Nat) := by
  obtain ⟨h1, h3, h8, hall⟩ := isReg_facts h
  have hcut : ∀ y ∈ allTo (-6) 6 n, hasP hs (i :: y) = (!slBad 0 i hs hs.length && hasP (slTo 0 i hs hs.length) y) := fun y hy => by
    refine hasP_cut h hi (fun x hx => ?_) ?_
    · have := allTo_all (-6) 6 n y hy x hx
      exact this
    · rw [allTo_rows (-6) 6 n y hy]; omega
  have hcnt : cntAt hs n i = ((allTo (-6) 6 n).filter fun y => (!slBad 0 i hs hs.length && hasP (slTo 0 i hs hs.length) y)).length := by
    unfold cntAt
    congr 1
    exact List.filter_congr hcut
  have hsl : sliceV z 0 i hs = if slBad 0 i hs hs.length = false then regIf (z - 1) (slTo 0 i hs hs.length) else ((0, []), false) := by
    unfold sliceV
    have hk : inR 0 0 (z - 1) = true := by simp [inR]; omega
    have hi' : inR i (-6) 6 = true := by simp [inR]; omega
    cases hb : slBad 0 i hs hs.length
    · rw [if_pos ⟨h, by omega, hk, hi', hb⟩, if_pos rfl]; rfl
    · rw [if_neg (fun hc => by have := hc.2.2.2.2; rw [show (0 : Int).toNat = 0 from rfl, hb] at this; cases this), if_neg (by simp)]
  cases hb : slBad 0 i hs hs.length
  · rw [hb, if_pos rfl] at hsl
    rw [hcnt, hb]
    have hreg : isReg (z - 1) (slTo 0 i hs hs.length) = true := by
      rcases hok with hok | hok
      · rw [hsl] at hok
        cases hr : isReg (z - 1) (slTo 0 i hs hs.length)
        · rw [regIf_no hr] at hok; cases hok
        · rfl
      · have hlen : (slTo 0 i hs hs.length).length ≤ 8 := by
          unfold slTo
          refine Nat.le_trans (List.length_filter_le _ _) ?_
          simp; omega
        simp only [isReg, Bool.and_eq_true, decide_eq_true_eq, allHalf, List.all_eq_true]
        refine ⟨by simp [inR]; omega, hlen, fun p hp => ?_⟩
        unfold slTo at hp
        rw [List.take_length] at hp
        simp only [List.mem_filter, List.mem_map] at hp
        obtain ⟨⟨x, hx, rfl⟩, hk⟩ := hp
        obtain ⟨k, hkl, e⟩ := List.getElem_of_mem hx
        have hh := hall k hkl
        have hbk := hok k hkl
        rw [nrm, bnd, prAt_eq hkl, e] at hh
        rw [bnd, prAt_eq hkl, e] at hbk
        obtain ⟨_, _, g3, g4, g5, g6⟩ := half_cut (i := i) (y := List.replicate n 0) hh h3 hi (fun x hx => by rw [(List.mem_replicate.1 hx).2]; unfold Abs; omega) (by simp; omega)
        have hm : Abs 120 (nth x.1 0 * i) := g6.mul (show Abs 6 i from hi)
        obtain ⟨m1, m2⟩ := hm
        simp only [isHalf, Bool.and_eq_true, decide_eq_true_eq]
        refine ⟨by simp [inR]; omega, by simp at g3; omega, g4, by simpa [slKeep] using hk, by rw [g5]; simp [inR]; omega⟩
    unfold slCnt
    rw [hsl, regIf_yes hreg]
    rw [if_pos rfl]
    unfold countV ptsV boxOf
    rw [if_pos hreg, show (z - 1).toNat = n by omega]
    simp [hreg]
  · rw [hb] at hsl
    unfold slCnt
    rw [hsl, hcnt, hb]
    have e : ((allTo (-6) 6 n).filter fun y => (!true && hasP (slTo 0 i hs hs.length) y)) = [] := List.filter_eq_nil_iff.2 fun _ _ => by simp
    rw [e]
    simp

def sumTo (z : Int) (hs : List Pr) : Nat → Int
  | 0 => 0
  | k + 1 => sumTo z hs k + slCnt z (-6 + (k : Int)) hs
theorem sumTo_all {z : Int} {hs : List Pr} {n : Nat} (h : isReg z hs = true) (hz : z = (n : Int) + 1) (hn : 1 ≤ n)
    (hok : ∀ k : Nat, k < 13 → (sliceV z 0 (-6 + (k : Int)) hs).2 = true ∨ ∀ k, k < hs.length → -60 ≤ bnd hs k ∧ bnd hs k ≤ 60) : sumTo z hs 13 = ((ptsV z hs).length : Nat) := by
  have key : ∀ k : Nat, k ≤ 13 → sumTo z hs k = (((List.range k).map fun (j : Nat) => cntAt hs n (-6 + (j : Int))).sum : Nat) := by
    intro k
    induction k with
    | zero => intro _; rfl
    | succ k ih =>
      intro hk
      rw [sumTo, ih (by omega), slCnt_eq h hz hn (by omega) (hok k (by omega)), List.range_succ, List.map_append, List.sum_append]
      simp
  rw [key 13 (Nat.le_refl _), pts_sum h hz]

end Go.Proofs.Ytpfklkmmhdpphac
