/- Plain laws of the Hermite form: what it is, that it is its own Hermite form, that it keeps the size of the determinant. Conditions: at most three rows. -/
import Derived.Test.YtdchckljggjaaaaHerm7
namespace Go.Proofs.Ytdchckljggjaaaa
open Go.RowKit
set_option linter.unusedVariables false
set_option linter.unusedSimpArgs false
set_option maxRecDepth 100000

/-- What a column that is done looks like. -/
def Done (M : List (List Int)) (c : Nat) : Prop :=
  (0 < ent M c c ∨ ent M c c = -9223372036854775808) ∧ (0 < ent M c c → ∀ i, i < c → 0 ≤ ent M i c ∧ ent M i c < ent M c c)
theorem Done.same {M M' : List (List Int)} {c : Nat} (h : Done M c) (he : ∀ i, i ≤ c → ent M' i c = ent M i c) : Done M' c := by
  refine ⟨by rw [he c (Nat.le_refl _)]; exact h.1, fun hp i hi => ?_⟩
  rw [he c (Nat.le_refl _)] at hp ⊢
  rw [he i (by omega)]
  exact h.2 hp i hi
/-- The first c columns are done; d is the determinant that was. -/
structure HFin (n : Nat) (d : Int) (c : Nat) (M : List (List Int)) : Prop where
  inv : Inv n c M
  det : wrap64 (dp n M) = d ∨ wrap64 (dp n M) = -d
  done : ∀ c', c' < c → Done M c'

theorem det_neg {d x : Int} (hd : Abs 6000000 d) (h : wrap64 x = d ∨ wrap64 x = -d) : wrap64 (-x) = d ∨ wrap64 (-x) = -d := by
  obtain ⟨h1, h2⟩ := hd
  rw [← wrap64_neg]
  rcases h with h | h
  · right; rw [h]; exact wrap64_id (by omega) (by omega)
  · left; rw [h, Int.neg_neg]; exact wrap64_id (by omega) (by omega)

theorem HFin.step {n c r : Nat} {d : Int} {M : List (List Int)} (hd : Abs 6000000 d) (h3 : n ≤ 3) (h : HFin n d c M) (hcr : c < r) (hr : r < n) : HFin n d c (stepH c r M) :=
  ⟨h.inv.step h3 hcr hr, by rw [dp_step h3 h.inv.good hcr hr]; exact det_neg hd h.det, fun c' hc' => (h.done c' hc').same fun i hi => by
    rw [ent_stepH h.inv.good.sq (by omega) hr (by omega), if_neg (by omega), if_neg (by omega)]⟩
theorem HFin.neg {n c : Nat} {d : Int} {M : List (List Int)} (hd : Abs 6000000 d) (h3 : n ≤ 3) (h : HFin n d c M) (hc : c < n) : HFin n d c (negH c M) :=
  ⟨h.inv.neg h3 hc, by rw [dp_neg h3 h.inv.good hc]; exact det_neg hd h.det, fun c' hc' => (h.done c' hc').same fun i hi => by
    rw [ent_negH h.inv.good.sq hc (by omega), if_neg (by omega)]⟩
theorem HFin.red {n c t : Nat} {d : Int} {M : List (List Int)} (h3 : n ≤ 3) (h : HFin n d c M) (htc : t < c) (hc : c < n) : HFin n d c (redH c t M) :=
  ⟨h.inv.red h3 htc hc, by rw [dp_red h3 h.inv.good htc hc]; exact h.det, fun c' hc' => (h.done c' hc').same fun i hi => by
    rw [ent_redH h.inv.good.sq (by omega) (by omega)]
    split
    · rename_i e
      rw [h.inv.zero c' c hc' hc' hc, e, Int.mul_zero, show wrap64 0 = 0 by simp [wrap64], Int.sub_zero]
      exact (h.inv.good.rng i c' (by omega) (by omega)).id
    · rfl⟩

theorem HFin.elimH {n c r : Nat} {d : Int} (hd : Abs 6000000 d) (h3 : n ≤ 3) (hcr : c < r) (hr : r < n) : ∀ (f : Nat) (M : List (List Int)), HFin n d c M → ZC c r M → (ent M r c).natAbs < f →
    HFin n d c (elimH c r f M) ∧ ZC c (r + 1) (elimH c r f M) := by
  intro f
  induction f with
  | zero => intro M _ _ h; omega
  | succ f ih =>
    intro M hF hz hf
    simp only [Go.Proofs.Ytdchckljggjaaaa.elimH]
    split
    · rename_i h0
      refine ⟨hF, fun r' h1 h2 => ?_⟩
      by_cases e : r' = r
      · rw [e]; exact h0
      · exact hz r' h1 (by omega)
    · rename_i h0
      have := stepH_less hF.inv.good (by omega) hr h0
      exact ih _ (hF.step hd h3 hcr hr) (hz.step hF.inv.good hcr hr) (by omega)
theorem HFin.elims {n c : Nat} {d : Int} {M : List (List Int)} (hd : Abs 6000000 d) (h3 : n ≤ 3) (hF : HFin n d c M) : ∀ k, c + 1 + k ≤ n → HFin n d c (elimsTo c M k) ∧ ZC c (c + 1 + k) (elimsTo c M k)
  | 0, _ => ⟨hF, fun r h1 h2 => by omega⟩
  | k + 1, hk => by
    obtain ⟨h1, h2⟩ := HFin.elims hd h3 hF k (by omega)
    exact HFin.elimH hd h3 (by omega) (by omega) _ _ h1 h2 (by omega)

/-- What is left of a division rounded down. -/
theorem left_floor {a p : Int} (hp : In64 p) (h0 : 0 < p) : 0 ≤ wrap64 (a - wrap64 (floorW a p * p)) ∧ wrap64 (a - wrap64 (floorW a p * p)) < p := by
  have h3 := tmod_abs (a := a) (b := p) (by omega)
  have h2 : a - a.tdiv p * p = a.tmod p := by
    have := Int.mul_tdiv_add_tmod a p
    rw [Int.mul_comm] at this
    omega
  unfold In64 at hp
  unfold floorW
  split
  · rename_i h
    have e : wrap64 (a - wrap64 (wrap64 (qOf a p - 1) * p)) = wrap64 (a.tmod p + p) := by
      rw [wrap64_mul_l, wrap64_sub_r, qOf]
      have e1 : wrap64 (a - (wrap64 (a.tdiv p) - 1) * p) = wrap64 (a - (a.tdiv p - 1) * p) := by
        obtain ⟨k, hk⟩ := wrap64_dvd (a.tdiv p)
        refine wrap64_congr ⟨-k * p, ?_⟩
        have hw : wrap64 (a.tdiv p) = a.tdiv p + 18446744073709551616 * k := by omega
        rw [hw]
        grind
      rw [e1]
      congr 1
      rw [Int.sub_mul, Int.one_mul]
      omega
    rw [e, wrap64_id (by omega) (by omega)]
    omega
  · rename_i h
    rw [left_tmod hp (by omega)]
    omega

theorem ent_redH_keep {n c t i j : Nat} {M : List (List Int)} (hG : Good n M) (ht : t < n) (hj : j < n) (hne : t ≠ i) : ent (redH c t M) i j = ent M i j := by
  rw [ent_redH hG.sq ht hj, if_neg hne]

theorem HFin.reds {n c : Nat} {d : Int} {M : List (List Int)} (h3 : n ≤ 3) (hc : c < n) (hF : HFin n d c M) (hz : ZC c n M) : ∀ k, k ≤ c →
    HFin n d c (redTo c M k) ∧ ZC c n (redTo c M k) ∧ ent (redTo c M k) c c = ent M c c ∧ (0 < ent M c c → ∀ i, i < k → 0 ≤ ent (redTo c M k) i c ∧ ent (redTo c M k) i c < ent M c c)
  | 0, _ => ⟨hF, hz, rfl, fun _ i hi => by omega⟩
  | k + 1, hk => by
    obtain ⟨h1, h2, h4, h5⟩ := HFin.reds h3 hc hF hz k (by omega)
    have hG := h1.inv.good
    refine ⟨h1.red h3 (by omega) hc, h2.red hG (by omega) hc, ?_, fun hp i hi => ?_⟩
    · show ent (redH c k (redTo c M k)) c c = _
      rw [ent_redH_keep hG (by omega) hc (by omega), h4]
    · show 0 ≤ ent (redH c k (redTo c M k)) i c ∧ ent (redH c k (redTo c M k)) i c < _
      by_cases e : k = i
      · rw [ent_redH hG.sq (by omega) hc, if_pos e, h4]
        exact left_floor (by rw [← h4]; exact hG.rng c c hc hc) hp
      · rw [ent_redH_keep hG (by omega) hc e]
        exact h5 hp i (by omega)

theorem HFin.col {n c : Nat} {d : Int} {M : List (List Int)} (hd : Abs 6000000 d) (h3 : n ≤ 3) (hc : c < n) (hF : HFin n d c M) : HFin n d (c + 1) (colH n c M) := by
  obtain ⟨h1, h2⟩ := hF.elims hd h3 (n - 1 - c) (by omega)
  rw [show c + 1 + (n - 1 - c) = n by omega] at h2
  have hne := h1.inv.diag h3 h2 hc
  unfold colH
  generalize elimsTo c M (n - 1 - c) = M1 at *
  have h4 : HFin n d c (negIf c M1) ∧ ZC c n (negIf c M1) ∧ (0 < ent (negIf c M1) c c ∨ ent (negIf c M1) c c = -9223372036854775808) := by
    unfold negIf
    split
    · rename_i h
      refine ⟨h1.neg hd h3 hc, h2.neg h1.inv.good hc, ?_⟩
      have hr := h1.inv.good.rng c c hc hc
      unfold In64 at hr
      rw [ent_negH h1.inv.good.sq hc hc, if_pos rfl, wrap64_sub_r, show ent M1 c c - 2 * ent M1 c c = -ent M1 c c by omega]
      by_cases e : ent M1 c c = -9223372036854775808
      · right; rw [e]; simp [wrap64]
      · left; rw [wrap64_id (by omega) (by omega)]; omega
    · exact ⟨h1, h2, .inl (by omega)⟩
  obtain ⟨h5, h6, h7⟩ := h4
  generalize negIf c M1 = M2 at *
  obtain ⟨h8, h9, h10, h11⟩ := h5.reds h3 hc h6 c (Nat.le_refl _)
  refine ⟨h8.inv.next h9, h8.det, fun c' hc' => ?_⟩
  by_cases e : c' = c
  · subst e
    refine ⟨by rw [h10]; exact h7, fun hp i hi => ?_⟩
    rw [h10] at hp ⊢
    exact h11 hp i hi
  · exact h8.done c' (by omega)
theorem HFin.herm {n : Nat} {d : Int} {M : List (List Int)} (hd : Abs 6000000 d) (h3 : n ≤ 3) (hF : HFin n d 0 M) : ∀ c, c ≤ n → HFin n d c (hermTo n M c)
  | 0, _ => hF
  | c + 1, hc => (HFin.herm hd h3 hF c (by omega)).col hd h3 (by omega)

/-- A form that is done stays. -/
theorem subRow_none {x y : List Int} (h : ∀ j, j < x.length → In64 (nth x j)) : subRow x 0 y = x := by
  refine nth_ext (by rw [subRow_length]) fun j hj => ?_
  rw [subRow_length] at hj
  rw [subRow_nth hj, Int.zero_mul, show wrap64 0 = 0 by simp [wrap64], Int.sub_zero]
  exact (h j hj).id
theorem redH_none {n c t : Nat} {M : List (List Int)} (hG : Good n M) (ht : t < n) (hc : c < n) (h0 : 0 ≤ ent M t c) (h1 : ent M t c < ent M c c) : redH c t M = M := by
  have hq : floorW (ent M t c) (ent M c c) = 0 := by
    unfold floorW
    rw [Int.tmod_eq_emod_of_nonneg h0, Int.emod_eq_of_lt h0 h1, if_neg (by omega), qOf, Int.tdiv_eq_ediv_of_nonneg h0, Int.ediv_eq_zero_of_lt h0 h1]
    simp [wrap64]
  unfold redH
  rw [hq, subRow_none (fun j hj => hG.rng t j ht (by rw [← hG.sq.2 t ht]; exact hj)), nthR_eq (by rw [hG.sq.1]; exact ht)]
  exact List.set_getElem_self _
theorem herm_stay {n : Nat} {d : Int} {M : List (List Int)} (hF : HFin n d n M) (hr : ∀ c, c < n → ent M c c ≠ -9223372036854775808) : ∀ c, c ≤ n → hermTo n M c = M
  | 0, _ => rfl
  | c + 1, hc => by
    have ih := herm_stay hF hr c (by omega)
    show colH n c (hermTo n M c) = M
    rw [ih]
    have hG := hF.inv.good
    have hp : 0 < ent M c c := (hF.done c (by omega)).1.resolve_right (hr c (by omega))
    have e1 : ∀ k, c + 1 + k ≤ n → elimsTo c M k = M := by
      intro k
      induction k with
      | zero => intro _; rfl
      | succ k ih => intro hk; rw [elimsTo, ih (by omega), elimA_done (hF.inv.zero c _ (by omega) (by omega) (by omega))]
    have e2 : ∀ k, k ≤ c → redTo c M k = M := by
      intro k
      induction k with
      | zero => intro _; rfl
      | succ k ih =>
        intro hk
        obtain ⟨h1, h2⟩ := (hF.done c (by omega)).2 hp k (by omega)
        rw [redTo, ih (by omega), redH_none hG (by omega) (by omega) h1 h2]
    rw [colH, e1 _ (by omega), negIf, if_neg (by omega), e2 c (Nat.le_refl _)]

theorem detS_dp {n : Nat} {M : List (List Int)} (hG : Good n M) (h1 : 1 ≤ n) (h3 : n ≤ 3) : detS M = wrap64 (dp n M) := by
  have hs := hG.sq
  have hh : n = 1 ∨ n = 2 ∨ n = 3 := by omega
  rcases hh with rfl | rfl | rfl
  · have := (hG.rng 0 0 (by omega) (by omega)).id
    obtain ⟨a, rfl⟩ := hs.one
    exact this.symm
  · obtain ⟨a, b, c, d, rfl⟩ := hs.two
    rw [detS_two]; rfl
  · obtain ⟨a, b, c, d, e, f, g, h, i, rfl⟩ := hs.three
    rw [detS_three]; rfl

/-- The Hermite form is its own Hermite form, and the determinant keeps its size. -/
theorem herm_law {h x : List (List Int)} (hx : hermV h = (x, true)) : hermV x = (x, true) ∧ (detV x = detV h ∨ detV x = -detV h) := by
  unfold hermV at hx
  split at hx
  · cases hx
  · rename_i hne
    have hd := detV_abs h
    obtain ⟨h1, h3, hI⟩ := herm_start rfl hne
    have hmat : isMat h = true := by
      cases h1 : isMat h
      · simp [detV, h1] at hne
      · rfl
    have hdv : detV h = detS h := by simp [detV, hmat]
    have hF0 : HFin h.length (detV h) 0 h := ⟨hI, .inl (by rw [hdv, detS_dp hI.good h1 h3]), fun c' hc' => by omega⟩
    have hF := hF0.herm hd h3 h.length (Nat.le_refl _)
    cases hm : isMat (hermW h)
    · rw [matIf_no hm] at hx; cases hx
    rw [matIf_yes hm] at hx
    have ex : hermW h = x := congrArg Prod.fst hx
    change HFin h.length (detV h) h.length (hermW h) at hF
    rw [ex] at hF hm
    have hG := hF.inv.good
    have hl : x.length = h.length := hG.sq.1
    obtain ⟨_, _, _, hr⟩ := isMat_facts hm
    have hstay := herm_stay hF (fun c hc => by
      have := hr (nthR x c) (nthR_mem (by omega)) (ent x c c) (by
        rw [ent, nth_eq (by rw [hG.sq.2 c hc]; exact hc)]; exact List.getElem_mem _)
      omega) h.length (Nat.le_refl _)
    have hxv : detV x = wrap64 (dp h.length x) := by rw [← detS_dp hG h1 h3]; simp [detV, hm]
    have hdet : detV x = detV h ∨ detV x = -detV h := by rw [hxv]; exact hF.det
    refine ⟨?_, hdet⟩
    unfold hermV
    rw [if_neg (by omega), hermW, hl, hstay, matIf_yes hm]

end Go.Proofs.Ytdchckljggjaaaa
