/- Plain laws of vertices: they lie in the region, in order, and at each as many halves hold with equality as there are dimensions. Conditions: none. -/
import Derived.Test.YtpfklkmmhdpphaaGreatDoorVtxMC
import Derived.Test.YtpfklkmmhdpphaaGreatDoorRat2
namespace Go.Proofs.YtpfklkmmhdpphaaGreatDoor
open Go.RowKit
set_option linter.unusedVariables false
set_option linter.unusedSimpArgs false
set_option maxRecDepth 100000

/-- The product, not wrapped. -/
def vz : List Int → List Int → Int
  | a :: us, x :: xs => a * x + vz us xs
  | _, _ => 0
theorem vz_app : ∀ {us xs : List Int} (a x : Int), us.length = xs.length → vz (us ++ [a]) (xs ++ [x]) = vz us xs + a * x
  | [], [], a, x, _ => by simp [vz]
  | b :: us, y :: xs, a, x, h => by
    have := vz_app (us := us) (xs := xs) a x (by simpa using h)
    simp only [List.cons_append, vz, this]
    omega
theorem dotTo_vz {xs ys : List Int} (h : xs.length = ys.length) : ∀ k, k ≤ xs.length → dotTo xs ys k = wrap64 (vz (xs.take k) (ys.take k))
  | 0, _ => by simp [dotTo, vz, wrap64]
  | k + 1, hk => by
    rw [dotTo, dotTo_vz h k (by omega), take_nth (by omega), take_nth (by omega), vz_app _ _ (by simp; omega), wrap64_add_l, wrap64_add_r]
theorem dotW_vz {xs ys : List Int} (h : xs.length = ys.length) : dotW xs ys = wrap64 (vz xs ys) := by
  rw [dotW, dotTo_vz h _ (Nat.le_refl _), List.take_length, h, List.take_length]
theorem vz_bound {A B : Int} : ∀ {us xs : List Int}, (∀ a ∈ us, Abs A a) → (∀ x ∈ xs, Abs B x) → 0 ≤ A * B → Abs (A * B * us.length) (vz us xs)
  | [], _, _, _, h => by simp [vz, Abs]
  | a :: us, [], h1, h2, h => by
    have : 0 ≤ A * B * ((a :: us).length : Int) := Int.mul_nonneg h (by omega)
    simp only [vz, Abs]; omega
  | a :: us, x :: xs, h1, h2, h => by
    have ih := vz_bound (us := us) (xs := xs) (fun b hb => h1 b (by simp [hb])) (fun b hb => h2 b (by simp [hb])) h
    have hm := (h1 a (by simp)).mul (h2 x (by simp))
    have := hm.add ih
    have e : A * B * ((a :: us).length : Int) = A * B + A * B * (us.length : Int) := by
      simp only [List.length_cons, Int.natCast_add, Int.mul_add]; omega
    rw [e]
    exact this
theorem vz_mul (c : Int) : ∀ us xs : List Int, vz us (xs.map (c * ·)) = c * vz us xs
  | [], _ => by simp [vz]
  | a :: us, [] => by simp [vz]
  | a :: us, x :: xs => by simp only [List.map_cons, vz, vz_mul c us xs]; grind

theorem cram_vz {D : Nat} {hs : List Pr} (h : Small D hs) (h1 : 1 ≤ D) (h3 : D ≤ 3) : ∀ u ∈ hs, wrap64 (vz u.1 (cramS hs)) = wrap64 (u.2 * detS (nrms hs)) := by
  obtain ⟨hl, hr⟩ := h
  match D, h1, h3 with
  | 1, _, _ =>
    match hs, hl with
    | [(r0, x)], _ =>
      have e0 := hr (r0, x) (by simp)
      match r0, e0 with
      | [a], _ =>
        intro u hu
        rw [List.mem_singleton] at hu
        subst hu
        have e1 : cramS [([a], x)] = [x] := by simp [cramS, colM, List.range_succ, detS]
        rw [e1]
        show wrap64 (a * x + 0) = wrap64 (x * a)
        congr 1; grind
  | 2, _, _ =>
    match hs, hl with
    | [(r0, x), (r1, y)], _ =>
      have e0 := hr (r0, x) (by simp)
      have e1 := hr (r1, y) (by simp)
      match r0, e0, r1, e1 with
      | [a, b], _, [c, d], _ =>
        have e2 : cramS [([a, b], x), ([c, d], y)] = [detS [[x, b], [y, d]], detS [[a, x], [c, y]]] := by simp [cramS, colM, List.range_succ]
        have e3 : nrms [([a, b], x), ([c, d], y)] = [[a, b], [c, d]] := rfl
        rw [e2, e3, detS_two, detS_two, detS_two]
        intro u hu
        simp only [List.mem_cons, List.not_mem_nil, or_false] at hu
        have key : ∀ p q r : Int, wrap64 (vz [p, q] [wrap64 (x * d - b * y), wrap64 (a * y - x * c)]) = wrap64 (p * (x * d - b * y) + q * (a * y - x * c)) := by
          intro p q r
          show wrap64 (p * wrap64 (x * d - b * y) + (q * wrap64 (a * y - x * c) + 0)) = _
          rw [show p * wrap64 (x * d - b * y) + (q * wrap64 (a * y - x * c) + 0) = wrap64 (x * d - b * y) * p + wrap64 (a * y - x * c) * q by grind, wdot2]
          congr 1; grind
        rcases hu with rfl | rfl
        · rw [key _ _ 0, wrap64_mul_r]; congr 1; grind
        · rw [key _ _ 0, wrap64_mul_r]; congr 1; grind
  | 3, _, _ =>
    match hs, hl with
    | [(r0, x), (r1, y), (r2, z)], _ =>
      have e0 := hr (r0, x) (by simp)
      have e1 := hr (r1, y) (by simp)
      have e2 := hr (r2, z) (by simp)
      match r0, e0, r1, e1, r2, e2 with
      | [a, b, c], _, [d, e, f], _, [g, h, i], _ =>
        have e3 : cramS [([a, b, c], x), ([d, e, f], y), ([g, h, i], z)] = [detS [[x, b, c], [y, e, f], [z, h, i]], detS [[a, x, c], [d, y, f], [g, z, i]], detS [[a, b, x], [d, e, y], [g, h, z]]] := by simp [cramS, colM, List.range_succ]
        have e4 : nrms [([a, b, c], x), ([d, e, f], y), ([g, h, i], z)] = [[a, b, c], [d, e, f], [g, h, i]] := rfl
        rw [e3, e4, detS_three, detS_three, detS_three, detS_three]
        intro u hu
        simp only [List.mem_cons, List.not_mem_nil, or_false] at hu
        have key : ∀ p q r P Q R : Int, wrap64 (vz [p, q, r] [wrap64 P, wrap64 Q, wrap64 R]) = wrap64 (p * P + q * Q + r * R) := by
          intro p q r P Q R
          show wrap64 (p * wrap64 P + (q * wrap64 Q + (r * wrap64 R + 0))) = _
          rw [show p * wrap64 P + (q * wrap64 Q + (r * wrap64 R + 0)) = wrap64 P * p + wrap64 Q * q + wrap64 R * r by grind, wdot3]
          congr 1; grind
        rcases hu with rfl | rfl | rfl
        · rw [key, wrap64_mul_r]; congr 1; grind
        · rw [key, wrap64_mul_r]; congr 1; grind
        · rw [key, wrap64_mul_r]; congr 1; grind

theorem redN_mul {num : List Int} {d : Int} (hd : 1 ≤ d) : ∃ c : Int, c ≠ 0 ∧ num = (redN num d).1.map (c * ·) ∧ d = c * (redN num d).2 := by
  have hgd := gcdI_dvdr (gcdL num) d
  have hgl := gcdI_dvdl (gcdL num) d
  have hg1 : gcdI (gcdL num) d ≠ 0 := fun e => by
    rw [e] at hgd
    have := Int.zero_dvd.1 hgd
    omega
  refine ⟨gcdI (gcdL num) d, hg1, ?_, ?_⟩
  · simp only [redN]
    rw [List.map_map]
    refine (List.map_id num).symm.trans (List.map_congr_left fun x hx => ?_)
    simp only [id_eq, Function.comp_apply]
    exact (Int.mul_tdiv_cancel' (Int.dvd_trans hgl (gcdL_dvd hx))).symm
  · simp only [redN]
    exact (Int.mul_tdiv_cancel' hgd).symm
theorem redS_mul {num : List Int} {d : Int} (h0 : d ≠ 0) (hn : ∀ x ∈ num, Abs 480000 x) : ∃ c : Int, c ≠ 0 ∧ num = (redS num d).1.map (c * ·) ∧ d = c * (redS num d).2 := by
  unfold redS
  split
  · next hd =>
    obtain ⟨c, hc, e1, e2⟩ := redN_mul (num := scaleW num (-1)) (d := -d) (by omega)
    refine ⟨-c, by omega, ?_, ?_⟩
    · have e3 : num = (scaleW num (-1)).map ((-1) * ·) := by
        simp only [scaleW, List.map_map]
        refine (List.map_id num).symm.trans (List.map_congr_left fun x hx => ?_)
        simp only [id_eq, Function.comp_apply]
        have := (hn x hx).neg
        rw [show x * -1 = -x by omega, this.wrap (by omega)]
        omega
      rw [e3]
      conv => lhs; rw [e1]
      rw [List.map_map]
      rw [← e3]
      refine List.map_congr_left fun x _ => ?_
      simp only [Function.comp_apply]
      grind
    · rw [Int.neg_mul, ← e2]; omega
  · next hd => exact redN_mul (by omega)

/-- At the point of a choice, each half of the choice holds with equality. -/
theorem leaf_equal {D : Nat} {hs ch : List Pr} (hc : Small D ch) (h1 : 1 ≤ D) (h3 : D ≤ 3) {p : Pr} (hp : p ∈ leafV hs ch) : ∀ u ∈ ch, dotW u.1 p.1 = wrap64 (u.2 * p.2) := by
  obtain ⟨_, _, _, h4, h5⟩ := cram_same hc h1 h3
  have hr := leafV_red hc h1 h3 p hp
  unfold leafV at hp
  split at hp
  · simp at hp
  · rename_i h0
    split at hp
    · rw [List.mem_singleton] at hp
      intro u hu
      obtain ⟨r1, r2, r3⟩ := hc.row u hu
      obtain ⟨c, hc0, e1, e2⟩ := redS_mul h0 h5
      rw [← hp] at e1 e2
      have hw := cram_vz hc h1 h3 u hu
      have b1 := vz_bound (us := u.1) (xs := cramS ch) r2 h5 (by omega)
      rw [r1] at b1
      have b2 := r3.mul h4
      have b3 : Abs 28800000 (vz u.1 (cramS ch)) := by
        unfold Abs at b1 ⊢
        have : (D : Int) ≤ 3 := by omega
        have : (0 : Int) ≤ D := by omega
        omega
      rw [b3.wrap (by omega), b2.wrap (by omega), e1, e2, vz_mul] at hw
      have hz : vz u.1 p.1 = u.2 * p.2 := by
        apply Int.eq_of_mul_eq_mul_left hc0
        rw [hw]; grind
      rw [dotW_vz (by rw [r1, hr.len]), hz]
    · simp at hp

theorem enum_sub (hs : List Pr) : ∀ d a ch, ∀ r ∈ enumC hs d a ch, ∃ s, r = ch ++ s ∧ s.length = d ∧ s.Sublist (hs.drop a)
  | 0, a, ch, r, hr => by
    simp only [enumC, List.mem_singleton] at hr
    exact ⟨[], by simp [hr], rfl, by simp⟩
  | d + 1, a, ch, r, hr => by
    simp only [enumC, List.mem_flatMap] at hr
    obtain ⟨i, hi, hr⟩ := hr
    rw [List.mem_range'_1] at hi
    obtain ⟨s, e, hl, hsub⟩ := enum_sub hs d (i + 1) _ r hr
    refine ⟨prAt hs i :: s, by rw [e]; simp, by simp [hl], ?_⟩
    have h1 : (prAt hs i :: s).Sublist (hs.drop i) := by
      rw [prAt_eq (by omega), List.drop_eq_getElem_cons (show i < hs.length by omega)]
      exact hsub.cons_cons _
    have h2 : (hs.drop i).Sublist (hs.drop a) := by
      rw [show i = a + (i - a) by omega, ← List.drop_drop]
      exact List.drop_sublist _ _
    exact h1.trans h2

/-- How many of the first k halves hold with equality at a point. -/
def eqTo (hs : List Pr) (xs : List Int) (a : Int) : Nat → Int
  | 0 => 0
  | k + 1 => if dotW (nrm hs k) xs = wrap64 (bnd hs k * a) then eqTo hs xs a k + 1 else eqTo hs xs a k
theorem eqTo_count (hs : List Pr) (xs : List Int) (a : Int) : ∀ k, k ≤ hs.length → eqTo hs xs a k = ((hs.take k).countP fun u => decide (dotW u.1 xs = wrap64 (u.2 * a)) : Nat)
  | 0, _ => by simp [eqTo]
  | k + 1, hk => by
    rw [eqTo, eqTo_count hs xs a k (by omega), take_prAt (by omega), List.countP_append, List.countP_singleton]
    by_cases e : dotW (nrm hs k) xs = wrap64 (bnd hs k * a)
    · rw [if_pos e, if_pos (by simpa [nrm, bnd] using e)]; omega
    · rw [if_neg e, if_neg (by simpa [nrm, bnd] using e)]; omega
theorem eqTo_in (hs : List Pr) (xs : List Int) (a : Int) : ∀ k : Nat, 0 ≤ eqTo hs xs a k ∧ eqTo hs xs a k ≤ k
  | 0 => by simp [eqTo]
  | k + 1 => by have := eqTo_in hs xs a k; rw [eqTo]; split <;> omega

theorem vtx_choice {z : Int} {hs : List Pr} {p : Pr} (hp : p ∈ vtxV z hs) : isReg z hs = true ∧ ∃ D : Nat, z = (D : Int) ∧ 1 ≤ D ∧ D ≤ 3 ∧ hs.length ≤ 8 ∧ Okh D hs ∧ Red D p ∧ ∃ ch, ch.Sublist hs ∧ Small D ch ∧ p ∈ leafV hs ch := by
  unfold vtxV at hp
  split at hp
  · next hreg =>
    refine ⟨hreg, ?_⟩
    obtain ⟨D, rfl, h1, h3, h8, hO⟩ := isReg_okh hreg
    have hO0 : Okh D [] := fun x hx => by simp at hx
    have hr := ptsC_red hO h1 h3 D 0 [] hO0 (by simp)
    have e : ((D : Int)).toNat = D := by omega
    rw [e] at hp
    have hm := ((fold_strict (D := D) (ptsC hs D 0 []) [] hr (fun p hp => by simp at hp) List.Pairwise.nil).2 p).1 hp
    have hm : p ∈ ptsC hs D 0 [] := by simpa using hm
    refine ⟨D, rfl, h1, h3, h8, hO, hr p hm, ?_⟩
    unfold ptsC at hm
    rw [List.mem_flatMap] at hm
    obtain ⟨ch, hch, hl⟩ := hm
    obtain ⟨s, e1, e2, e3⟩ := enum_sub hs D 0 [] ch hch
    simp only [List.nil_append, List.drop_zero] at e1 e3
    subst e1
    exact ⟨ch, e3, ⟨e2, fun h hh => hO h (e3.subset hh)⟩, hl⟩
  · simp at hp

theorem vtx_equal {z : Int} {hs : List Pr} {p : Pr} (hp : p ∈ vtxV z hs) : z ≤ eqTo hs p.1 p.2 hs.length := by
  obtain ⟨_, D, rfl, h1, h3, h8, hO, hr, ch, hsub, hS, hl⟩ := vtx_choice hp
  rw [eqTo_count hs _ _ _ (Nat.le_refl _), List.take_length]
  have h := hsub.countP_le (p := fun u => decide (dotW u.1 p.1 = wrap64 (u.2 * p.2)))
  have h2 : ch.countP (fun u => decide (dotW u.1 p.1 = wrap64 (u.2 * p.2))) = ch.length := by
    rw [List.countP_eq_length]
    intro u hu
    simpa using leaf_equal hS h1 h3 hl u hu
  rw [h2, hS.len] at h
  omega

theorem vtx_has {z : Int} {hs : List Pr} {p : Pr} (hp : p ∈ vtxV z hs) : hasRat z hs p.1 p.2 = true := by
  obtain ⟨hreg, D, rfl, h1, h3, h8, hO, hr, ch, hsub, hS, hl⟩ := vtx_choice hp
  have hF : hasF hs p.1 p.2 = true := by
    unfold leafV at hl
    split at hl
    · simp at hl
    · split at hl
      · next hh => rw [List.mem_singleton] at hl; rw [hl]; exact hh
      · simp at hl
  have hok : ratOk p.1 p.2 = true := by
    unfold ratOk inR allR
    have := hr.den
    simp only [Bool.and_eq_true, decide_eq_true_eq, List.all_eq_true]
    refine ⟨⟨by omega, by omega⟩, fun x hx => ?_⟩
    have := hr.num x hx
    unfold Abs at this
    unfold inR
    simp only [Bool.and_eq_true, decide_eq_true_eq]
    omega
  unfold hasRat
  rw [hreg, hok, hF, hr.len]
  simp

theorem vtx_len {z : Int} {hs : List Pr} {p : Pr} (hp : p ∈ vtxV z hs) {m : Nat} (hm : m < hs.length) : (nrm hs m).length = p.1.length := by
  obtain ⟨hreg, D, rfl, h1, h3, h8, hO, hr, ch, hsub, hS, hl⟩ := vtx_choice hp
  rw [hr.len]
  exact (hO _ (prAt_mem hm)).1
theorem vtx_whole {z : Int} {hs : List Pr} {p : Pr} (hp : p ∈ vtxV z hs) (h1 : p.2 = 1) (hv : isVec p.1 = true) : hasPt z hs p.1 = true := by
  have h := vtx_has hp
  obtain ⟨hreg, D, rfl, _, _, h8, hO, hr, _⟩ := vtx_choice hp
  unfold hasRat at h
  rw [Bool.and_eq_true, Bool.and_eq_true, Bool.and_eq_true] at h
  obtain ⟨_, _, h4, h5⟩ := h
  unfold hasPt
  rw [hreg, hv, h4]
  simp only [Bool.true_and]
  unfold hasF at h5
  unfold hasP
  rw [List.all_eq_true] at h5 ⊢
  intro u hu
  have := h5 u hu
  rw [h1, Int.mul_one] at this
  have b := (hO u hu).2.2
  rw [b.wrap (by omega)] at this
  exact this

theorem cmpI_neg {a b : Int} (h : cmpI a b < 0) : cmpI a b = -1 := by unfold cmpI at h ⊢; split <;> (try split) <;> omega
theorem cmpL_neg1 : ∀ {x y : List Int}, cmpL x y < 0 → cmpL x y = -1
  | [], [], h => by simp [cmpL] at h
  | [], _ :: _, h => rfl
  | _ :: _, [], h => by simp [cmpL] at h
  | a :: x, b :: y, h => by
    unfold cmpL at h ⊢
    split
    · next e => rw [if_pos e] at h; exact cmpL_neg1 h
    · next e => rw [if_neg e] at h; exact cmpI_neg h
theorem vtx_order {z : Int} {hs : List Pr} {i : Nat} (hi : 0 < i) (hi' : i < (vtxV z hs).length) : cmpRat (nrm (vtxV z hs) (i - 1)) (bnd (vtxV z hs) (i - 1)) (nrm (vtxV z hs) i) (bnd (vtxV z hs) i) = -1 := by
  have hm1 := prAt_mem (hs := vtxV z hs) (k := i - 1) (by omega)
  have hm2 := prAt_mem (hs := vtxV z hs) hi'
  have hr1 := vtx_has hm1
  have hr2 := vtx_has hm2
  obtain ⟨hreg, D, rfl, h1, h3, h8, hO, hd2, _⟩ := vtx_choice hm2
  have hO0 : Okh D [] := fun x hx => by simp at hx
  have hr := ptsC_red hO h1 h3 D 0 [] hO0 (by simp)
  have hP : (vtxV (D : Int) hs).Pairwise (ltR D) := by
    unfold vtxV
    rw [if_pos hreg, show ((D : Int)).toNat = D by omega]
    exact (fold_strict (D := D) (ptsC hs D 0 []) [] hr (fun p hp => by simp at hp) List.Pairwise.nil).1
  have hlt := List.pairwise_iff_getElem.1 hP (i - 1) i (by omega) hi' (by omega)
  rw [← prAt_eq, ← prAt_eq] at hlt
  obtain ⟨q1, q2, q3⟩ := hlt
  have l1 : (nrm (vtxV (D : Int) hs) (i - 1)).length = D := q1.len
  have l2 : (nrm (vtxV (D : Int) hs) i).length = D := q2.len
  have o1 : ratOk (nrm (vtxV (D : Int) hs) (i - 1)) (bnd (vtxV (D : Int) hs) (i - 1)) = true := by
    unfold hasRat at hr1; rw [Bool.and_eq_true, Bool.and_eq_true] at hr1; exact hr1.2.1
  have o2 : ratOk (nrm (vtxV (D : Int) hs) i) (bnd (vtxV (D : Int) hs) i) = true := by
    unfold hasRat at hr2; rw [Bool.and_eq_true, Bool.and_eq_true] at hr2; exact hr2.2.1
  unfold cmpRat
  rw [if_pos ⟨by rw [l1, l2], o1, o2⟩]
  exact cmpL_neg1 q3
theorem cmpI_in (a b : Int) : -1 ≤ cmpI a b ∧ cmpI a b ≤ 1 := by unfold cmpI; split <;> (try split) <;> omega
theorem cmpL_in : ∀ x y : List Int, -1 ≤ cmpL x y ∧ cmpL x y ≤ 1
  | [], [] => by simp [cmpL]
  | [], _ :: _ => by simp [cmpL]
  | _ :: _, [] => by simp [cmpL]
  | a :: x, b :: y => by
    unfold cmpL
    split
    · exact cmpL_in x y
    · exact cmpI_in a b
theorem cmpRat_in (xs : List Int) (a : Int) (ys : List Int) (b : Int) : -1 ≤ cmpRat xs a ys b ∧ cmpRat xs a ys b ≤ 1 := by
  unfold cmpRat
  split
  · exact cmpL_in _ _
  · omega
theorem cmpRat_swap (xs : List Int) (a : Int) (ys : List Int) (b : Int) : cmpRat ys b xs a = -cmpRat xs a ys b := by
  unfold cmpRat
  by_cases h : xs.length = ys.length ∧ ratOk xs a = true ∧ ratOk ys b = true
  · rw [if_pos h, if_pos ⟨h.1.symm, h.2.2, h.2.1⟩, fracCmp, fracCmp, cmpL_swap]
  · rw [if_neg h, if_neg fun e => h ⟨e.1.symm, e.2.2, e.2.1⟩]; rfl

end Go.Proofs.YtpfklkmmhdpphaaGreatDoor
