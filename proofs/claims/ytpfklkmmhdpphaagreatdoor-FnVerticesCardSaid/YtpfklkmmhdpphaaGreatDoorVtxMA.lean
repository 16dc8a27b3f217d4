/- Texts joined: VtxP VtxQ VtxKit VtxW VtxR VtxS VtxT. -/
import Derived.Test.YtpfklkmmhdpphaaGreatDoorInv
import Derived.Test.YtpfklkmmhdpphaaGreatDoorRatReg
import Derived.Test.YtpfklkmmhdpphaaGreatDoorRat2
import Derived.Test.YtpfklkmmhdpphaaGreatDoorBox
import Derived.Test.YtpfklkmmhdpphaaGreatDoorLess
import Derived.Deep.RegionLawGrows
import Derived.Test.YtpfklkmmhdpphaaGreatDoorCopy
import Derived.Test.YtpfklkmmhdpphaaGreatDoorJnIsMat
import Derived.Test.YtpfklkmmhdpphaaGreatDoorAnyU
import Derived.Lib.QuietBelow
set_option maxRecDepth 4000

/- VerticesOf, plain words: how a choice of halves is solved; both ways to reckon it agree. Conditions: small numbers. -/
namespace Go.Proofs.YtpfklkmmhdpphaaGreatDoor
open Go.RowKit
set_option linter.unusedVariables false
set_option linter.unusedSimpArgs false
set_option maxRecDepth 100000

def bnds (hs : List Pr) : List Int := hs.map (·.2)
theorem bnds_length (hs : List Pr) : (bnds hs).length = hs.length := by simp [bnds]
/-- The numerators as the program reckons them. -/
def cramF (D : Nat) (hs : List Pr) : List Int := (adjW (nrms hs) D).map fun r => dotW r (bnds hs)
theorem cramF_length (D : Nat) (hs : List Pr) : (cramF D hs).length = D := by simp [cramF, adjW]
/-- A fraction reduced, as the program does it. -/
def redF (num : List Int) (d : Int) : Pr :=
  (num.map (fun x => x.tdiv (if d < 0 then -gcdI (gcdL num) d else gcdI (gcdL num) d)), d.tdiv (if d < 0 then -gcdI (gcdL num) d else gcdI (gcdL num) d))
/-- The choice with the bounds in place of column c. -/
def colM (hs : List Pr) (c : Nat) : List (List Int) := hs.map fun h => h.1.set c h.2
def cramS (hs : List Pr) : List Int := (List.range hs.length).map fun c => detS (colM hs c)
theorem cramS_length (hs : List Pr) : (cramS hs).length = hs.length := by simp [cramS]
def redN (num : List Int) (d : Int) : Pr := (num.map (fun x => x.tdiv (gcdI (gcdL num) d)), d.tdiv (gcdI (gcdL num) d))
def redS (num : List Int) (d : Int) : Pr := if d < 0 then redN (scaleW num (-1)) (-d) else redN num d

/-- A choice of D halves of a region. -/
structure Small (D : Nat) (hs : List Pr) : Prop where
  len : hs.length = D
  row : ∀ h ∈ hs, h.1.length = D ∧ (∀ x ∈ h.1, Abs 20 x) ∧ Abs 200 h.2

theorem dotW_1 (a x : Int) : dotW [a] [x] = wrap64 (a * x) := by
  simp only [dotW, dotTo, nth, List.length_cons, List.length_nil, List.getD_cons_zero, Nat.zero_add, Int.zero_add, wrap64_wrap]
theorem dotW_2 (a b x y : Int) : dotW [a, b] [x, y] = wrap64 (a * x + b * y) := by
  simp only [dotW, dotTo, nth, List.length_cons, List.length_nil, List.getD_cons_zero, List.getD_cons_succ, Nat.zero_add, Int.zero_add, wrap64_wrap, wrap64_add_l, wrap64_add_r]
theorem dotW_3 (a b c x y z : Int) : dotW [a, b, c] [x, y, z] = wrap64 (a * x + b * y + c * z) := by
  simp only [dotW, dotTo, nth, List.length_cons, List.length_nil, List.getD_cons_zero, List.getD_cons_succ, Nat.zero_add, Int.zero_add, wrap64_wrap, wrap64_add_l, wrap64_add_r]

theorem adjW_1 (a : Int) : adjW [[a]] 1 = [[1]] := by
  simp [adjW, adjRow, adjAt, List.range_succ, detF]
theorem adjW_2 (a b c d : Int) : adjW [[a, b], [c, d]] 2 = [[detF 1 [[d]], wrap64 (-detF 1 [[b]])], [wrap64 (-detF 1 [[c]]), detF 1 [[a]]]] := by
  simp [adjW, adjRow, adjAt, List.range_succ, minorL, minorTo, nthR, cutAt]
theorem adjW_3 (a b c d e f g h i : Int) : adjW [[a, b, c], [d, e, f], [g, h, i]] 3 =
    [[detF 2 [[e, f], [h, i]], wrap64 (-detF 2 [[b, c], [h, i]]), detF 2 [[b, c], [e, f]]],
     [wrap64 (-detF 2 [[d, f], [g, i]]), detF 2 [[a, c], [g, i]], wrap64 (-detF 2 [[a, c], [d, f]])],
     [detF 2 [[d, e], [g, h]], wrap64 (-detF 2 [[a, b], [g, h]]), detF 2 [[a, b], [d, e]]]] := by
  simp [adjW, adjRow, adjAt, List.range_succ, minorL, minorTo, nthR, cutAt]

theorem wdot2 (p q x y : Int) : wrap64 (wrap64 p * x + wrap64 q * y) = wrap64 (p * x + q * y) := by
  rw [← wrap64_add_l (wrap64 p * x), wrap64_mul_l, wrap64_add_l, ← wrap64_add_r (p * x), wrap64_mul_l, wrap64_add_r]
theorem wdot3 (p q r x y z : Int) : wrap64 (wrap64 p * x + wrap64 q * y + wrap64 r * z) = wrap64 (p * x + q * y + r * z) := by
  rw [← wrap64_add_l (wrap64 p * x + wrap64 q * y), wdot2, wrap64_add_l, ← wrap64_add_r (p * x + q * y), wrap64_mul_l, wrap64_add_r]

theorem poly2a (b d x y : Int) : d * x + -b * y = x * d - b * y := by grind
theorem poly2b (a c x y : Int) : -c * x + a * y = a * y - x * c := by grind
theorem poly3a (b c e f h i x y z : Int) : (e * i - f * h) * x + -(b * i - c * h) * y + (b * f - c * e) * z = x * (e * i - f * h) - b * (y * i - f * z) + c * (y * h - e * z) := by grind
theorem poly3b (a c d f g i x y z : Int) : -(d * i - f * g) * x + (a * i - c * g) * y + -(a * f - c * d) * z = a * (y * i - f * z) - x * (d * i - f * g) + c * (d * z - y * g) := by grind
theorem poly3c (a b d e g h x y z : Int) : (d * h - e * g) * x + -(a * h - b * g) * y + (a * e - b * d) * z = a * (e * z - y * h) - b * (d * z - y * g) + x * (d * h - e * g) := by grind

/-- Both reckonings of a choice: the determinant, the numerators, and how great they are. -/
theorem cram_same {D : Nat} {hs : List Pr} (h : Small D hs) (h1 : 1 ≤ D) (h3 : D ≤ 3) :
    Sq D (nrms hs) ∧ detF D (nrms hs) = detS (nrms hs) ∧ cramF D hs = cramS hs ∧ Abs 48000 (detS (nrms hs)) ∧ ∀ x ∈ cramS hs, Abs 480000 x := by
  obtain ⟨hl, hr⟩ := h
  match D, h1, h3 with
  | 1, _, _ =>
    match hs, hl with
    | [(r0, x)], _ =>
      have e0 := hr (r0, x) (by simp)
      match r0, e0 with
      | [a], ⟨_, ha, hx⟩ =>
        have ha := ha a (by simp)
        dsimp only at hx
        have e1 : cramS [([a], x)] = [x] := by simp [cramS, colM, List.range_succ, detS]
        refine ⟨⟨rfl, fun k hk => by obtain rfl : k = 0 := by omega
                                     rfl⟩, detF_one a (by unfold Abs at ha; omega) (by unfold Abs at ha; omega), ?_, ha.mono (by omega), ?_⟩
        · rw [e1, cramF, show nrms [([a], x)] = [[a]] from rfl, adjW_1]
          show [dotW [1] [x]] = [x]
          rw [dotW_1, Int.one_mul, hx.wrap (by omega)]
        · rw [e1]
          intro y hy
          simp only [List.mem_singleton] at hy
          subst hy
          exact hx.mono (by omega)
  | 2, _, _ =>
    match hs, hl with
    | [(r0, x), (r1, y)], _ =>
      have e0 := hr (r0, x) (by simp)
      have e1 := hr (r1, y) (by simp)
      match r0, e0, r1, e1 with
      | [a, b], ⟨_, h0, hx⟩, [c, d], ⟨_, h1, hy⟩ =>
        have ha := h0 a (by simp)
        have hb := h0 b (by simp)
        have hc := h1 c (by simp)
        have hd := h1 d (by simp)
        dsimp only at hx hy
        have e2 : cramS [([a, b], x), ([c, d], y)] = [detS [[x, b], [y, d]], detS [[a, x], [c, y]]] := by simp [cramS, colM, List.range_succ]
        have hsq : Sq 2 [[a, b], [c, d]] := ⟨rfl, fun k hk => by
          match k, hk with
          | 0, _ => rfl
          | 1, _ => rfl⟩
        refine ⟨hsq, ?_, ?_, ?_, ?_⟩
        · show detF 2 [[a, b], [c, d]] = detS [[a, b], [c, d]]
          rw [detF_two, detS_two]
        · rw [e2, cramF, show nrms [([a, b], x), ([c, d], y)] = [[a, b], [c, d]] from rfl, adjW_2]
          show [dotW [_, _] [x, y], dotW [_, _] [x, y]] = _
          rw [dotW_2, dotW_2, detS_two, detS_two, detF_one d (by unfold Abs at hd; omega) (by unfold Abs at hd; omega), detF_one b (by unfold Abs at hb; omega) (by unfold Abs at hb; omega), detF_one c (by unfold Abs at hc; omega) (by unfold Abs at hc; omega),
            detF_one a (by unfold Abs at ha; omega) (by unfold Abs at ha; omega), hb.neg.wrap (by omega), hc.neg.wrap (by omega)]
          simp only [List.cons.injEq, and_true]
          exact ⟨congrArg _ (poly2a _ _ _ _), congrArg _ (poly2b _ _ _ _)⟩
        · show Abs 48000 (detS [[a, b], [c, d]])
          rw [detS_two]
          have h := (ha.mul hd).sub (hb.mul hc)
          rw [h.wrap (by omega)]
          exact h.mono (by omega)
        · rw [e2, detS_two, detS_two]
          have g1 := (hx.mul hd).sub (hb.mul hy)
          have g2 := (ha.mul hy).sub (hx.mul hc)
          rw [g1.wrap (by omega), g2.wrap (by omega)]
          intro z hz
          simp only [List.mem_cons, List.not_mem_nil, or_false] at hz
          rcases hz with rfl | rfl
          · exact g1.mono (by omega)
          · exact g2.mono (by omega)
  | 3, _, _ =>
    match hs, hl with
    | [(r0, x), (r1, y), (r2, z)], _ =>
      have e0 := hr (r0, x) (by simp)
      have e1 := hr (r1, y) (by simp)
      have e2 := hr (r2, z) (by simp)
      match r0, e0, r1, e1, r2, e2 with
      | [a, b, c], ⟨_, h0, hx⟩, [d, e, f], ⟨_, h1, hy⟩, [g, h, i], ⟨_, h2, hz⟩ =>
        have ha := h0 a (by simp)
        have hb := h0 b (by simp)
        have hc := h0 c (by simp)
        have hd := h1 d (by simp)
        have he := h1 e (by simp)
        have hf := h1 f (by simp)
        have hg := h2 g (by simp)
        have hh := h2 h (by simp)
        have hi := h2 i (by simp)
        dsimp only at hx hy hz
        have e3 : cramS [([a, b, c], x), ([d, e, f], y), ([g, h, i], z)] = [detS [[x, b, c], [y, e, f], [z, h, i]], detS [[a, x, c], [d, y, f], [g, z, i]], detS [[a, b, x], [d, e, y], [g, h, z]]] := by simp [cramS, colM, List.range_succ]
        have hsq : Sq 3 [[a, b, c], [d, e, f], [g, h, i]] := ⟨rfl, fun k hk => by
          match k, hk with
          | 0, _ => rfl
          | 1, _ => rfl
          | 2, _ => rfl⟩
        refine ⟨hsq, ?_, ?_, ?_, ?_⟩
        · show detF 3 [[a, b, c], [d, e, f], [g, h, i]] = detS [[a, b, c], [d, e, f], [g, h, i]]
          rw [detF_three, detS_three]
        · rw [e3, cramF, show nrms [([a, b, c], x), ([d, e, f], y), ([g, h, i], z)] = [[a, b, c], [d, e, f], [g, h, i]] from rfl, adjW_3]
          show [dotW [_, _, _] [x, y, z], dotW [_, _, _] [x, y, z], dotW [_, _, _] [x, y, z]] = _
          rw [dotW_3, dotW_3, dotW_3, detS_three, detS_three, detS_three]
          simp only [detF_two, wrap64_neg]
          rw [wdot3, wdot3, wdot3]
          simp only [List.cons.injEq, and_true]
          exact ⟨congrArg _ (poly3a _ _ _ _ _ _ _ _ _), congrArg _ (poly3b _ _ _ _ _ _ _ _ _), congrArg _ (poly3c _ _ _ _ _ _ _ _ _)⟩
        · show Abs 48000 (detS [[a, b, c], [d, e, f], [g, h, i]])
          rw [detS_three]
          have g1 := ((ha.mul ((he.mul hi).sub (hf.mul hh))).sub (hb.mul ((hd.mul hi).sub (hf.mul hg)))).add (hc.mul ((hd.mul hh).sub (he.mul hg)))
          rw [g1.wrap (by omega)]
          exact g1.mono (by omega)
        · rw [e3, detS_three, detS_three, detS_three]
          have g1 := ((hx.mul ((he.mul hi).sub (hf.mul hh))).sub (hb.mul ((hy.mul hi).sub (hf.mul hz)))).add (hc.mul ((hy.mul hh).sub (he.mul hz)))
          have g2 := ((ha.mul ((hy.mul hi).sub (hf.mul hz))).sub (hx.mul ((hd.mul hi).sub (hf.mul hg)))).add (hc.mul ((hd.mul hz).sub (hy.mul hg)))
          have g3 := ((ha.mul ((he.mul hz).sub (hy.mul hh))).sub (hb.mul ((hd.mul hz).sub (hy.mul hg)))).add (hx.mul ((hd.mul hh).sub (he.mul hg)))
          rw [g1.wrap (by omega), g2.wrap (by omega), g3.wrap (by omega)]
          intro u hu
          simp only [List.mem_cons, List.not_mem_nil, or_false] at hu
          rcases hu with rfl | rfl | rfl
          · exact g1.mono (by omega)
          · exact g2.mono (by omega)
          · exact g3.mono (by omega)

theorem gcdI_negr (a b : Int) : gcdI a (-b) = gcdI a b := by simp [gcdI, Int.gcd]
theorem gcdTo_neg {num : List Int} (h : ∀ x ∈ num, Abs 480000 x) : ∀ k, k ≤ num.length → gcdTo (scaleW num (-1)) k = gcdTo num k
  | 0, _ => rfl
  | k + 1, hk => by
    have hx := h (nth num k) (by rw [nth_eq (by omega)]; exact List.getElem_mem _)
    rw [gcdTo, gcdTo, gcdTo_neg h k (by omega), scaleW_nth (by omega), show nth num k * -1 = -nth num k by omega, hx.neg.wrap (by omega), gcdI_negr]
theorem gcdL_neg {num : List Int} (h : ∀ x ∈ num, Abs 480000 x) : gcdL (scaleW num (-1)) = gcdL num := by
  rw [gcdL, gcdL, scaleW_length, gcdTo_neg h _ (Nat.le_refl _)]
theorem red_same {num : List Int} {d : Int} (h : ∀ x ∈ num, Abs 480000 x) : redF num d = redS num d := by
  unfold redF redS
  by_cases hd : d < 0
  · simp only [hd, if_true, redN, gcdL_neg h, gcdI_negr, Int.tdiv_neg, Int.neg_tdiv]
    congr 1
    rw [scaleW, List.map_map]
    refine List.map_congr_left fun x hx => ?_
    simp only [Function.comp_apply]
    rw [show x * -1 = -x by omega, (h x hx).neg.wrap (by omega), Int.neg_tdiv]
  · simp only [hd, if_false, redN]

end Go.Proofs.YtpfklkmmhdpphaaGreatDoor

/- VerticesOf, plain words: the order of reduced fractions, the choices of halves, and that putting in and sorting give one list. Conditions: small numbers. -/
namespace Go.Proofs.YtpfklkmmhdpphaaGreatDoor
open Go.RowKit
set_option linter.unusedVariables false
set_option linter.unusedSimpArgs false

def cmpP (p q : Pr) : Int := fracCmp p.1 p.2 q.1 q.2
/-- A reduced fraction of D numerators. -/
structure Red (D : Nat) (p : Pr) : Prop where
  len : p.1.length = D
  den : 1 ≤ p.2 ∧ p.2 ≤ 48000
  num : ∀ x ∈ p.1, Abs 480000 x
  cop : gcdI (gcdL p.1) p.2 = 1

theorem gcdI_dvdl (a b : Int) : gcdI a b ∣ a := by unfold gcdI; exact Int.gcd_dvd_left ..
theorem gcdI_dvdr (a b : Int) : gcdI a b ∣ b := by unfold gcdI; exact Int.gcd_dvd_right ..
theorem gcdTo_dvd (xs : List Int) : ∀ k j, j < k → gcdTo xs k ∣ nth xs j
  | 0, _, h => absurd h (by omega)
  | k + 1, j, h => by
    rw [gcdTo]
    by_cases e : j = k
    · subst e; exact gcdI_dvdr _ _
    · exact Int.dvd_trans (gcdI_dvdl _ _) (gcdTo_dvd xs k j (by omega))
theorem gcdL_dvd {xs : List Int} {x : Int} (h : x ∈ xs) : gcdL xs ∣ x := by
  obtain ⟨j, hj, rfl⟩ := List.getElem_of_mem h
  rw [← nth_eq hj]
  exact gcdTo_dvd xs _ _ hj
theorem gcdI_mul {g : Int} (h : 0 ≤ g) (a b : Int) : gcdI (g * a) (g * b) = g * gcdI a b := by
  unfold gcdI
  rw [Int.gcd_mul_left, Int.natCast_mul]
  congr 1
  omega
theorem gcdTo_mul {g : Int} (h : 0 ≤ g) (xs : List Int) : ∀ k, k ≤ xs.length → gcdTo (xs.map (g * ·)) k = g * gcdTo xs k
  | 0, _ => by simp [gcdTo]
  | k + 1, hk => by
    rw [gcdTo, gcdTo, gcdTo_mul h xs k (by omega), ← gcdI_mul h]
    congr 1
    rw [nth_eq (by rw [List.length_map]; omega), nth_eq (by omega), List.getElem_map]
theorem gcdL_mul {g : Int} (h : 0 ≤ g) (xs : List Int) : gcdL (xs.map (g * ·)) = g * gcdL xs := by
  rw [gcdL, gcdL, List.length_map, gcdTo_mul h _ _ (Nat.le_refl _)]

theorem redN_red {D : Nat} {num : List Int} {d : Int} (hl : num.length = D) (hd : 1 ≤ d ∧ d ≤ 48000) (hn : ∀ x ∈ num, Abs 480000 x) : Red D (redN num d) := by
  have hg0 := gcdI_nonneg (gcdL num) d
  have hgd := gcdI_dvdr (gcdL num) d
  have hgl := gcdI_dvdl (gcdL num) d
  have hg1 : 1 ≤ gcdI (gcdL num) d := by
    have : gcdI (gcdL num) d ≠ 0 := fun e => by
      rw [e] at hgd
      have := Int.zero_dvd.1 hgd
      omega
    omega
  obtain ⟨g, hg⟩ : ∃ g, g = gcdI (gcdL num) d := ⟨_, rfl⟩
  rw [← hg] at hg0 hgd hgl hg1
  have hnum : num = (num.map (fun x => x.tdiv g)).map (g * ·) := by
    rw [List.map_map]
    refine (List.map_id num).symm.trans (List.map_congr_left fun x hx => ?_)
    simp only [id_eq, Function.comp_apply]
    exact (Int.mul_tdiv_cancel' (Int.dvd_trans hgl (gcdL_dvd hx))).symm
  obtain ⟨e, rfl⟩ := hgd
  have he : (g * e).tdiv g = e := Int.mul_tdiv_cancel_left _ (by omega)
  have hpos : 1 ≤ e := by
    have h0 : 0 < g * e := by omega
    have := Int.pos_of_mul_pos_right h0 (by omega)
    omega
  have hle : e ≤ g * e := by
    have := Int.mul_le_mul_of_nonneg_right (show (1 : Int) ≤ g by omega) (show 0 ≤ e by omega)
    omega
  refine ⟨by simp [redN, hl], ?_, ?_, ?_⟩
  · simp only [redN, ← hg, he]; omega
  · intro x hx
    simp only [redN, ← hg, List.mem_map] at hx
    obtain ⟨y, hy, rfl⟩ := hx
    have h1 := hn y hy
    have h2 : (y.tdiv g).natAbs ≤ y.natAbs := by rw [Int.natAbs_tdiv]; exact Nat.div_le_self _ _
    unfold Abs at *
    omega
  · simp only [redN, ← hg, he]
    have h1 : gcdI (gcdL num) (g * e) = g * gcdI (gcdL (num.map (fun x => x.tdiv g))) e := by
      conv => lhs; rw [hnum]
      rw [gcdL_mul hg0, gcdI_mul hg0]
    rw [← hg] at h1
    have h2 : g * 1 = g * gcdI (gcdL (num.map (fun x => x.tdiv g))) e := by omega
    exact (Int.eq_of_mul_eq_mul_left (by omega) h2).symm

theorem redS_red {D : Nat} {num : List Int} {d : Int} (hl : num.length = D) (h0 : d ≠ 0) (hd : Abs 48000 d) (hn : ∀ x ∈ num, Abs 480000 x) : Red D (redS num d) := by
  unfold redS
  unfold Abs at hd
  split
  · refine redN_red (by rw [scaleW_length, hl]) (by omega) fun x hx => ?_
    simp only [scaleW, List.mem_map] at hx
    obtain ⟨y, hy, rfl⟩ := hx
    have := (hn y hy).neg
    rw [show y * -1 = -y by omega, this.wrap (by omega)]
    exact this
  · exact redN_red hl (by omega) hn

/- The order. -/
theorem cmpL_tr : ∀ x y z : List Int, cmpL x y < 0 → cmpL y z < 0 → cmpL x z < 0
  | [], [], _, h, _ => by simp [cmpL] at h
  | [], _ :: _, [], _, h => by simp [cmpL] at h
  | [], _ :: _, _ :: _, _, _ => by simp [cmpL]
  | _ :: _, [], _, h, _ => by simp [cmpL] at h
  | _ :: _, _ :: _, [], _, h => by simp [cmpL] at h
  | a :: x, b :: y, c :: z, h1, h2 => by
    have ih := cmpL_tr x y z
    simp only [cmpL, cmpI] at h1 h2 ⊢
    by_cases e1 : a < b <;> by_cases e2 : b < a <;> by_cases e3 : b < c <;> by_cases e4 : c < b <;> by_cases e5 : a < c <;> by_cases e6 : c < a <;> simp_all <;> omega
theorem cmpL_ntr : ∀ x y z : List Int, ¬ cmpL x y < 0 → ¬ cmpL y z < 0 → ¬ cmpL x z < 0
  | [], [], _, _, h => h
  | [], _ :: _, _, h, _ => absurd (by simp [cmpL]) h
  | _ :: _, [], [], h, _ => h
  | _ :: _, [], _ :: _, _, h => absurd (by simp [cmpL]) h
  | _ :: _, _ :: _, [], _, _ => by simp [cmpL]
  | a :: x, b :: y, c :: z, h1, h2 => by
    have ih := cmpL_ntr x y z
    simp only [cmpL, cmpI] at h1 h2 ⊢
    by_cases e1 : a < b <;> by_cases e2 : b < a <;> by_cases e3 : b < c <;> by_cases e4 : c < b <;> by_cases e5 : a < c <;> by_cases e6 : c < a <;> simp_all <;> omega
theorem cmpL_eq0 : ∀ {x y : List Int}, cmpL x y = 0 → x = y
  | [], [], _ => rfl
  | [], _ :: _, h => by simp [cmpL] at h
  | _ :: _, [], h => by simp [cmpL] at h
  | a :: x, b :: y, h => by
    rw [cmpL] at h
    split at h
    · rename_i e
      rw [cmpI_ne e, cmpL_eq0 h]
    · contradiction
theorem cmpL_me : ∀ x : List Int, cmpL x x = 0
  | [] => rfl
  | a :: x => by rw [cmpL, if_pos (cmpI_self a), cmpL_me x]
theorem cmpI_swap (a b : Int) : cmpI a b = -cmpI b a := by unfold cmpI; split <;> split <;> omega
theorem cmpL_swap : ∀ x y : List Int, cmpL x y = -cmpL y x
  | [], [] => rfl
  | [], _ :: _ => rfl
  | _ :: _, [] => rfl
  | a :: x, b :: y => by
    rw [cmpL, cmpL, cmpL_swap x y, cmpI_swap b a]
    split <;> split <;> omega
theorem cmpI_mul {c : Int} (h : 0 < c) (a b : Int) : cmpI (c * a) (c * b) = cmpI a b := by
  have h1 : c * a < c * b ↔ a < b := ⟨fun k => Int.lt_of_mul_lt_mul_left k (Int.le_of_lt h), fun k => Int.mul_lt_mul_of_pos_left k h⟩
  have h2 : c * b < c * a ↔ b < a := ⟨fun k => Int.lt_of_mul_lt_mul_left k (Int.le_of_lt h), fun k => Int.mul_lt_mul_of_pos_left k h⟩
  unfold cmpI
  simp only [h1, h2]
theorem cmpL_mul {c : Int} (h : 0 < c) : ∀ x y : List Int, cmpL (x.map (c * ·)) (y.map (c * ·)) = cmpL x y
  | [], [] => rfl
  | [], _ :: _ => rfl
  | _ :: _, [] => rfl
  | a :: x, b :: y => by simp only [List.map_cons, cmpL, cmpI_mul h, cmpL_mul h x y]

theorem scaleW_red {D : Nat} {p : Pr} (h : Red D p) {c : Int} (hc : 1 ≤ c ∧ c ≤ 48000) : scaleW p.1 c = p.1.map (c * ·) := by
  refine List.map_congr_left fun x hx => ?_
  have h1 := (h.num x hx).mul (show Abs 48000 c by unfold Abs; omega)
  rw [h1.wrap (by omega), Int.mul_comm]
theorem cmpP_eq {D : Nat} {p q : Pr} (hp : Red D p) (hq : Red D q) : cmpP p q = cmpL (p.1.map (q.2 * ·)) (q.1.map (p.2 * ·)) := by
  rw [cmpP, fracCmp, scaleW_red hp hq.den, scaleW_red hq hp.den]
theorem cmpP_at {D : Nat} {p q : Pr} (hp : Red D p) (hq : Red D q) {r : Int} (hr : 1 ≤ r) : cmpP p q = cmpL (p.1.map (r * q.2 * ·)) (q.1.map (r * p.2 * ·)) := by
  rw [cmpP_eq hp hq, ← cmpL_mul (show 0 < r by omega), List.map_map, List.map_map]
  congr 1 <;> exact List.map_congr_left fun x _ => by simp only [Function.comp_apply, Int.mul_assoc]
theorem cmpP_three {D : Nat} {p q r : Pr} (hp : Red D p) (hq : Red D q) (hr : Red D r) : ∃ x y z, cmpP p q = cmpL x y ∧ cmpP q r = cmpL y z ∧ cmpP p r = cmpL x z := by
  refine ⟨p.1.map (r.2 * q.2 * ·), q.1.map (r.2 * p.2 * ·), r.1.map (p.2 * q.2 * ·), cmpP_at hp hq hr.den.1, ?_, ?_⟩
  · rw [cmpP_at hq hr hp.den.1, Int.mul_comm p.2 r.2]
  · rw [cmpP_at hp hr hq.den.1, Int.mul_comm q.2 r.2, Int.mul_comm q.2 p.2]
theorem cmpP_tr {D : Nat} {p q r : Pr} (hp : Red D p) (hq : Red D q) (hr : Red D r) (h1 : cmpP p q < 0) (h2 : cmpP q r < 0) : cmpP p r < 0 := by
  obtain ⟨x, y, z, e1, e2, e3⟩ := cmpP_three hp hq hr
  rw [e1] at h1; rw [e2] at h2; rw [e3]
  exact cmpL_tr x y z h1 h2
theorem cmpP_ntr {D : Nat} {p q r : Pr} (hp : Red D p) (hq : Red D q) (hr : Red D r) (h1 : ¬ cmpP p q < 0) (h2 : ¬ cmpP q r < 0) : ¬ cmpP p r < 0 := by
  obtain ⟨x, y, z, e1, e2, e3⟩ := cmpP_three hp hq hr
  rw [e1] at h1; rw [e2] at h2; rw [e3]
  exact cmpL_ntr x y z h1 h2
theorem cmpP_swap (p q : Pr) : cmpP p q = -cmpP q p := by rw [cmpP, cmpP, fracCmp, fracCmp, cmpL_swap]
theorem cmpP_me (p : Pr) : cmpP p p = 0 := by have := cmpP_swap p p; omega
theorem cmpP_zero {D : Nat} {p q : Pr} (hp : Red D p) (hq : Red D q) (h : cmpP p q = 0) : p = q := by
  rw [cmpP_eq hp hq] at h
  have e := cmpL_eq0 h
  have hpd := hp.den
  have hqd := hq.den
  have hG : q.2 * gcdL p.1 = p.2 * gcdL q.1 := by
    rw [← gcdL_mul (by omega), ← gcdL_mul (by omega), e]
  have d1 : q.2 ∣ p.2 := by
    have h1 : q.2 ∣ p.2 * gcdI (gcdL q.1) q.2 := by
      rw [← gcdI_mul (by omega : (0 : Int) ≤ p.2), ← hG, Int.mul_comm p.2 q.2, gcdI_mul (by omega : (0 : Int) ≤ q.2)]
      exact Int.dvd_mul_right _ _
    rwa [hq.cop, Int.mul_one] at h1
  have d2 : p.2 ∣ q.2 := by
    have h1 : p.2 ∣ q.2 * gcdI (gcdL p.1) p.2 := by
      rw [← gcdI_mul (by omega : (0 : Int) ≤ q.2), hG, Int.mul_comm q.2 p.2, gcdI_mul (by omega : (0 : Int) ≤ p.2)]
      exact Int.dvd_mul_right _ _
    rwa [hp.cop, Int.mul_one] at h1
  have e2 : p.2 = q.2 := Int.dvd_antisymm (by omega) (by omega) d2 d1
  have e1 : p.1 = q.1 := by
    rw [e2] at e
    have inj : ∀ {x y : List Int}, x.map (q.2 * ·) = y.map (q.2 * ·) → x = y := fun {x y} he => by
      induction x generalizing y with
      | nil => cases y with
        | nil => rfl
        | cons _ _ => simp at he
      | cons a x ih => cases y with
        | nil => simp at he
        | cons b y =>
          simp only [List.map_cons, List.cons.injEq] at he
          rw [Int.eq_of_mul_eq_mul_left (by omega) he.1, ih he.2]
    exact inj e
  exact Prod.ext e1 e2

/-- Two lists in strict order that hold the same are one. -/
theorem strict_one {α : Type} {R : α → α → Prop} (irr : ∀ x, ¬ R x x) (tr : ∀ x y z, R x y → R y z → R x z) : ∀ {xs ys : List α}, xs.Pairwise R → ys.Pairwise R → (∀ x, x ∈ xs ↔ x ∈ ys) → xs = ys
  | [], [], _, _, _ => rfl
  | [], y :: _, _, _, h => absurd ((h y).2 (by simp)) (by simp)
  | x :: _, [], _, _, h => absurd ((h x).1 (by simp)) (by simp)
  | x :: xs, y :: ys, hx, hy, h => by
    rw [List.pairwise_cons] at hx hy
    have e : x = y := by
      have h1 := (h x).1 (by simp)
      have h2 := (h y).2 (by simp)
      rw [List.mem_cons] at h1 h2
      rcases h1 with e | h1
      · exact e
      · rcases h2 with e | h2
        · exact e.symm
        · exact absurd (tr _ _ _ (hx.1 y h2) (hy.1 x h1)) (irr x)
    subst e
    congr 1
    refine strict_one irr tr hx.2 hy.2 fun z => ?_
    have hz := h z
    rw [List.mem_cons, List.mem_cons] at hz
    constructor
    · intro k
      rcases hz.1 (.inr k) with e | k2
      · subst e; exact absurd (hx.1 z k) (irr z)
      · exact k2
    · intro k
      rcases hz.2 (.inr k) with e | k2
      · subst e; exact absurd (hy.1 z k) (irr z)
      · exact k2

def ltR (D : Nat) (p q : Pr) : Prop := Red D p ∧ Red D q ∧ cmpP p q < 0
theorem ltR_irr (D : Nat) (p : Pr) : ¬ ltR D p p := fun h => by have := h.2.2; rw [cmpP_me] at this; omega
theorem ltR_tr (D : Nat) (p q r : Pr) (h : ltR D p q) (k : ltR D q r) : ltR D p r := ⟨h.1, k.2.1, cmpP_tr h.1 h.2.1 k.2.1 h.2.2 k.2.2⟩

/- Putting in. -/
def vAt (ps : List Pr) (v : Pr) : Nat → Nat
  | 0 => 0
  | k + 1 => if cmpP v (prAt ps k) < 0 then vAt ps v k else k + 1
theorem vAt_le (ps : List Pr) (v : Pr) : ∀ n, vAt ps v n ≤ n
  | 0 => Nat.le_refl _
  | k + 1 => by
    rw [vAt]
    split
    · exact Nat.le_succ_of_le (vAt_le ps v k)
    · exact Nat.le_refl _
theorem vAt_above (ps : List Pr) (v : Pr) : ∀ n j, vAt ps v n ≤ j → j < n → cmpP v (prAt ps j) < 0
  | 0, _, _, h => absurd h (by omega)
  | k + 1, j, h1, h2 => by
    rw [vAt] at h1
    split at h1
    · by_cases e : j = k
      · subst e; assumption
      · exact vAt_above ps v k j h1 (by omega)
    · omega
theorem vAt_here (ps : List Pr) (v : Pr) : ∀ n, 0 < vAt ps v n → ¬ cmpP v (prAt ps (vAt ps v n - 1)) < 0
  | 0, h => absurd h (by simp [vAt])
  | k + 1, h => by
    rw [vAt] at h ⊢
    split
    · rename_i e
      rw [if_pos e] at h
      exact vAt_here ps v k h
    · assumption
def vIn (ps : List Pr) (v : Pr) (k : Nat) : List Pr := ps.take k ++ [v] ++ ps.drop k
def vPut (ps : List Pr) (v : Pr) : List Pr := if 0 < vAt ps v ps.length ∧ cmpP v (prAt ps (vAt ps v ps.length - 1)) = 0 then ps else vIn ps v (vAt ps v ps.length)
theorem vPut_len (ps : List Pr) (v : Pr) : (vPut ps v).length ≤ ps.length + 1 := by
  unfold vPut
  split
  · omega
  · simp [vIn]; omega

theorem vPut_strict {D : Nat} {ps : List Pr} {v : Pr} (hv : Red D v) (hps : ∀ p ∈ ps, Red D p) (h : ps.Pairwise (ltR D)) : (vPut ps v).Pairwise (ltR D) ∧ (∀ p, p ∈ vPut ps v ↔ p = v ∨ p ∈ ps) := by
  have hle := vAt_le ps v ps.length
  have hab := vAt_above ps v ps.length
  have hhe := vAt_here ps v ps.length
  unfold vPut
  generalize vAt ps v ps.length = k at *
  split
  · rename_i e
    obtain ⟨hk, he⟩ := e
    have hm := prAt_mem (hs := ps) (k := k - 1) (by omega)
    have := cmpP_zero hv (hps _ hm) he
    refine ⟨h, fun p => ⟨.inr, fun hp => ?_⟩⟩
    rcases hp with rfl | hp
    · rw [this]; exact hm
    · exact hp
  · rename_i e
    have hpart := List.take_append_drop k ps
    have hd := h
    rw [← hpart, List.pairwise_append] at hd
    refine ⟨?_, fun p => ?_⟩
    · have hlow : ∀ p ∈ ps.take k, ltR D p v := fun p hp => by
        obtain ⟨j, hj, rfl⟩ := List.getElem_of_mem hp
        rw [List.length_take] at hj
        have hj2 : j < ps.length := by omega
        have hk0 : 0 < k := by omega
        have hlast : ltR D (prAt ps (k - 1)) v := by
          have hm := prAt_mem (hs := ps) (k := k - 1) (by omega)
          refine ⟨hps _ hm, hv, ?_⟩
          have h1 := hhe hk0
          have h2 : ¬ cmpP v (prAt ps (k - 1)) = 0 := fun e0 => e ⟨hk0, e0⟩
          have := cmpP_swap (prAt ps (k - 1)) v
          omega
        rw [List.getElem_take]
        by_cases ej : j = k - 1
        · subst ej
          rw [← prAt_eq hj2]; exact hlast
        · have := List.pairwise_iff_getElem.1 h j (k - 1) hj2 (by omega) (by omega)
          rw [← prAt_eq (k := k - 1) (by omega)] at this
          exact ltR_tr D _ _ _ this hlast
      have hhigh : ∀ p ∈ ps.drop k, ltR D v p := fun p hp => by
        have hpm := List.mem_of_mem_drop hp
        obtain ⟨j, hj, rfl⟩ := List.getElem_of_mem hp
        rw [List.length_drop] at hj
        refine ⟨hv, hps _ hpm, ?_⟩
        rw [List.getElem_drop, ← prAt_eq (by omega)]
        exact hab (k + j) (by omega) (by omega)
      unfold vIn
      rw [List.append_assoc, List.pairwise_append]
      refine ⟨hd.1, ?_, fun a ha b hb => ?_⟩
      · rw [List.singleton_append, List.pairwise_cons]
        exact ⟨hhigh, hd.2.1⟩
      · rw [List.singleton_append, List.mem_cons] at hb
        rcases hb with rfl | hb
        · exact hlow a ha
        · exact hd.2.2 a ha b hb
    · have hmem : p ∈ ps ↔ p ∈ ps.take k ∨ p ∈ ps.drop k := by rw [← List.mem_append, hpart]
      rw [vIn, List.mem_append, List.mem_append, List.mem_singleton, hmem]
      constructor
      · rintro ((h1 | h1) | h1)
        · exact .inr (.inl h1)
        · exact .inl h1
        · exact .inr (.inr h1)
      · rintro (h1 | h1 | h1)
        · exact .inl (.inr h1)
        · exact .inl (.inl h1)
        · exact .inr h1

theorem fold_strict {D : Nat} : ∀ (vs ps : List Pr), (∀ p ∈ vs, Red D p) → (∀ p ∈ ps, Red D p) → ps.Pairwise (ltR D) → (vs.foldl vPut ps).Pairwise (ltR D) ∧ ∀ p, p ∈ vs.foldl vPut ps ↔ p ∈ vs ∨ p ∈ ps
  | [], ps, _, _, h => ⟨h, fun p => by simp⟩
  | v :: vs, ps, hv, hp, h => by
    have h1 := vPut_strict (hv v (by simp)) hp h
    have h2 := fold_strict vs (vPut ps v) (fun p k => hv p (by simp [k])) (fun p k => by
      rcases (h1.2 p).1 k with rfl | k
      · exact hv _ (by simp)
      · exact hp p k) h1.1
    refine ⟨h2.1, fun p => ?_⟩
    rw [List.foldl_cons, h2.2, h1.2, List.mem_cons]
    constructor
    · rintro (a | a | a)
      · exact .inl (.inr a)
      · exact .inl (.inl a)
      · exact .inr a
    · rintro ((a | a) | a)
      · exact .inr (.inl a)
      · exact .inl a
      · exact .inr (.inr a)

/- Leaving out what stands twice. -/
def vComp (ps : List Pr) : Nat → List Pr
  | 0 => []
  | k + 1 => if 0 < k ∧ cmpP (prAt ps k) (prAt ps (k - 1)) = 0 then vComp ps k else vComp ps k ++ [prAt ps k]
theorem vComp_len (ps : List Pr) : ∀ k, (vComp ps k).length ≤ k
  | 0 => Nat.le_refl _
  | k + 1 => by
    have := vComp_len ps k
    rw [vComp]
    split
    · omega
    · simp; omega
theorem vComp_strict {D : Nat} {ps : List Pr} (hps : ∀ p ∈ ps, Red D p) (h : ps.Pairwise fun a b => ¬ cmpP b a < 0) : ∀ k, k ≤ ps.length → (vComp ps k).Pairwise (ltR D) ∧ ∀ p, p ∈ vComp ps k ↔ p ∈ ps.take k
  | 0, _ => ⟨List.Pairwise.nil, fun p => by simp [vComp]⟩
  | k + 1, hk => by
    have ih := vComp_strict hps h k (by omega)
    have hkr := hps _ (prAt_mem (hs := ps) (k := k) (by omega))
    rw [vComp]
    split
    · rename_i e
      refine ⟨ih.1, fun p => ?_⟩
      have hm := prAt_mem (hs := ps) (k := k - 1) (by omega)
      have e2 := cmpP_zero hkr (hps _ hm) e.2
      rw [ih.2, take_prAt (by omega), List.mem_append, List.mem_singleton]
      refine ⟨.inl, fun hp => ?_⟩
      rcases hp with hp | rfl
      · exact hp
      · rw [e2, prAt_eq (by omega)]
        exact List.mem_take_iff_getElem.2 ⟨k - 1, by omega, rfl⟩
    · rename_i e
      refine ⟨?_, fun p => by rw [take_prAt (by omega), List.mem_append, List.mem_append, ih.2]⟩
      rw [List.pairwise_append]
      refine ⟨ih.1, List.pairwise_singleton _ _, fun a ha b hb => ?_⟩
      rw [List.mem_singleton] at hb
      subst hb
      have ha2 := (ih.2 a).1 ha
      obtain ⟨j, hj, ea⟩ := List.mem_take_iff_getElem.1 ha2
      have hj1 : j < k := by omega
      have har := hps a (List.mem_of_mem_take ha2)
      have hlr := hps _ (prAt_mem (hs := ps) (k := k - 1) (by omega))
      have h1 : ¬ cmpP (prAt ps k) (prAt ps (k - 1)) < 0 := by
        have := List.pairwise_iff_getElem.1 h (k - 1) k (by omega) (by omega) (by omega)
        rwa [← prAt_eq, ← prAt_eq] at this
      have h2 : ¬ cmpP (prAt ps k) (prAt ps (k - 1)) = 0 := fun e0 => e ⟨by omega, e0⟩
      have h3 := cmpP_swap (prAt ps (k - 1)) (prAt ps k)
      have h4 : ltR D (prAt ps (k - 1)) (prAt ps k) := ⟨hlr, hkr, by omega⟩
      by_cases ej : j = k - 1
      · have : a = prAt ps (k - 1) := by rw [← ea, prAt_eq (by omega)]; congr 1
        rw [this]; exact h4
      · have h5 := List.pairwise_iff_getElem.1 h j (k - 1) (by omega) (by omega) (by omega)
        rw [ea, ← prAt_eq (k := k - 1) (by omega)] at h5
        refine ⟨har, hkr, ?_⟩
        have h6 := cmpP_swap a (prAt ps k)
        by_cases h7 : cmpP a (prAt ps k) < 0
        · exact h7
        · exact absurd h4.2.2 (cmpP_ntr hlr har hkr h5 h7)

/-- Sorted and thinned out, or put in one by one: one list. -/
theorem vSame {D : Nat} {vs ps : List Pr} (hvs : ∀ p ∈ vs, Red D p) (hm : ∀ p, p ∈ ps ↔ p ∈ vs) (h : ps.Pairwise fun a b => ¬ cmpP b a < 0) : vComp ps ps.length = vs.foldl vPut [] := by
  have h1 := vComp_strict (fun p hp => hvs p ((hm p).1 hp)) h ps.length (Nat.le_refl _)
  have h2 := fold_strict vs [] hvs (fun p hp => absurd hp (by simp)) List.Pairwise.nil
  refine strict_one (ltR_irr D) (ltR_tr D) h1.1 h2.1 fun p => ?_
  rw [h1.2, h2.2, List.take_length, hm]
  simp

/- The choices. -/
def enumC (hs : List Pr) : Nat → Nat → List Pr → List (List Pr)
  | 0, _, ch => [ch]
  | d + 1, a, ch => (List.range' a (hs.length - a)).flatMap fun i => enumC hs d (i + 1) (ch ++ [prAt hs i])
/-- The point of a choice, if it is told and lies in all halves. -/
def leafV (hs ch : List Pr) : List Pr :=
  if detS (nrms ch) = 0 then [] else if hasF hs (redS (cramS ch) (detS (nrms ch))).1 (redS (cramS ch) (detS (nrms ch))).2 = true then [redS (cramS ch) (detS (nrms ch))] else []
theorem leafV_len (hs ch : List Pr) : (leafV hs ch).length ≤ 1 := by
  unfold leafV
  split
  · simp
  · split <;> simp
def ptsC (hs : List Pr) (d a : Nat) (ch : List Pr) : List Pr := (enumC hs d a ch).flatMap (leafV hs)
/-- What the choices whose next half is ahead of k give. -/
def ptsTo (hs : List Pr) (d a : Nat) (ch : List Pr) (k : Nat) : List Pr := (List.range' a (k - a)).flatMap fun i => ptsC hs d (i + 1) (ch ++ [prAt hs i])
theorem ptsC_zero (hs : List Pr) (a : Nat) (ch : List Pr) : ptsC hs 0 a ch = leafV hs ch := by simp [ptsC, enumC]
theorem ptsC_succ (hs : List Pr) (d a : Nat) (ch : List Pr) : ptsC hs (d + 1) a ch = ptsTo hs d a ch hs.length := by
  rw [ptsC, enumC, List.flatMap_assoc]; rfl
theorem ptsTo_start (hs : List Pr) (d a : Nat) (ch : List Pr) : ptsTo hs d a ch a = [] := by simp [ptsTo]
theorem ptsTo_step (hs : List Pr) (d a : Nat) (ch : List Pr) {k : Nat} (h : a ≤ k) : ptsTo hs d a ch (k + 1) = ptsTo hs d a ch k ++ ptsC hs d (k + 1) (ch ++ [prAt hs k]) := by
  rw [ptsTo, show k + 1 - a = (k - a) + 1 by omega, List.range'_concat, List.flatMap_append, ptsTo]
  simp only [List.flatMap_cons, List.flatMap_nil, List.append_nil, Nat.one_mul]
  rw [show a + (k - a) = k by omega]
theorem ptsTo_end (hs : List Pr) (d a : Nat) (ch : List Pr) {k : Nat} (h : k ≤ a) : ptsTo hs d a ch k = [] := by
  rw [ptsTo, show k - a = 0 by omega]; rfl
theorem flat_len {α β : Type} (f : α → List β) (m : Nat) : ∀ l : List α, (∀ x ∈ l, (f x).length ≤ m) → (l.flatMap f).length ≤ l.length * m
  | [], _ => by simp
  | x :: l, h => by
    have h1 := h x (by simp)
    have h2 := flat_len f m l fun y hy => h y (by simp [hy])
    rw [List.flatMap_cons, List.length_append, List.length_cons, Nat.add_mul, Nat.one_mul]
    omega
theorem ptsC_len (hs : List Pr) (h : hs.length ≤ 8) : ∀ d a ch, (ptsC hs d a ch).length ≤ 8 ^ d
  | 0, a, ch => by rw [ptsC_zero]; exact leafV_len hs ch
  | d + 1, a, ch => by
    rw [ptsC_succ, ptsTo]
    have h1 := flat_len (fun i => ptsC hs d (i + 1) (ch ++ [prAt hs i])) (8 ^ d) (List.range' a (hs.length - a)) fun i _ => ptsC_len hs h d (i + 1) _
    rw [List.length_range'] at h1
    have h2 : (hs.length - a) * 8 ^ d ≤ 8 * 8 ^ d := Nat.mul_le_mul_right _ (by omega)
    rw [Nat.pow_succ, Nat.mul_comm (8 ^ d) 8]
    exact Nat.le_trans h1 h2

/-- Halves of a region in D dimensions. -/
def Okh (D : Nat) (hs : List Pr) : Prop := ∀ h ∈ hs, h.1.length = D ∧ (∀ x ∈ h.1, Abs 20 x) ∧ Abs 200 h.2
theorem Okh.small {D : Nat} {hs : List Pr} (h : Okh D hs) (hl : hs.length = D) : Small D hs := ⟨hl, h⟩
theorem Okh.app {D : Nat} {hs ch : List Pr} (h : Okh D hs) (hc : Okh D ch) {k : Nat} (hk : k < hs.length) : Okh D (ch ++ [prAt hs k]) := fun x hx => by
  rw [List.mem_append, List.mem_singleton] at hx
  rcases hx with hx | rfl
  · exact hc x hx
  · exact h _ (prAt_mem hk)
theorem leafV_red {D : Nat} {hs ch : List Pr} (hc : Small D ch) (h1 : 1 ≤ D) (h3 : D ≤ 3) : ∀ p ∈ leafV hs ch, Red D p := by
  obtain ⟨_, _, _, h4, h5⟩ := cram_same hc h1 h3
  intro p hp
  unfold leafV at hp
  split at hp
  · simp at hp
  · rename_i h0
    split at hp
    · rw [List.mem_singleton] at hp
      subst hp
      exact redS_red (by rw [cramS_length, hc.len]) h0 h4 h5
    · simp at hp
theorem ptsC_red {D : Nat} {hs : List Pr} (hO : Okh D hs) (h1 : 1 ≤ D) (h3 : D ≤ 3) : ∀ d a ch, Okh D ch → ch.length + d = D → ∀ p ∈ ptsC hs d a ch, Red D p
  | 0, a, ch, hc, hl => by rw [ptsC_zero]; exact leafV_red (hc.small (by omega)) h1 h3
  | d + 1, a, ch, hc, hl => fun p hp => by
    rw [ptsC_succ, ptsTo, List.mem_flatMap] at hp
    obtain ⟨i, hi, hp⟩ := hp
    rw [List.mem_range'_1] at hi
    exact ptsC_red hO h1 h3 d (i + 1) _ (hO.app hc (by omega)) (by simp; omega) p hp
theorem isReg_okh {z : Int} {hs : List Pr} (h : isReg z hs = true) : ∃ D : Nat, z = (D : Int) ∧ 1 ≤ D ∧ D ≤ 3 ∧ hs.length ≤ 8 ∧ Okh D hs := by
  simp only [isReg, Bool.and_eq_true, allHalf, List.all_eq_true, decide_eq_true_eq] at h
  obtain ⟨h1, h2, h3⟩ := h
  have h1 := inR_true h1
  refine ⟨z.toNat, by omega, by omega, by omega, h2, fun x hx => ?_⟩
  have := h3 x hx
  simp only [isHalf, Bool.and_eq_true, decide_eq_true_eq, allR, List.all_eq_true] at this
  obtain ⟨_, h4, h5, _, h6⟩ := this
  have h6 := inR_true h6
  exact ⟨by omega, fun y hy => inR_true (h5 y hy), h6⟩

/-- The vertices of a region. -/
def vtxV (z : Int) (hs : List Pr) : List Pr := if isReg z hs = true then (ptsC hs z.toNat 0 []).foldl vPut [] else []

end Go.Proofs.YtpfklkmmhdpphaaGreatDoor

/- Contracts of the laws' helpers on slices of rationals; append of a rational. Conditions: sizes. -/
namespace Go.Proofs.YtpfklkmmhdpphaaGreatDoor
open Go.RowKit
set_option linter.unusedVariables false
set_option linter.unusedSimpArgs false

theorem Tryz.infoRat : (Tryz.prog.info? 32).map (fun i => (i.zero, i.size, i.bytes)) = some (some (.agg #[.slice none 0 0, .int .i64 0]), 2, 32) := by kernel_rfl

theorem ratNe : 32 ≠ 3 := by decide

theorem wp_append_rat {o : Oper} {a : Act} {K : Act → World → Prop} {Q : Exit → Act → World → Prop} (s x : Operand)
    (ho : o.op = .call { callee := .builtin .append, args := #[s, x], argTypes := #[28, 28] }) (W : World) (lo hi : Nat) (p : Option Addr) (n c : Nat) (vs : List Value)
    (hs : a.eval s = .slice p n c) (hown : OwnV W 32 2 lo hi p n c vs) (g : Nat) (q : Option Addr) (m d : Nat) (b : Int) (hx : a.eval x = .slice (some ⟨g, 0, none⟩) 1 1) (hc : Box2 W g (.slice q m d) (.int .i64 b) 32)
    (hn : n ≤ 4398046510000) (hlo : lo ≤ W.heap.size)
    (h : ∀ p' c' W', OwnV W' 32 2 lo W'.heap.size p' (n + 1) c' (vs ++ [.slice q m d, .int .i64 b]) → Grow W W' p p' → K (a.put o.dst (.slice p' (n + 1) c')) W') :
    o.wp Tryz.prog a W K Q :=
  wp_appendV 32 28 2 32 (.agg #[.slice none 0 0, .int .i64 0]) Tryz.underlying28 Tryz.infoRat rfl (by decide) s x ho W lo hi p n c _ hs hown _ 1 1 [.slice q m d, .int .i64 b] hx rfl
    (fun _ => ⟨_, rfl, fun j v hv => by
      match j, hv with
      | 0, hv => simp at hv; subst hv; simpa [Addr.add] using hc.c0
      | 1, hv => simp at hv; subst hv; simpa [Addr.add] using hc.c1⟩)
    (fun v hv => by simp at hv; rcases hv with rfl | rfl <;> rfl) (by omega) (by unfold maxLen; omega) hlo
    fun p' c' W' h2 h3 => h p' c' W' h2 h3

theorem append_rat {ops : Array Oper} {rest : List Oper} {o : Oper} {a : Act} {Q : Exit → Act → World → Prop} (hgd : o.guard = none) (s x : Operand)
    (ho : o.op = .call { callee := .builtin .append, args := #[s, x], argTypes := #[28, 28] }) (W : World) (lo hi : Nat) (p : Option Addr) (n c : Nat) (vs : List Value)
    (hs : a.eval s = .slice p n c) (hown : OwnV W 32 2 lo hi p n c vs) (g : Nat) (q : Option Addr) (m d : Nat) (b : Int) (hx : a.eval x = .slice (some ⟨g, 0, none⟩) 1 1) (hc : Box2 W g (.slice q m d) (.int .i64 b) 32)
    (hn : n ≤ 4398046510000) (hlo : lo ≤ W.heap.size)
    (h : ∀ p' c' W', OwnV W' 32 2 lo W'.heap.size p' (n + 1) c' (vs ++ [.slice q m d, .int .i64 b]) → Grow W W' p p' → wpList Tryz.prog ops Q rest (a.put o.dst (.slice p' (n + 1) c')) W') :
    wpList Tryz.prog ops Q (o :: rest) a W :=
  wpList_plain hgd fun _ hK => wp_append_rat s x ho W lo hi p n c vs hs hown g q m d b hx hc hn hlo fun p' c' W' h2 h3 => hK _ _ (h p' c' W' h2 h3)

theorem step_append_rat {ops : Array Oper} {o : Oper} {a : Act} {K : Act → World → Prop} {E : Prop} {Q : Exit → Act → World → Prop} (hgd : o.guard = none) (s x : Operand)
    (ho : o.op = .call { callee := .builtin .append, args := #[s, x], argTypes := #[28, 28] }) (W : World) (lo hi : Nat) (p : Option Addr) (n c : Nat) (vs : List Value)
    (hs : a.eval s = .slice p n c) (hown : OwnV W 32 2 lo hi p n c vs) (g : Nat) (q : Option Addr) (m d : Nat) (b : Int) (hx : a.eval x = .slice (some ⟨g, 0, none⟩) 1 1) (hc : Box2 W g (.slice q m d) (.int .i64 b) 32)
    (hn : n ≤ 4398046510000) (hlo : lo ≤ W.heap.size)
    (h : ∀ p' c' W', OwnV W' 32 2 lo W'.heap.size p' (n + 1) c' (vs ++ [.slice q m d, .int .i64 b]) → Grow W W' p p' → K (a.put o.dst (.slice p' (n + 1) c')) W') :
    if Region.wanted o (yielded ops a.tmps) = true then Oper.wp Tryz.prog o a W K Q else E := by
  have hw : Region.wanted o (yielded ops a.tmps) = true := by simp [Region.wanted, hgd]
  rw [if_pos hw]
  exact wp_append_rat s x ho W lo hi p n c vs hs hown g q m d b hx hc hn hlo h

end Go.Proofs.YtpfklkmmhdpphaaGreatDoor

/- VerticesOf: words for memory in which a list of rationals grows beside chosen halves. Conditions: none. -/
namespace Go.Proofs.YtpfklkmmhdpphaaGreatDoor
open Go.RowKit
set_option linter.unusedVariables false
set_option linter.unusedSimpArgs false

/-- Block k holds rationals. -/
def RatB (w : World) (k : Nat) : Prop := ∃ cs fz, w.heap[k]? = some (.cells cs 32 fz)
/-- What lies under L, and what is no rational, is as it was; but for the blocks of X. -/
structure Fr (L : Nat) (X : Nat → Prop) (w w' : World) : Prop where
  os : w'.os = w.os
  tape : w'.tape = w.tape
  output : w'.output = w.output
  size : w.heap.size ≤ w'.heap.size
  block : ∀ k, k < w.heap.size → ¬ X k → (k < L ∨ ¬ RatB w k) → w'.heap[k]? = w.heap[k]?

section
variable {L : Nat} {X : Nat → Prop} {w w' w'' : World}
theorem Fr.refl (L : Nat) (X : Nat → Prop) (w : World) : Fr L X w w := ⟨rfl, rfl, rfl, Nat.le_refl _, fun _ _ _ _ => rfl⟩
theorem Fr.trans (h : Fr L X w w') (k : Fr L X w' w'') : Fr L X w w'' :=
  ⟨k.os.trans h.os, k.tape.trans h.tape, k.output.trans h.output, Nat.le_trans h.size k.size, fun j hj hX hr => by
    have e := h.block j hj hX hr
    rw [← e]
    refine k.block j (Nat.lt_of_lt_of_le hj h.size) hX (hr.imp id fun hn hb => hn ?_)
    obtain ⟨cs, fz, hc⟩ := hb
    exact ⟨cs, fz, by rw [← e]; exact hc⟩⟩
theorem Fr.of_below (h : Below w.heap.size w w') : Fr L X w w' := ⟨h.os, h.tape, h.output, h.size, fun k hk _ _ => h.block k hk⟩
theorem Fr.drew (h : Fr L X w w') : Fr L X w w'.drew := h.trans (Fr.of_below (drewBelow w'))
theorem Fr.alloc (h : Fr L X w w') (o : Obj) : Fr L X w (w'.alloc o) := h.trans (Fr.of_below (boxed w' o))
theorem Fr.step (h : Fr L X w w') (k : Below w'.heap.size w' w'') : Fr L X w w'' := h.trans (Fr.of_below k)
theorem Fr.setX {k : Nat} (h : X k) (i : Nat) (u : Value) : Fr L X w (w.setCell ⟨k, i, none⟩ u) :=
  ⟨rfl, rfl, rfl, by simp, fun j hj hX _ => Below.heap_setCell w _ u j (fun e => hX (by dsimp only at e; rw [e]; exact h))⟩
theorem Fr.grown {p : Option Addr} {lo hi n c size : Nat} {vs : List Value} (ho : OwnV w 32 size lo hi p n c vs) (hl : L ≤ lo) (hg : w.grownBy w' (blk p)) : Fr L X w w' :=
  ⟨hg.os, hg.tape, hg.output, hg.size, fun k hk _ hr => hg.block k hk fun e => by
    cases p with
    | none => cases e
    | some a =>
      simp only [blk, Option.map_some, Option.some.injEq] at e
      have h1 := ho.lt a rfl
      rcases hr with hr | hr
      · omega
      · rcases ho.form with ⟨e0, _⟩ | ⟨g, e0, _⟩
        · cases e0
        · injection e0 with e0
          subst e0
          dsimp only at e
          subst e
          obtain ⟨cur, hc⟩ := ho.elem
          exact hr ⟨cur, _, hc⟩⟩
theorem Fr.below (h : Fr L X w w') (hX : ∀ k, k < L → ¬ X k) (hL : L ≤ w.heap.size) : Below L w w' :=
  ⟨h.os, h.tape, h.output, h.size, fun k hk => h.block k (by omega) (hX k hk) (.inl hk)⟩

theorem OwnV.fr {E : TypeId} (hE : E ≠ 32) {size lo hi : Nat} {p : Option Addr} {n c : Nat} {vs : List Value} (h : OwnV w E size lo hi p n c vs) (k : Fr L X w w') (hX : ∀ j, lo ≤ j → ¬ X j) : OwnV w' E size lo hi p n c vs := by
  refine ⟨⟨h.row.1, ?_⟩, h.top⟩
  rcases h.row.2 with h0 | ⟨g, cap, cur, hv, hl, hg, hr⟩
  · exact .inl h0
  · refine .inr ⟨g, cap, cur, hv, hl, ?_, hr⟩
    rw [k.block g (Array.getElem?_eq_some_iff.1 hg).1 (hX g hl) (.inr fun ⟨cs, fz, e⟩ => by
      rw [hg] at e
      injection e with e
      injection e with _ e2 _
      exact hE e2)]
    exact hg
end

theorem halfRat : 47 ≠ 32 := by decide
theorem intRat : 3 ≠ 32 := by decide
theorem intsRat : 30 ≠ 32 := by decide

/-- Halves that were chosen: their cells lie in a block of the call's own, their numbers in memory that was there in W1. -/
structure Chos (W1 w : World) (lo : Nat) (q : Option Addr) (m c : Nat) (ch : List Pr) : Prop where
  ex : ∃ rows : List Row, rows.length = ch.length ∧ OwnV w 47 2 lo w.heap.size q m c (pcells rows ch) ∧ ∀ k (h : k < rows.length), rows[k].2.1 ≤ rows[k].2.2 ∧ rows[k].2.2 ≤ 9223372036854775807 ∧ Ints W1 rows[k].1 rows[k].2.1 (nrm ch k)

section
variable {W1 w w' : World} {lo : Nat} {q : Option Addr} {m c : Nat} {ch : List Pr}
theorem Chos.count (h : Chos W1 w lo q m c ch) : ch.length = m := by
  obtain ⟨rows, hl, ho, _⟩ := h.ex
  have := ho.len
  rw [pcells_length hl] at this
  omega
theorem Chos.rd (h : Chos W1 w lo q m c ch) (hb : Below W1.heap.size W1 w) : Prs w q m ch := by
  have hc := h.count
  obtain ⟨rows, hl, ho, hi⟩ := h.ex
  refine ⟨hc, fun k hk => ?_⟩
  have hk' : k < rows.length := by omega
  rcases ho.form with ⟨_, h0, _⟩ | ⟨g, rfl, _⟩
  · omega
  · have hr := pcells_row hl (k := k) hk'
    have h1 := ho.cell (k := k * 2) (by omega)
    have h2 := ho.cell (k := k * 2 + 1) (by omega)
    rw [hr.1] at h1
    rw [hr.2] at h2
    obtain ⟨h3, h4, h5⟩ := hi k hk'
    exact ⟨g, 0, _, _, _, rfl, by rw [Nat.zero_add]; exact h1, by rw [Nat.zero_add]; exact h2, h3, h4, h5.below hb⟩
theorem Chos.fr {L : Nat} {X : Nat → Prop} (h : Chos W1 w lo q m c ch) (k : Fr L X w w') (hX : ∀ j, lo ≤ j → ¬ X j) : Chos W1 w' lo q m c ch := by
  obtain ⟨rows, hl, ho, hi⟩ := h.ex
  exact ⟨rows, hl, (ho.fr halfRat k hX).up, hi⟩
theorem Chos.nil (W1 w : World) (lo : Nat) : Chos W1 w lo none 0 0 [] := ⟨[], rfl, OwnV.nil _ _ _ _ _, fun k h => absurd h (by simp)⟩
theorem Chos.empty (W1 w : World) (lo : Nat) (hlo : lo ≤ w.heap.size) : Chos W1 (w.alloc (.cells #[] 47)) lo (some ⟨w.heap.size, 0, none⟩) 0 0 [] :=
  ⟨[], rfl, ⟨World.ownsRow_made w #[] 0 hlo (Nat.zero_le _) rfl, fun a ha => by injection ha with ha; subst ha; simp⟩, fun k h => absurd h (by simp)⟩
/-- Chosen halves and one more, in a block of their own. -/
theorem Chos.more (h : Chos W1 w lo q m c ch) {q' : Option Addr} {c' : Nat} {w2 : World} {p2 : Option Addr} {m2 d2 : Nat} {xs : List Int} {b : Int} (hi2 : Ints W1 p2 m2 xs) (hm : m2 ≤ d2) (hd : d2 ≤ 9223372036854775807)
    (hv : ∀ rows : List Row, rows.length = ch.length → OwnV w 47 2 lo w.heap.size q m c (pcells rows ch) → OwnV w2 47 2 lo w2.heap.size q' (m + 1) c' (pcells rows ch ++ [.slice p2 m2 d2, .int .i64 b])) :
    Chos W1 w2 lo q' (m + 1) c' (ch ++ [(xs, b)]) := by
  obtain ⟨rows, hl, ho, hi⟩ := h.ex
  refine ⟨rows ++ [(p2, m2, d2)], by simp [hl], ?_, fun k hk => ?_⟩
  · rw [pcells_app hl]; exact hv rows hl ho
  · by_cases hkl : k < rows.length
    · rw [nrm, prAt_app (by omega)]
      simp only [List.getElem_append_left hkl]
      exact hi k hkl
    · simp only [List.length_append, List.length_cons, List.length_nil] at hk
      obtain rfl : k = rows.length := by omega
      have e : nrm (ch ++ [(xs, b)]) rows.length = xs := by rw [nrm, hl, prAt_last]
      rw [e]
      simp only [List.getElem_append_right (Nat.le_refl _), Nat.sub_self, List.getElem_cons_zero]
      exact ⟨hm, hd, hi2⟩
end

/-- append where there is no room, onto a slice that is only read: a new block. -/
theorem step_append_full {ops : Array Oper} {o : Oper} {a : Act} {K : Act → World → Prop} {E : Prop} {Q : Exit → Act → World → Prop} (hgd : o.guard = none) (s x : Operand)
    (ho : o.op = .call { callee := .builtin .append, args := #[s, x], argTypes := #[24, 24] }) (W : World) (lo hi : Nat) (p : Option Addr) (n c : Nat) (vs : List Value)
    (hs : a.eval s = .slice p n n) (hown : OwnV W 47 2 lo hi p n c vs) (g : Nat) (q : Option Addr) (m d : Nat) (b : Int) (hx : a.eval x = .slice (some ⟨g, 0, none⟩) 1 1) (hc : Box2 W g (.slice q m d) (.int .i64 b) 47)
    (hn : n ≤ 4398046510000)
    (h : ∀ p' c' W', OwnV W' 47 2 W.heap.size W'.heap.size p' (n + 1) c' (vs ++ [.slice q m d, .int .i64 b]) → Below W.heap.size W W' → K (a.put o.dst (.slice p' (n + 1) c')) W') :
    if Region.wanted o (yielded ops a.tmps) = true then Oper.wp Tryz.prog o a W K Q else E := by
  obtain ⟨i, hi1, hz0, hz1, hz2⟩ := info_parts Tryz.infoHalf
  refine step_append_grows hgd s x 24 ho 47 i _ 2 32 Tryz.underlying24 hi1 hz0 hz1 hz2 rfl (by decide) p n n vs hs (fun e => ?_) hown.len (fun b' e j u hj => ?_) ⟨g, 0, none⟩ 1 1 [.slice q m d, .int .i64 b] hx rfl (fun j v hv => ?_) (fun v hv => by simp at hv; rcases hv with rfl | rfl <;> rfl) (by omega) (by unfold maxLen; omega) (by omega) fun v' w' hr hg => ?_
  · rcases hown.form with ⟨_, h0, _⟩ | ⟨g', e', _⟩
    · exact ⟨h0, h0⟩
    · rw [e] at e'; cases e'
  · subst e
    rcases hown.form with ⟨e', _⟩ | ⟨g', e', _⟩
    · cases e'
    · injection e' with e'
      subst e'
      have hj2 : j < vs.length := (List.getElem?_eq_some_iff.1 hj).1
      rw [hown.len] at hj2
      rw [Addr.add_lit, Nat.zero_add, hown.cell hj2, hj]
  · match j, hv with
    | 0, hv => simp at hv; subst hv; simpa [Addr.add] using hc.c0
    | 1, hv => simp at hv; subst hv; simpa [Addr.add] using hc.c1
  · have hv : ∃ p' c', v' = .slice p' (n + 1) c' := by
      rcases hr.2 with ⟨hv, hn⟩ | ⟨g, cap, cur, hv, _⟩
      · omega
      · exact ⟨_, _, hv⟩
    obtain ⟨p', c', rfl⟩ := hv
    refine h p' c' w' ⟨hr, fun a ha => (hr.lt a.block (by rw [ha]; rfl)).2⟩ ((Below.refl _ _).grown hg (Nat.le_refl _) fun k hk => by cases hk)

/-- A point whose numbers are the call's own is put between two parts of a list of points. -/
theorem OwnP.putV {w W' : World} {lo mid : Nat} {p p' : Option Addr} {n c c' : Nat} {rows : List Row} {hs : List Pr} (h : OwnP 32 w lo mid p n c rows hs)
    {q : Option Addr} {m d : Nat} {ys : List Int} {b : Int} (hr : Own W' lo W'.heap.size q m d ys) (hap : ∀ r ∈ rows, (blk r.1 ≠ blk q ∨ r.1 = none) ∧ (blk q ≠ blk r.1 ∨ q = none)) (k : Nat) (hk : k ≤ n)
    (hin : ∀ j (h : j < rows.length), Own W' lo W'.heap.size rows[j].1 rows[j].2.1 rows[j].2.2 (nrm hs j))
    (hv : OwnV W' 32 2 lo W'.heap.size p' (n + 1) c' (pcells (rows.take k ++ [(q, m, d)] ++ rows.drop k) (hs.take k ++ [(ys, b)] ++ hs.drop k))) :
    OwnP 32 W' lo W'.heap.size p' (n + 1) c' (rows.take k ++ [(q, m, d)] ++ rows.drop k) (hs.take k ++ [(ys, b)] ++ hs.drop k) := by
  have hc := h.count
  have hl := h.len
  refine ⟨hv, by simp [hl], fun j hj => ?_, ?_⟩
  · have hjn : j < n + 1 := by simp at hj; omega
    have e : ∀ (x : Pr) (r : Row), (hs.take k ++ [(ys, b)] ++ hs.drop k)[j]? = some x → (rows.take k ++ [(q, m, d)] ++ rows.drop k)[j]? = some r → Own W' lo W'.heap.size r.1 r.2.1 r.2.2 x.1 →
        Own W' lo W'.heap.size ((rows.take k ++ [(q, m, d)] ++ rows.drop k)[j]).1 ((rows.take k ++ [(q, m, d)] ++ rows.drop k)[j]).2.1 ((rows.take k ++ [(q, m, d)] ++ rows.drop k)[j]).2.2 (nrm (hs.take k ++ [(ys, b)] ++ hs.drop k) j) := fun x r h1 h2 h3 => by
      rw [List.getElem?_eq_getElem hj] at h2
      injection h2 with h2
      rw [h2, nrm, prAt, List.getD, h1]
      exact h3
    have ht1 : (hs.take k).length = k := by rw [List.length_take]; omega
    have ht2 : (rows.take k).length = k := by rw [List.length_take]; omega
    by_cases h1 : j < k
    · refine e (prAt hs j) rows[j] ?_ ?_ (hin j (by omega))
      · rw [List.append_assoc, List.getElem?_append_left (by omega), List.getElem?_take_of_lt h1, prAt_eq (by omega), List.getElem?_eq_getElem]
      · rw [List.append_assoc, List.getElem?_append_left (by omega), List.getElem?_take_of_lt h1, List.getElem?_eq_getElem]
    · by_cases h2 : j = k
      · subst h2
        refine e (ys, b) (q, m, d) ?_ ?_ hr
        · rw [List.append_assoc, List.getElem?_append_right (by omega), ht1, Nat.sub_self]; rfl
        · rw [List.append_assoc, List.getElem?_append_right (by omega), ht2, Nat.sub_self]; rfl
      · obtain ⟨i, rfl⟩ : ∃ i, j = k + 1 + i := ⟨j - k - 1, by omega⟩
        refine e (prAt hs (k + i)) (rows[k + i]'(by omega)) ?_ ?_ (hin (k + i) (by omega))
        · rw [List.getElem?_append_right (by simp [ht1]), List.getElem?_drop, prAt_eq (by omega), ← List.getElem?_eq_getElem]
          congr 1
          simp [ht1]
        · rw [List.getElem?_append_right (by simp [ht2]), List.getElem?_drop, ← List.getElem?_eq_getElem]
          congr 1
          simp [ht2]
  · have hap2 : (rows.take k ++ rows.drop k).Pairwise fun r s => blk r.1 ≠ blk s.1 ∨ r.1 = none := by rw [List.take_append_drop]; exact h.apart
    rw [List.pairwise_append] at hap2
    rw [List.append_assoc, List.pairwise_append]
    refine ⟨hap2.1, ?_, fun r hr1 s hs => ?_⟩
    · rw [List.singleton_append, List.pairwise_cons]
      exact ⟨fun r hr1 => (hap r (List.mem_of_mem_drop hr1)).2, hap2.2.1⟩
    · rw [List.singleton_append, List.mem_cons] at hs
      rcases hs with rfl | hs
      · exact (hap r (List.mem_of_mem_take hr1)).1
      · exact hap2.2.2 r hr1 s hs

end Go.Proofs.YtpfklkmmhdpphaaGreatDoor

/- VerticesOf: the contract of impl.reducedPoint. Conditions: sizes. -/
namespace Go.Proofs.YtpfklkmmhdpphaaGreatDoor
open Go.RowKit
set_option linter.unusedVariables false
set_option linter.unusedSimpArgs false

theorem tdiv_62 {a g : Int} (h : In62 a) : In62 (a.tdiv g) := by
  have : (a.tdiv g).natAbs ≤ a.natAbs := by rw [Int.natAbs_tdiv]; exact Nat.div_le_self _ _
  unfold In62 at *; omega
theorem gcdI_pos {a b : Int} (h : b ≠ 0) : 1 ≤ gcdI a b := by
  have h1 := gcdI_nonneg a b
  have h2 := gcdI_dvdr a b
  have : gcdI a b ≠ 0 := fun e => by rw [e] at h2; exact h (Int.zero_dvd.1 h2)
  omega
theorem redF_eq (xs : List Int) (a G : Int) (h : G = if a < 0 then -gcdI (gcdL xs) a else gcdI (gcdL xs) a) : redF xs a = (quoW xs G, a.tdiv G) := by
  subst h; rfl

/-- The struct that is built, at the head of the loop. -/
structure Redd (w W0 wr : World) (b : Nat) (d : Int) (p' : Option Addr) (k c' : Nat) (xs : List Int) : Prop where
  out : Box2 wr b (.slice p' k c') (.int .i64 d) 32
  own : Own wr (w.heap.size + 3) wr.heap.size p' k c' xs
  low : Below b W0 wr
  size : w.heap.size + 3 ≤ wr.heap.size

set_option maxHeartbeats 2000000 in
theorem reducedPoint_any (p : Option Addr) (n c : Nat) (xs : List Int) (a : Int) (w : World) (hn : n ≤ 1048576) (hx : Ints w p n xs) (hB : ∀ k, k < xs.length → In62 (nth xs k)) (ha : In62 a) (h0 : a ≠ 0) :
    Calls Tryz.prog 30 #[.agg #[.slice p n c, .int .i64 a]] w (NewP w n (redF xs a).1 (redF xs a).2) := by
  have hl := Lib.hid hx.len
  have HB := Lib.hid hB
  have hg1 := gcdI_pos (a := gcdL xs) h0
  have hgl : In62 (gcdL xs) := (gcdTo_in hB xs.length (Nat.le_refl _)).1
  have hg2 := gcdI_in hgl ha
  have HE := Lib.hid (redF_eq xs a _ rfl)
  have hT := boxed2 w (.cells #[.slice p n c, .int .i64 a] 32) (.cells #[.slice none 0 0, .int .i64 0] 32)
  have kb : Box2 ((w.alloc (.cells #[.slice p n c, .int .i64 a] 32)).alloc (.cells #[.slice none 0 0, .int .i64 0] 32)) w.heap.size (.slice p n c) (.int .i64 a) 32 := (Box2.new w _ _ _).alloc _
  have kr : Box2 ((w.alloc (.cells #[.slice p n c, .int .i64 a] 32)).alloc (.cells #[.slice none 0 0, .int .i64 0] 32)) (w.heap.size + 1) (.slice none 0 0) (.int .i64 0) 32 := by
    have h := Box2.new (w.alloc (.cells #[.slice p n c, .int .i64 a] 32)) (.slice none 0 0) (.int .i64 0) 32
    rwa [World.size_alloc] at h
  have hz0 : ((w.alloc (.cells #[.slice p n c, .int .i64 a] 32)).alloc (.cells #[.slice none 0 0, .int .i64 0] 32)).heap.size = w.heap.size + 1 + 1 := by simp
  clear hB
  go_enter Tryz.func30, Tryz.ntmps30
  go_wp2_with fail
  generalize ((w.alloc (.cells #[.slice p n c, .int .i64 a] 32)).alloc (.cells #[.slice none 0 0, .int .i64 0] 32)) = W0 at *
  have c0 := kb.c0
  have c1 := kb.c1
  have hx0 := hx.below hT
  go_quiet ((first | (go_at_call 62; exact Calls.quiet_of (gcdAll_any _ _ _ _ _ (by omega) (hx0.drewN _) HB.out)) | (go_at_call 61; exact Calls.quiet_of (divisor_any _ _ _ hgl ha))))
  have hTd := Below.drawn hT nq
  have kbd : Box2 (W0.drewN nq) w.heap.size (.slice p n c) (.int .i64 a) 32 := kb
  have krd : Box2 (W0.drewN nq) (w.heap.size + 1) (.slice none 0 0) (.int .i64 0) 32 := kr
  have Hz := Lib.hid (show (W0.drewN nq).heap.size = w.heap.size + 1 + 1 from hz0)
  clear kb kr hT hx0 hz0 c0 c1
  generalize W0.drewN nq = W1 at *
  obtain ⟨g0, hg0⟩ : ∃ g0, gcdI (gcdL xs) a = g0 := ⟨_, rfl⟩
  rw [hg0] at hg1 hg2 HE ⊢
  clear hg0 hgl
  have c0 := kbd.c0
  have c1 := kbd.c1
  obtain ⟨G, hG⟩ : ∃ G, G = if a < 0 then -g0 else g0 := ⟨_, rfl⟩
  rw [← hG] at HE
  have hG62 : In62 G := by rw [hG]; unfold In62 at *; split <;> omega
  have hG0 : G ≠ 0 := by rw [hG]; split <;> omega
  have hq := tdiv_62 (g := G) ha
  have hgb := hg2
  have hab := ha
  unfold In62 at hgb hab
  have hH : ∀ k, k < n → In62 ((nth xs k).tdiv G) := fun k hk => tdiv_62 (HB.out k (by rw [hl.out]; exact hk))
  have HH := Lib.hid hH
  have HG := Lib.hid hG
  clear hH hG
  go_upto_if 15 with (fail)
  go_cut [3] (fun v wx => v = .int .i64 G ∧ W1 = wx)
  case first =>
    have hs1 : a < 0 ∨ 0 ≤ a := by omega
    rcases hs1 with hs1 | hs1
    · have hd1 : decide (a < 0) = true := by simpa using hs1
      go_wp2_with fail
      go_meet
      exact ⟨by rw [HG.out, if_pos hs1], rfl⟩
    · have hd1 : decide (a < 0) = false := by simp; omega
      go_wp2_with fail
      go_meet
      exact ⟨by rw [HG.out, if_neg (by omega)], rfl⟩
  case rest =>
    obtain ⟨rfl, rfl⟩ := hcut
    have hqb := hq
    unfold In62 at hqb
    have hne : ¬ G = 0 := hG0
    have kb1 := (kbd.alloc (.cells #[.slice none 0 0, .int .i64 (a.tdiv G)] 32))
    have kr1 := krd.alloc (.cells #[.slice none 0 0, .int .i64 (a.tdiv G)] 32)
    have ka := Box2.new W1 (.slice none 0 0) (.int .i64 (a.tdiv G)) 32
    have hT1 := Below.step hTd (boxed W1 (.cells #[.slice none 0 0, .int .i64 (a.tdiv G)] 32))
    have kb10 := kb1.c0
    have hz1 : (W1.alloc (.cells #[.slice none 0 0, .int .i64 (a.tdiv G)] 32)).heap.size = w.heap.size + 3 := by rw [World.size_alloc, Hz.out]
    have Hz1 := Lib.hid hz1
    clear hz1 hq
    go_wp2_with fail
    have hbx : W1.heap.size = w.heap.size + 1 + 1 := Hz.out
    rw [hbx] at ka ⊢
    have hlow : Below (w.heap.size + 1 + 1) (W1.alloc (.cells #[.slice none 0 0, .int .i64 (a.tdiv G)] 32)) (W1.alloc (.cells #[.slice none 0 0, .int .i64 (a.tdiv G)] 32)) := Below.refl _ _
    have hx1 := hx.below hT1
    have hz2 : w.heap.size + 3 ≤ (W1.alloc (.cells #[.slice none 0 0, .int .i64 (a.tdiv G)] 32)).heap.size := by rw [Hz1.out]; exact Nat.le_refl _
    clear hbx kb10 Hz1 Hz hTd kbd krd c0 c1 kb1
    generalize W1.alloc (.cells #[.slice none 0 0, .int .i64 (a.tdiv G)] 32) = W2 at *
    have hl3 := Lib.hid (quoW_length xs G)
    go_loopw [26] (fun i wr => ∃ (k : Nat) (p' : Option Addr) (c' : Nat), k ≤ n ∧ i = .int .i64 k ∧ Redd w W2 wr (w.heap.size + 1 + 1) (a.tdiv G) p' k c' ((quoW xs G).take k)) (fun i _ => n - (intOf i).toNat)
    case atStart => exact ⟨0, _, _, Nat.zero_le _, rfl, ka, Own.nil _ _ _, hlow, hz2⟩
    case round =>
      obtain ⟨k, p', c', hk, rfl, hR⟩ := hrel
      have hbw : Below w.heap.size w wr := hT1.trans (hR.low.mono (by omega))
      by_cases hlt : k < n
      · obtain ⟨b, o, rfl, hc⟩ := (hx.below hbw).cell k hlt
        have hq1 := HH.out k hlt
        unfold In62 at hq1
        have ko := hR.out
        have hown := hR.own
        have hs1 := hR.size
        have koc := ko.drew.c0
        have koc2 := ko.c0
        have s1 : IntKind.i64.wrap ((nth xs k).tdiv G) = (nth xs k).tdiv G := IntWalk.i64_in _ (by omega)
        have koc3 := (ko.alloc (.cells #[.int .i64 ((nth xs k).tdiv G)] 3)).c0
        go_wp2_with fail
        go_region_law (refine step_append_int rfl (.tmp 31) (.tmp 35) rfl _ (w.heap.size + 3) _ _ _ _ _ rfl (hown.alloc _).drew wr.heap.size _ rfl (cellNewD _ _ _) (by omega) (by simp; omega) ?_; intro p3 c3 w3 ho3 hg3; have ko3 := ((ko.alloc _).drew).grow hg3 (fun a ha => by have := (hown.lt a ha).1; omega); have kof := ko3.fr 0; have koc4 := ko3.c0)
        all_goals
          go_wp2_with fail
          go_roundw
          case rel =>
            have hb3 : Below (w.heap.size + 1 + 1) wr w3 := (Below.of (drewBelow _) (by omega)).trans ((Below.of (boxed _ _) (by simp; omega)).trans (hg3.below (by simp; omega) (fun a ha => by have := (hown.lt a ha).1; omega)))
            rw [← quoW_nth (by rw [hl.out]; exact hlt), ← take_nth (by rw [hl3.out, hl.out]; exact hlt)] at ho3
            refine ⟨k + 1, _, _, by omega, by go_num, ko3.set0 _, (ho3.setBelow (a := ⟨_, _, none⟩) (by dsimp only; omega) _).up, (hR.low.trans hb3).setCell (by dsimp only; omega) _, ?_⟩
            have := hb3.size
            simp; omega
          case measure => simp [intOf]; omega
      · obtain rfl : k = n := by omega
        rw [List.take_of_length_le (by rw [hl3.out, hl.out]; exact Nat.le_refl _)] at hR
        have kr2 := kr1.ofBelow hR.low (by omega)
        have krc0 := kr2.c0
        have krc1 := kr2.c1
        have krf0 := kr2.fr 0
        have krf1 := kr2.fr 1
        have koc0 := hR.out.c0
        have koc1 := hR.out.c1
        have kf := (kr2.set0 (.slice p' k c')).set1 (.int .i64 (a.tdiv G))
        have kf0 := kf.c0
        have kf1 := kf.c1
        have hs1 := hR.size
        go_wp2_with fail
        refine bodyPost_ret (v := .agg #[.slice p' k c', .int .i64 (a.tdiv G)]) (by simp [results, Tryz.results30, go_sem, kf0, kf1]) rfl ?_
        rw [HE.out]
        refine ⟨_, _, rfl, ((hR.own.setBelow (a := ⟨_, _, none⟩) (by dsimp only; omega) _).setBelow (a := ⟨_, _, none⟩) (by dsimp only; omega) _).up.widen (by omega) (Nat.le_refl _), ?_⟩
        exact (hbw.setCell (p := ⟨_, _, none⟩) (by dsimp only; omega) _).setCell (p := ⟨_, _, none⟩) (by dsimp only; omega) _

end Go.Proofs.YtpfklkmmhdpphaaGreatDoor

/- VerticesOf: the contract of spec.l6Solve. Conditions: sizes. -/
namespace Go.Proofs.YtpfklkmmhdpphaaGreatDoor
open Go.RowKit
set_option linter.unusedVariables false
set_option linter.unusedSimpArgs false

/-- The headers of the halves' numbers, row by row. -/
theorem Prs.rowsX {w : World} {p : Option Addr} {n : Nat} {hs : List Pr} (h : Prs w p n hs) : ∃ rows : List Row, rows.length = n ∧ ∀ k (hk : k < rows.length), ∃ b o, p = some ⟨b, o, none⟩ ∧ w.cell? ⟨b, o + k * 2, none⟩ = some (Row.val rows[k]) ∧ w.cell? ⟨b, o + k * 2 + 1, none⟩ = some (.int .i64 (bnd hs k)) ∧ rows[k].2.1 ≤ rows[k].2.2 ∧ rows[k].2.2 ≤ 9223372036854775807 ∧ Ints w rows[k].1 rows[k].2.1 (nrm hs k) := by
  have hc : ∀ k : Nat, ∃ r : Row, k < n → ∃ b o, p = some ⟨b, o, none⟩ ∧ w.cell? ⟨b, o + k * 2, none⟩ = some (Row.val r) ∧ w.cell? ⟨b, o + k * 2 + 1, none⟩ = some (.int .i64 (bnd hs k)) ∧ r.2.1 ≤ r.2.2 ∧ r.2.2 ≤ 9223372036854775807 ∧ Ints w r.1 r.2.1 (nrm hs k) := fun k => by
    by_cases hk : k < n
    · obtain ⟨b, o, q, m, d, hp, h1, h2, h3, h4, h5⟩ := h.cell k hk
      exact ⟨(q, m, d), fun _ => ⟨b, o, hp, h1, h2, h3, h4, h5⟩⟩
    · exact ⟨(none, 0, 0), fun h => absurd h hk⟩
  refine ⟨(List.range n).map fun k => Classical.choose (hc k), by simp, fun k hk => ?_⟩
  have hk' : k < n := by simpa using hk
  have := Classical.choose_spec (hc k) hk'
  simpa using this
/-- Headers of the call's own over numbers that are only read. -/
theorem hdrs_intss {W0 w : World} {lo hi : Nat} {p : Option Addr} {n c : Nat} {rows : List Row} {hs : List Pr} (h : OwnV w 30 1 lo hi p n c (rows.map Row.val)) (hl : hs.length = n) (hb : Below W0.heap.size W0 w)
    (hr : ∀ k (hk : k < rows.length), rows[k].2.1 ≤ rows[k].2.2 ∧ rows[k].2.2 ≤ 9223372036854775807 ∧ Ints W0 rows[k].1 rows[k].2.1 (nrm hs k)) : Intss w p n (nrms hs) := by
  have hrn : rows.length = n := by have := h.len; simpa using this
  refine ⟨by rw [nrms_length, hl], fun k hk => ?_⟩
  rcases h.form with ⟨_, h0, _⟩ | ⟨g, rfl, _⟩
  · omega
  · have hc := h.cell (k := k) (by omega)
    rw [List.getElem?_map, List.getElem?_eq_getElem (by omega)] at hc
    obtain ⟨h1, h2, h3⟩ := hr k (by omega)
    exact ⟨g, 0, _, _, _, rfl, by rw [Nat.zero_add]; exact hc, h1, h2, by rw [nrms_nth (by omega)]; exact h3.below hb⟩

/-- The fraction that is built, at the head of the loop. -/
structure RedB (lo b : Nat) (W0 wr : World) (d : Int) (p' : Option Addr) (k c' : Nat) (xs : List Int) : Prop where
  out : Box2 wr b (.slice p' k c') (.int .i64 d) 32
  own : Own wr lo wr.heap.size p' k c' xs
  low : Below b W0 wr
  size : lo ≤ wr.heap.size

theorem Own.someS {w : World} {lo hi : Nat} {p : Option Addr} {n c : Nat} {xs : List Int} (h : Own w lo hi p n c xs) (hn : 1 ≤ n) : ∃ g, p = some ⟨g, 0, none⟩ := by
  rcases h.row.2 with ⟨hv, h0⟩ | ⟨g, cap, cur, hv, _⟩
  · omega
  · injection hv with h1 h2 h3
    exact ⟨g, h1⟩

theorem cramS_nth {hs : List Pr} {c : Nat} (h : c < hs.length) : nth (cramS hs) c = detS (colM hs c) := by
  rw [nth_eq (by rw [cramS_length]; exact h)]; simp [cramS]
theorem colM_length (hs : List Pr) (c : Nat) : (colM hs c).length = hs.length := by simp [colM]
theorem colM_nth {hs : List Pr} {c k : Nat} (h : k < hs.length) : nthR (colM hs c) k = (nrm hs k).set c (bnd hs k) := by
  rw [nthR_eq (by rw [colM_length]; exact h), nrm, bnd, prAt_eq h]; simp [colM]
theorem colM_sq {D : Nat} {hs : List Pr} (h : Small D hs) (c : Nat) : Sq D (colM hs c) :=
  ⟨by rw [colM_length, h.len], fun k hk => by
    have hk' : k < hs.length := by rw [h.len]; exact hk
    rw [colM_nth hk', List.length_set]
    exact (h.row _ (prAt_mem hk')).1⟩
theorem nrms_sq {D : Nat} {hs : List Pr} (h : Small D hs) : Sq D (nrms hs) :=
  ⟨by rw [nrms_length, h.len], fun k hk => by
    have hk' : k < hs.length := by rw [h.len]; exact hk
    rw [nrms_nth hk']
    exact (h.row _ (prAt_mem hk')).1⟩

/-- A fraction and whether it is one. -/
def NewRatB (w : World) (r : Pr) (ok : Bool) (e : Ending) (w' : World) : Prop :=
  ∃ p n c, e = .returned (.tuple #[.agg #[.slice p n c, .int .i64 r.2], .bool ok]) ∧ Own w' w.heap.size w'.heap.size p n c r.1 ∧ Below w.heap.size w w'
def solS (hs : List Pr) : Pr × Bool := if detS (nrms hs) = 0 then (([], 0), false) else (redS (cramS hs) (detS (nrms hs)), true)

set_option maxHeartbeats 4000000 in
theorem l6Solve_any (D : Nat) (p : Option Addr) (c : Nat) (hs : List Pr) (w : World) (h1 : 1 ≤ D) (h3 : D ≤ 3) (hx : Prs w p D hs) (hS : Small D hs) :
    Calls Tryz.prog 69 #[.slice p D c] w (NewRatB w (solS hs).1 (solS hs).2) := by
  have hl := Lib.hid hx.len
  have HS := Lib.hid hS
  clear hS
  have kr := Box2.new w (.slice none 0 0) (.int .i64 0) 32
  have hT := boxed w (.cells #[.slice none 0 0, .int .i64 0] 32)
  have Hz := Lib.hid (show (w.alloc (.cells #[.slice none 0 0, .int .i64 0] 32)).heap.size = w.heap.size + 1 by simp)
  go_enter Tryz.func69, Tryz.ntmps69
  go_wp2_with fail
  have hx0 := hx.below hT
  generalize w.alloc (.cells #[.slice none 0 0, .int .i64 0] 32) = W0 at *
  clear hx
  obtain ⟨rows, hrl, hrows⟩ := hx0.rowsX
  have HR := Lib.hid hrows
  have hrl := Lib.hid hrl
  clear hrows
  go_loopw [4, 5] (fun v i wr => ∃ (k : Nat) (p' : Option Addr) (c' : Nat), k ≤ D ∧ i = .int .i64 k ∧ v = .slice p' k c' ∧ OwnV wr 30 1 W0.heap.size wr.heap.size p' k c' ((rows.take k).map Row.val) ∧ Below W0.heap.size W0 wr) (fun _ i _ => D - (intOf i).toNat)
  case atStart => exact ⟨0, _, _, Nat.zero_le _, rfl, rfl, by rw [List.take_zero, ← Hz.out]; exact (Own2.empty W0).outer.up, boxed _ _⟩
  case round =>
    obtain ⟨k, p', c', hk, rfl, rfl, hown, hb⟩ := hrel
    by_cases hlt : k < D
    · obtain ⟨b, o, rfl, hc, hcb, hm1, hm2, hi⟩ := HR.out k (by rw [hrl.out]; exact hlt)
      have hc := Below.cells hb hc
      have htk : Hid ((rows.take (k + 1)).map Row.val = (rows.take k).map Row.val ++ [Row.val (rows[k]'(by rw [hrl.out]; exact hlt))]) := by
        show _ = _
        rw [List.take_succ_eq_append_getElem (by rw [hrl.out]; exact hlt), List.map_append]; rfl
      generalize rows[k]'(by rw [hrl.out]; exact hlt) = r at *
      obtain ⟨q, m, d⟩ := r
      change wr.cell? _ = some (.slice q m d) at hc
      clear hi hm1 hm2 hcb
      go_wp2_with (at_builtin; refine append_row rfl _ _ rfl _ W0.heap.size _ _ _ _ _ rfl (hown.alloc _) _ _ _ _ rfl (cellNew _ _ _) (by omega) (sizeNew hb _) ?_; intro p5 c5 w5 ho5 hg5)
      go_roundw
      case rel =>
        refine ⟨k + 1, _, _, by omega, by go_num, rfl, ?_, (hb.alloc hb.size _).trans (hg5.below (sizeNew hb _) (fun a ha => (hown.lt a ha).1))⟩
        rw [htk.out]
        exact ho5
      case measure => simp [intOf]; omega
    · obtain rfl : k = D := by omega
      rw [List.take_of_length_le (by rw [hrl.out]; exact Nat.le_refl _)] at hown
      have hM := hdrs_intss hown hl.out hb (fun k hk => by
        obtain ⟨_, _, _, _, _, h4, h5, h6⟩ := HR.out k hk
        exact ⟨h4, h5, h6⟩)
      have hbT := Below.step hT hb
      have kr1 := kr.below hb
      clear hown
      generalize wr = W1 at *
      go_wp2_with fail
      refine (l3Det_any _ _ _ _ _ hM (nrms_sq HS.out) h1 h3).mono ?_
      rintro e w2 ⟨rfl, hb2⟩
      have hM := hM.below hb2
      have kr2 := kr1.below hb2
      have hbT2 := Below.step hbT hb2
      have hxl := (hx0.below hb).below hb2
      clear kr1 hbT hb2 hx0 hb kr hT
      obtain ⟨_, _, hcr, hdA, hnA⟩ := cram_same HS.out h1 h3
      clear hcr
      have HnA := Lib.hid hnA
      clear hnA
      have Hsol := Lib.hid (show solS hs = if detS (nrms hs) = 0 then (([], 0), false) else (redS (cramS hs) (detS (nrms hs)), true) from rfl)
      generalize detS (nrms hs) = d at *
      have krc0 := kr2.c0
      have krc1 := kr2.c1
      have krf0 := kr2.fr 0
      have krf1 := kr2.fr 1
      by_cases hd0 : d = 0
      · subst hd0
        have Hs0 := Lib.hid (show solS hs = (([], 0), false) by rw [Hsol.out, if_pos rfl])
        clear Hsol
        have kf := (kr2.set0 (.slice none 0 0)).set1 (.int .i64 0)
        have kf0 := kf.c0
        have kf1 := kf.c1
        go_wp2_with fail
        rw [Hs0.out]
        refine bodyPost_ret (v := .tuple #[.agg #[.slice none 0 0, .int .i64 0], .bool false]) (by simp [results, Tryz.results69, go_sem, kf0, kf1]) rfl ?_
        exact ⟨_, _, _, rfl, Own.nil _ _ _, (hbT2.setCell (p := ⟨_, _, none⟩) (by dsimp only; omega) _).setCell (p := ⟨_, _, none⟩) (by dsimp only; omega) _⟩
      · have hd0' : (d == 0) = false := by simpa using hd0
        have Hs0 := Lib.hid (show solS hs = (redS (cramS hs) d, true) by rw [Hsol.out, if_neg hd0])
        clear krc0 krc1 krf0 krf1 Hsol
        have hcl := Lib.hid (cramS_length hs)
        go_wp2_with fail
        have hkr3 := kr2.alloc (.cells #[] 3)
        go_loopw [7, 8] (fun v i wr => ∃ (t : Nat) (p' : Option Addr) (c' : Nat), t ≤ k ∧ i = .int .i64 t ∧ v = .slice p' t c' ∧ Own wr w2.heap.size wr.heap.size p' t c' ((cramS hs).take t) ∧ Below w2.heap.size w2 wr) (fun _ i _ => k - (intOf i).toNat)
        case atStart => exact ⟨0, _, _, Nat.zero_le _, rfl, rfl, by rw [List.take_zero]; exact (Own.empty w2).up, boxed _ _⟩
        case round =>
          obtain ⟨t, p2, c2, ht, rfl, rfl, hown, hb⟩ := hrel
          by_cases hlt2 : t < k
          · have hM3 := hM.below hb
            have hx3 := hxl.below hb
            generalize wr = V at *
            go_wp2_with fail
            go_loopw [9, 10] (fun v i wr => ∃ (r : Nat) (p' : Option Addr) (c' : Nat) (rows' : List Row), r ≤ k ∧ i = .int .i64 r ∧ v = .slice p' r c' ∧ Own2 wr V.heap.size wr.heap.size p' r c' rows' ((colM hs t).take r) ∧ Below V.heap.size V wr) (fun _ i _ => k - (intOf i).toNat)
            case atStart => exact ⟨0, _, _, [], Nat.zero_le _, rfl, rfl, by rw [List.take_zero]; exact (Own2.empty V).up, boxed _ _⟩
            case round =>
              obtain ⟨r, p3, c3, rows', hr, rfl, rfl, ho2, hb2⟩ := hrel
              by_cases hlt3 : r < k
              · obtain ⟨b, o, q, m, dd, rfl, hc, hmd, hdd, hi⟩ := (hM3.below hb2).cellc r hlt3
                obtain ⟨b4, o4, q4, m4, d4, rfl, hc4, hcb4, _, _, _⟩ := (hx3.below hb2).cell r hlt3
                obtain rfl : k = m := by rw [← hi.len]; exact ((nrms_sq HS.out).2 r hlt3).symm
                rw [nrms_nth (by rw [hl.out]; exact hlt3)] at hi
                have hca := Below.cells (boxed wr (.cells #[] 3)) hc
                have hcb5 := Below.cells (boxed wr (.cells #[] 3)) hcb4
                have hia := hi.below (boxed wr (.cells #[] 3))
                have hbr := boxed wr (.cells #[] 3)
                have hsz := hb2.size
                have Hnr := Lib.hid hi.len
                go_upto_region 19 with (at_builtin; refine append_ints rfl _ _ rfl _ wr.heap.size _ _ _ _ _ rfl (Own.empty wr) _ _ _ _ rfl hia (by omega) (by simp) ?_; intro p5 c5 w5 ho5 hg5; simp only [Nat.zero_add, List.nil_append] at ho5; have hb5 : Below wr.heap.size wr w5 := hbr.trans (hg5.belowO (Own.empty wr) (by simp)); obtain ⟨g5, rfl⟩ := ho5.someS h1; have hcw := Below.cells hb5 hcb4; have hfz := ho5.frozen t; have hcl5 := ho5.cell hlt2; have hg1 := (ho5.lt _ rfl).1; have ho6 := ho5.set t (bnd hs r); have hb6 := hb5.setCell (p := ⟨g5, t, none⟩) hg1 (Value.int .i64 (bnd hs r)); have hp6 := ho2.below hb6; have hV6 := Below.step hb2 hb6)
                generalize w5.setCell ⟨g5, t, none⟩ (Value.int .i64 (bnd hs r)) = w6 at *
                go_wp2_with (at_builtin; refine append_row rfl _ _ rfl _ V.heap.size _ _ _ _ _ rfl (hp6.outer.alloc _) _ _ _ _ rfl (cellNew _ _ _) (by omega) (sizeNew hV6 _) ?_; intro p7 c7 w7 ho7 hg7)
                have h7 := hp6.app ho6 hb2.size (boxed _ _) ho7 hg7
                have hV7 : Below V.heap.size V w7 := (hV6.alloc hV6.size _).trans (hg7.below (sizeNew hV6 _) (fun a ha => (hp6.outer.lt a ha).1))
                go_roundw
                case rel =>
                  refine ⟨r + 1, _, _, rows' ++ [(some ⟨g5, 0, none⟩, k, c5)], by omega, by go_num, rfl, ?_, hV7⟩
                  rw [take_nthR (by rw [colM_length, hl.out]; exact hlt3), colM_nth (by rw [hl.out]; exact hlt3)]
                  exact h7
                case measure => simp [intOf]; omega
              · obtain rfl : r = k := by omega
                rw [List.take_of_length_le (by rw [colM_length, hl.out]; exact Nat.le_refl _)] at ho2
                have hown2 := hown.below hb2
                have hsz := hb2.size
                have hsz2 := hb.size
                have hbV := Below.step hb hb2
                go_wp2_with fail
                refine (l3Det_any _ _ _ _ _ ho2.rd (colM_sq HS.out t) h1 h3).mono ?_
                rintro e w6 ⟨rfl, hb6⟩
                have hown6 := hown2.below hb6
                have hbV6 := Below.step hbV hb6
                have Hn := Lib.hid (cramS_nth (hs := hs) (c := t) (by rw [hl.out]; exact hlt2))
                generalize detS (colM hs t) = dt at *
                go_wp2_with (at_builtin; refine append_int rfl _ _ rfl _ w2.heap.size _ _ _ _ _ rfl (hown6.alloc _) w6.heap.size _ rfl (cellNew _ _ _) (by omega) (sizeNew hbV6 _) ?_; intro p7 c7 w7 ho7 hg7)
                go_roundw
                case rel =>
                  refine ⟨t + 1, _, _, by omega, by go_num, rfl, ?_, (hbV6.alloc hbV6.size _).trans (hg7.below (sizeNew hbV6 _) (fun a ha => (hown6.lt a ha).1))⟩
                  rw [take_nth (by rw [hcl.out, hl.out]; exact hlt2), Hn.out]
                  exact ho7
                case measure => simp [intOf]; omega
          · obtain rfl : t = k := by omega
            rw [List.take_of_length_le (by rw [hcl.out, hl.out]; exact Nat.le_refl _)] at hown
            have kr3 := kr2.below hb
            have hbT3 := Below.step hbT2 hb
            have hsz := hb.size
            clear hM hxl hkr3
            unfold Abs at hdA
            go_upto_if 73 with (fail)
            go_cut [6, 7] (fun x y wx => ∃ (d1 : Int) (q1 : Option Addr) (c1 : Nat) (num : List Int), x = .int .i64 d1 ∧ y = .slice q1 t c1 ∧ 1 ≤ d1 ∧ d1 ≤ 48000 ∧ Own wx w2.heap.size wx.heap.size q1 t c1 num ∧ Below wr.heap.size wr wx ∧ Hid (redS (cramS hs) d = redN num d1) ∧ Hid (∀ x ∈ num, Abs 480000 x))
            case first =>
              have hs1 : d < 0 ∨ 0 ≤ d := by omega
              rcases hs1 with hs1 | hs1
              · have hd1 : decide (d < 0) = true := by simpa using hs1
                have Hred := Lib.hid (show redS (cramS hs) d = redN (scaleW (cramS hs) (-1)) (-d) by rw [redS, if_pos hs1])
                have Hab : Hid (∀ x ∈ scaleW (cramS hs) (-1), Abs 480000 x) := Lib.hid fun x hx => by
                  simp only [scaleW, List.mem_map] at hx
                  obtain ⟨y, hy, rfl⟩ := hx
                  have := (HnA.out y hy).neg
                  rw [show y * -1 = -y by omega, this.wrap (by omega)]
                  exact this
                go_wp2_with fail
                refine (l2Scale_any _ _ _ _ _ _ (by omega) hown.ints).mono ?_
                rintro e w8 ⟨q8, c8, rfl, ho8, hb8⟩
                go_wp2_with fail
                go_meet
                exact ⟨_, _, _, _, rfl, rfl, by omega, by omega, ho8.widen (by omega) (Nat.le_refl _), hb8, Hred, Hab⟩
              · have hd1 : decide (d < 0) = false := by simp; omega
                have Hred := Lib.hid (show redS (cramS hs) d = redN (cramS hs) d by rw [redS, if_neg (by omega)])
                go_wp2_with fail
                go_meet
                exact ⟨_, _, _, _, rfl, rfl, by omega, by omega, hown.up, Below.refl _ _, Hred, HnA⟩
            case rest =>
              obtain ⟨d1, q1, c1, num, rfl, rfl, hd1, hd2, hown1, hb1, Hred, Hab⟩ := hcut
              have kr4 := kr3.below hb1
              have hbT4 := Below.step hbT3 hb1
              have hnl := Lib.hid hown1.len
              have HB : Hid (∀ k, k < num.length → In62 (nth num k)) := Lib.hid fun k hk => by
                have := Hab.out (nth num k) (by rw [nth_eq hk]; exact List.getElem_mem _)
                unfold Abs at this; unfold In62; omega
              have hgl : In62 (gcdL num) := (gcdTo_in HB.out num.length (Nat.le_refl _)).1
              have hg1 := gcdI_pos (a := gcdL num) (b := d1) (by omega)
              have hd62 : In62 d1 := by unfold In62; omega
              have Hrn := Lib.hid (show redN num d1 = (quoW num (gcdI (gcdL num) d1), d1.tdiv (gcdI (gcdL num) d1)) from rfl)
              have hg2 := gcdI_in hgl hd62
              clear kr3 hb hb1 hbT2 hbT3 hown kr2
              generalize wc = W1 at *
              go_upto_region 25 with (first | (go_at_call 89; (with_reducible refine (l2All_any _ _ _ _ _ (by omega) hown1.ints HB.out).mono ?_); rintro e w' ⟨rfl, rfl⟩) | (go_at_call 91; (with_reducible refine (l2Gcd_any _ _ _ hgl hd62).mono ?_); rintro e w' ⟨rfl, rfl⟩))
              generalize gcdI (gcdL num) d1 = g at *
              clear hgl
              have hqd := tdiv_62 (g := g) hd62
              have hqe : d1.tdiv g = d1 / g := Int.tdiv_eq_ediv_of_nonneg (by omega)
              rw [hqe] at hqd Hrn
              clear hqe
              unfold In62 at hqd hg2 hd62
              have hne : ¬ g = 0 := by omega
              obtain ⟨e1, he1⟩ : ∃ e1, d1 / g = e1 := ⟨_, rfl⟩
              rw [he1] at hqd Hrn
              have HH : Hid (∀ k, k < t → In62 ((nth num k).tdiv g)) := Lib.hid fun k hk => tdiv_62 (HB.out k (by rw [hnl.out]; exact hk))
              have ka := Box2.new W1 (.slice none 0 0) (.int .i64 e1) 32
              have kr5 := kr4.alloc (.cells #[.slice none 0 0, .int .i64 e1] 32)
              have hT5 := Below.step hbT4 (boxed W1 (.cells #[.slice none 0 0, .int .i64 e1] 32))
              have ho5 := hown1.alloc (.cells #[.slice none 0 0, .int .i64 e1] 32)
              have Hz1 := Lib.hid (show (W1.alloc (.cells #[.slice none 0 0, .int .i64 e1] 32)).heap.size = W1.heap.size + 1 by rw [World.size_alloc])
              have hwW := Lib.hid hbT4.size
              have hlow : Below (W1.heap.size + 1) (W1.alloc (.cells #[.slice none 0 0, .int .i64 e1] 32)) (W1.alloc (.cells #[.slice none 0 0, .int .i64 e1] 32)) := Below.refl _ _
              go_wp2_with fail
              have hlow : Below W1.heap.size W1 (W1.alloc (.cells #[.slice none 0 0, .int .i64 e1] 32)) := boxed _ _
              have hkr6 := kr4
              have hz1 : W1.heap.size + 1 ≤ (W1.alloc (.cells #[.slice none 0 0, .int .i64 e1] 32)).heap.size := by rw [Hz1.out]; exact Nat.le_refl _
              clear Hz1 kr5 hT5 ho5
              have He1 := Lib.hid he1
              clear he1
              generalize W1.alloc (.cells #[.slice none 0 0, .int .i64 e1] 32) = W3 at *
              have hl3 := Lib.hid (quoW_length num g)
              have hnum := hown1.ints
              clear hown1
              go_loopw [14] (fun i wr => ∃ (k : Nat) (p' : Option Addr) (c' : Nat), k ≤ t ∧ i = .int .i64 k ∧ RedB (W1.heap.size + 1) W1.heap.size W1 wr e1 p' k c' ((quoW num g).take k)) (fun i _ => t - (intOf i).toNat)
              case atStart => exact ⟨0, _, _, Nat.zero_le _, rfl, ka, Own.nil _ _ _, hlow, hz1⟩
              case round =>
                obtain ⟨k, p', c', hk, rfl, hR⟩ := hrel
                by_cases hlt : k < t
                · obtain ⟨b, o, rfl, hc⟩ := (hnum.below hR.low).cell k hlt
                  have hq1 := HH.out k hlt
                  unfold In62 at hq1
                  have ko := hR.out
                  have hown := hR.own
                  have hs1 := hR.size
                  have koc := ko.drew.c0
                  have koc2 := ko.c0
                  have s1 : IntKind.i64.wrap ((nth num k).tdiv g) = (nth num k).tdiv g := IntWalk.i64_in _ (by omega)
                  have koc3 := (ko.alloc (.cells #[.int .i64 ((nth num k).tdiv g)] 3)).c0
                  go_wp2_with fail
                  go_region_law (refine step_append_int rfl (.tmp 93) (.tmp 100) rfl _ (W1.heap.size + 1) _ _ _ _ _ rfl (hown.alloc _).drew wr.heap.size _ rfl (cellNewD _ _ _) (by omega) (by simp; omega) ?_; intro p3 c3 w3 ho3 hg3; have ko3 := ((ko.alloc _).drew).grow hg3 (fun a ha => by have := (hown.lt a ha).1; omega); have kof := ko3.fr 0; have koc4 := ko3.c0)
                  all_goals
                    go_wp2_with fail
                    go_roundw
                    case rel =>
                      have hb3 : Below W1.heap.size wr w3 := (Below.of (drewBelow _) (by omega)).trans ((Below.of (boxed _ _) (by simp; omega)).trans (hg3.below (by simp; omega) (fun a ha => by have := (hown.lt a ha).1; omega)))
                      rw [← quoW_nth (by rw [hnl.out]; exact hlt), ← take_nth (by rw [hl3.out, hnl.out]; exact hlt)] at ho3
                      refine ⟨k + 1, _, _, by omega, by go_num, ko3.set0 _, (ho3.setBelow (a := ⟨_, _, none⟩) (by dsimp only; omega) _).up, (hR.low.trans hb3).setCell (by dsimp only; omega) _, ?_⟩
                      have := hb3.size
                      simp; omega
                    case measure => simp [intOf]; omega
                · obtain rfl : k = t := by omega
                  rw [List.take_of_length_le (by rw [hl3.out, hnl.out]; exact Nat.le_refl _)] at hR
                  have kr2 := kr4.below hR.low
                  have krc0 := kr2.c0
                  have krc1 := kr2.c1
                  have krf0 := kr2.fr 0
                  have krf1 := kr2.fr 1
                  have koc0 := hR.out.c0
                  have koc1 := hR.out.c1
                  have kf := (kr2.set0 (.slice p' k c')).set1 (.int .i64 e1)
                  have kf0 := kf.c0
                  have kf1 := kf.c1
                  have hs1 := hR.size
                  have hwl := kr4.lt
                  have hbw := Below.step hbT4 hR.low
                  go_wp2_with fail
                  rw [Hs0.out, Hred.out, Hrn.out]
                  refine bodyPost_ret (v := .tuple #[.agg #[.slice p' k c', .int .i64 e1], .bool true]) (by simp [results, Tryz.results69, go_sem, kf0, kf1]) rfl ?_
                  refine ⟨_, _, _, rfl, ((hR.own.setBelow (a := ⟨_, _, none⟩) (by dsimp only; omega) _).setBelow (a := ⟨_, _, none⟩) (by dsimp only; omega) _).up.widen (by omega) (Nat.le_refl _), ?_⟩
                  exact (hbw.setCell (p := ⟨_, _, none⟩) (by dsimp only; omega) _).setCell (p := ⟨_, _, none⟩) (by dsimp only; omega) _

end Go.Proofs.YtpfklkmmhdpphaaGreatDoor

/- VerticesOf: the contract of spec.l6Put. Conditions: sizes, reduced fractions. -/
namespace Go.Proofs.YtpfklkmmhdpphaaGreatDoor
open Go.RowKit
set_option linter.unusedVariables false
set_option linter.unusedSimpArgs false

theorem OwnV.preS {w : World} {E : TypeId} {size lo hi : Nat} {p : Option Addr} {n c : Nat} {vs : List Value} (h : OwnV w E size lo hi p n c vs) {k : Nat} (hk : k ≤ n) : OwnV w E size lo hi p k c (vs.take (k * size)) := by
  have hl := h.len
  have hm : k * size ≤ n * size := Nat.mul_le_mul_right _ hk
  refine ⟨⟨by rw [List.length_take]; omega, ?_⟩, h.top⟩
  rcases h.row.2 with ⟨h0, hn⟩ | ⟨g, cap, cur, hv, hl', hg, hc, hm2, hs, ht⟩
  · injection h0 with a b c
    subst hn
    obtain rfl : k = 0 := by omega
    exact .inl ⟨by rw [a, c], rfl⟩
  · injection hv with a b c
    subst c
    refine .inr ⟨g, _, cur, by rw [a], hl', hg, by omega, hm2, hs, ?_⟩
    rw [← ht, List.take_take]
    congr 1
    omega
theorem pcells_append {rows rows' : List Row} {hs hs' : List Pr} (h : rows.length = hs.length) : pcells (rows ++ rows') (hs ++ hs') = pcells rows hs ++ pcells rows' hs' := by
  induction rows generalizing hs with
  | nil => cases hs with
    | nil => rfl
    | cons _ _ => simp at h
  | cons r rs ih => cases hs with
    | nil => simp at h
    | cons x hs => simp [pcells, ih (hs := hs) (by simpa using h)]
theorem pcells_split {rows : List Row} {hs : List Pr} (h : rows.length = hs.length) (k : Nat) (hk : k ≤ rows.length) : (pcells rows hs).take (k * 2) = pcells (rows.take k) (hs.take k) ∧ (pcells rows hs).drop (k * 2) = pcells (rows.drop k) (hs.drop k) := by
  have h1 : pcells rows hs = pcells (rows.take k) (hs.take k) ++ pcells (rows.drop k) (hs.drop k) := by
    rw [← pcells_append (by simp; omega), List.take_append_drop, List.take_append_drop]
  have h2 : (pcells (rows.take k) (hs.take k)).length = k * 2 := by rw [pcells_length (by simp; omega), List.length_take]; congr 1; omega
  rw [h1]
  exact ⟨by rw [← h2, List.take_left], by rw [← h2, List.drop_left]⟩

/-- The slice (q, m) holds the cells vs of m pairs. -/
def Cls (w : World) (q : Option Addr) (m : Nat) (vs : List Value) : Prop := vs.length = m * 2 ∧ (∀ v ∈ vs, v.oneCell' = true) ∧ ∀ j (h : j < vs.length), ∃ g off, q = some ⟨g, off, none⟩ ∧ w.cell? ⟨g, off + j, none⟩ = some vs[j]
theorem pcells_one (rows : List Row) (hs : List Pr) : ∀ v ∈ pcells rows hs, v.oneCell' = true := by
  induction rows generalizing hs with
  | nil => intro v hv; cases hs <;> simp [pcells] at hv
  | cons r rs ih => cases hs with
    | nil => intro v hv; simp [pcells] at hv
    | cons x hs =>
      intro v hv
      simp only [pcells, List.mem_cons] at hv
      rcases hv with rfl | rfl | hv
      · rfl
      · rfl
      · exact ih hs v hv
theorem OwnP.cls {E : TypeId} {w : World} {lo hi g : Nat} {n c : Nat} {rows : List Row} {hs : List Pr} (h : OwnP E w lo hi (some ⟨g, 0, none⟩) n c rows hs) (k : Nat) (hk : k ≤ n) :
    Cls w (if c = k then some ⟨g, 0, none⟩ else some ⟨g, k * 2, none⟩) (n - k) (pcells (rows.drop k) (hs.drop k)) := by
  have hc := h.count
  have hl := h.len
  have hcap : n ≤ c := by
    rcases h.outer.form with ⟨h0, _⟩ | ⟨_, _, _, _, _, h1, h2⟩
    · cases h0
    · exact h1
  have hlen : (pcells (rows.drop k) (hs.drop k)).length = (n - k) * 2 := by rw [pcells_length (by simp; omega), List.length_drop, hc]
  refine ⟨hlen, pcells_one _ _, fun j hj => ?_⟩
  by_cases e : c = k
  · omega
  · refine ⟨g, k * 2, by rw [if_neg e], ?_⟩
    have h1 := h.outer.cell (k := k * 2 + j) (by omega)
    rw [h1, ← List.getElem?_eq_getElem hj, ← (pcells_split hl k (by omega)).2, List.getElem?_drop]
theorem Cls.below {w w' : World} {q : Option Addr} {m : Nat} {vs : List Value} (h : Cls w q m vs) (hb : Below w.heap.size w w') : Cls w' q m vs :=
  ⟨h.1, h.2.1, fun j hj => by
    obtain ⟨g, o, e, hc⟩ := h.2.2 j hj
    exact ⟨g, o, e, (hb.cell (World.block_lt_of_cell? w _ hc)).trans hc⟩⟩
theorem Cls.own {E : TypeId} {w : World} {lo hi g n c : Nat} {vs : List Value} (h : OwnV w E 2 lo hi (some ⟨g, 0, none⟩) n c vs) (h1 : ∀ v ∈ vs, v.oneCell' = true) : Cls w (some ⟨g, 0, none⟩) n vs :=
  ⟨h.len, h1, fun j hj => ⟨g, 0, rfl, by rw [Nat.zero_add, h.cell (by rw [← h.len]; exact hj), List.getElem?_eq_getElem hj]⟩⟩

/-- append(out, src...) of points. -/
theorem wp_append_rats {o : Oper} {a : Act} {K : Act → World → Prop} {Q : Exit → Act → World → Prop} (s x : Operand)
    (ho : o.op = .call { callee := .builtin .append, args := #[s, x], argTypes := #[28, 28] }) (W : World) (lo hi : Nat) (p : Option Addr) (n c : Nat) (vs : List Value)
    (hs : a.eval s = .slice p n c) (hown : OwnV W 32 2 lo hi p n c vs) (q : Option Addr) (m d : Nat) (ns : List Value) (hx : a.eval x = .slice q m d) (hr : Cls W q m ns)
    (hn : n + m ≤ 4398046510000) (hlo : lo ≤ W.heap.size)
    (h : ∀ p' c' W', OwnV W' 32 2 lo W'.heap.size p' (n + m) c' (vs ++ ns) → Grow W W' p p' → K (a.put o.dst (.slice p' (n + m) c')) W') :
    o.wp Tryz.prog a W K Q :=
  wp_appendV 32 28 2 32 (.agg #[.slice none 0 0, .int .i64 0]) Tryz.underlying28 Tryz.infoRat rfl (by decide) s x ho W lo hi p n c _ hs hown _ m d ns hx hr.1
    (fun h0 => by
      obtain ⟨g, off, hq, _⟩ := hr.2.2 0 (by rw [hr.1]; omega)
      refine ⟨_, hq, fun j v hv => ?_⟩
      have hj : j < ns.length := (List.getElem?_eq_some_iff.1 hv).1
      rw [List.getElem?_eq_getElem hj] at hv
      injection hv with hv
      subst hv
      obtain ⟨g', off', hq', hc⟩ := hr.2.2 j hj
      rw [hq] at hq'
      injection hq' with hq'; injection hq' with e1 e2
      subst e1; subst e2
      rw [Addr.add_lit]; exact hc)
    hr.2.1 (by omega) (by unfold maxLen; omega) hlo
    fun p' c' W' h2 h3 => h p' c' W' h2 h3
theorem append_rats {ops : Array Oper} {rest : List Oper} {o : Oper} {a : Act} {Q : Exit → Act → World → Prop} (hgd : o.guard = none) (s x : Operand)
    (ho : o.op = .call { callee := .builtin .append, args := #[s, x], argTypes := #[28, 28] }) (W : World) (lo hi : Nat) (p : Option Addr) (n c : Nat) (vs : List Value)
    (hs : a.eval s = .slice p n c) (hown : OwnV W 32 2 lo hi p n c vs) (q : Option Addr) (m d : Nat) (ns : List Value) (hx : a.eval x = .slice q m d) (hr : Cls W q m ns)
    (hn : n + m ≤ 4398046510000) (hlo : lo ≤ W.heap.size)
    (h : ∀ p' c' W', OwnV W' 32 2 lo W'.heap.size p' (n + m) c' (vs ++ ns) → Grow W W' p p' → wpList Tryz.prog ops Q rest (a.put o.dst (.slice p' (n + m) c')) W') :
    wpList Tryz.prog ops Q (o :: rest) a W :=
  wpList_plain hgd fun _ hK => wp_append_rats s x ho W lo hi p n c vs hs hown q m d ns hx hr hn hlo fun p' c' W' h2 h3 => hK _ _ (h p' c' W' h2 h3)
theorem step_append_rats {ops : Array Oper} {o : Oper} {a : Act} {K : Act → World → Prop} {E : Prop} {Q : Exit → Act → World → Prop} (hgd : o.guard = none) (s x : Operand)
    (ho : o.op = .call { callee := .builtin .append, args := #[s, x], argTypes := #[28, 28] }) (W : World) (lo hi : Nat) (p : Option Addr) (n c : Nat) (vs : List Value)
    (hs : a.eval s = .slice p n c) (hown : OwnV W 32 2 lo hi p n c vs) (q : Option Addr) (m d : Nat) (ns : List Value) (hx : a.eval x = .slice q m d) (hr : Cls W q m ns)
    (hn : n + m ≤ 4398046510000) (hlo : lo ≤ W.heap.size)
    (h : ∀ p' c' W', OwnV W' 32 2 lo W'.heap.size p' (n + m) c' (vs ++ ns) → Grow W W' p p' → K (a.put o.dst (.slice p' (n + m) c')) W') :
    if Region.wanted o (yielded ops a.tmps) = true then Oper.wp Tryz.prog o a W K Q else E := by
  have hw : Region.wanted o (yielded ops a.tmps) = true := by simp [Region.wanted, hgd]
  rw [if_pos hw]
  exact wp_append_rats s x ho W lo hi p n c vs hs hown q m d ns hx hr hn hlo h

theorem OwnV.emptyR (w : World) : OwnV (w.alloc (.cells #[] 32)) 32 2 w.heap.size (w.heap.size + 1) (some ⟨w.heap.size, 0, none⟩) 0 0 [] :=
  ⟨World.ownsRow_made w #[] 0 (Nat.le_refl _) (Nat.zero_le _) rfl, fun a ha => by injection ha with ha; subst ha; exact Nat.lt_succ_self _⟩

theorem vAt_no {ps : List Pr} {v : Pr} {k : Nat} (h : ¬ cmpP v (prAt ps k) < 0) : vAt ps v (k + 1) = k + 1 := by rw [vAt, if_neg h]
theorem vAt_yes {ps : List Pr} {v : Pr} {k : Nat} (h : cmpP v (prAt ps k) < 0) : vAt ps v (k + 1) = vAt ps v k := by rw [vAt, if_pos h]
theorem vPut_zero {ps : List Pr} {v : Pr} (h : vAt ps v 0 = vAt ps v ps.length) : vPut ps v = vIn ps v 0 := by rw [vPut, ← h]; simp [vAt]
theorem vPut_succ {ps : List Pr} {v : Pr} {k : Nat} (h : vAt ps v ps.length = k + 1) (hne : ¬ cmpP v (prAt ps k) = 0) : vPut ps v = vIn ps v (k + 1) := by
  rw [vPut, h, if_neg]; intro h2; exact hne h2.2
theorem vPut_same {ps : List Pr} {v : Pr} {k : Nat} (h : vAt ps v ps.length = k + 1) (he : cmpP v (prAt ps k) = 0) : vPut ps v = ps := by
  rw [vPut, h, if_pos]; exact ⟨by omega, he⟩
theorem Red.ok {D : Nat} {p : Pr} (h : Red D p) : ratOk p.1 p.2 = true := by
  simp only [ratOk, Bool.and_eq_true, allR, List.all_eq_true]
  have := h.den
  exact ⟨by simp [inR]; omega, fun x hx => by have := h.num x hx; unfold Abs at this; simp [inR]; omega⟩
theorem cmpRat_red {D : Nat} {p q : Pr} (hp : Red D p) (hq : Red D q) : cmpRat p.1 p.2 q.1 q.2 = cmpP p q := by
  rw [cmpRat, if_pos ⟨by rw [hp.len, hq.len], hp.ok, hq.ok⟩]; rfl

/-- A point is put. -/
def PutTo (L : Nat) (X : Nat → Prop) (w : World) (r : List Pr) (e : Ending) (w' : World) : Prop :=
  ∃ g n c rows, e = .returned (.slice (some ⟨g, 0, none⟩) n c) ∧ OwnP 32 w' L w'.heap.size (some ⟨g, 0, none⟩) n c rows r ∧ Fr L X w w'

end Go.Proofs.YtpfklkmmhdpphaaGreatDoor
