/- Plain geometry: Pick's theorem for a polygon that is told by its turns, column by column. No program in sight. Conditions: none. -/
import Derived.Test.YthdonnkekggbbaaGreatDoorJnSame
namespace Go.Proofs.YthdonnkekggbbaaGreatDoor
set_option linter.unusedVariables false
set_option linter.unusedSimpArgs false
set_option maxRecDepth 100000

/-- The sum of f over j < k. -/
def sg (f : Nat → Int) : Nat → Int
  | 0 => 0
  | k + 1 => sg f k + f k
theorem sg_congr {f g : Nat → Int} : ∀ {k : Nat}, (∀ j, j < k → f j = g j) → sg f k = sg g k
  | 0, _ => rfl
  | k + 1, h => by rw [sg, sg, sg_congr fun j hj => h j (by omega), h k (by omega)]
theorem sg_add (f g : Nat → Int) : ∀ k, sg (fun j => f j + g j) k = sg f k + sg g k
  | 0 => rfl
  | k + 1 => by simp only [sg]; rw [sg_add f g k]; omega
theorem sg_sub (f g : Nat → Int) : ∀ k, sg (fun j => f j - g j) k = sg f k - sg g k
  | 0 => rfl
  | k + 1 => by simp only [sg]; rw [sg_sub f g k]; omega
theorem sg_const (c : Int) : ∀ k : Nat, sg (fun _ => c) k = (k : Int) * c
  | 0 => by simp [sg]
  | k + 1 => by simp only [sg]; rw [sg_const c k]; grind
theorem sg_split (f : Nat → Int) (a : Nat) : ∀ b, sg f (a + b) = sg f a + sg (fun j => f (a + j)) b
  | 0 => by simp [sg]
  | b + 1 => by rw [show a + (b + 1) = (a + b) + 1 by omega]; simp only [sg]; rw [sg_split f a b]; omega
theorem sg_first (f : Nat → Int) (k : Nat) : sg f (k + 1) = f 0 + sg (fun j => f (j + 1)) k := by
  rw [show k + 1 = 1 + k by omega, sg_split]
  simp only [sg, Int.zero_add]
  congr 1
  exact sg_congr fun j _ => by rw [Nat.add_comm]
theorem sg_rev (f : Nat → Int) : ∀ k, sg (fun j => f (k - 1 - j)) k = sg f k
  | 0 => rfl
  | k + 1 => by
    rw [sg_first, show k + 1 - 1 - 0 = k by omega]
    simp only [sg]
    rw [Int.add_comm]
    congr 1
    rw [← sg_rev f k]
    exact sg_congr fun j _ => by congr 1; omega

/-! ### One side -/
/-- The numerator of the height of a side that starts at height a and rises by e in w columns. -/
def nu (a e : Int) (w : Nat) (j : Nat) : Int := a * w + e * j
def flr (n : Int) (w : Nat) : Int := n / (w : Int)
def cei (n : Int) (w : Nat) : Int := -((-n) / (w : Int))

theorem cei_flip {n s : Int} {w : Nat} (h : 0 < w) : cei (s * w - n) w = s - flr n w := by
  unfold cei flr
  rw [show -(s * (w : Int) - n) = n + (-s) * w by grind, Int.add_mul_ediv_right _ _ (by omega)]
  omega
theorem flr_whole {s : Int} {w : Nat} (h : 0 < w) : flr (s * w) w = s := by
  unfold flr; exact Int.mul_ediv_cancel _ (by omega)
theorem cei_whole {s : Int} {w : Nat} (h : 0 < w) : cei (s * w) w = s := by
  unfold cei; rw [← Int.neg_mul, Int.mul_ediv_cancel _ (by omega)]; omega

theorem side_sum (a e : Int) {w : Nat} (h : 0 < w) : sg (fun j => flr (nu a e w j) w + cei (nu a e w j) w) w = (w : Int) * (a + (a + e)) - e := by
  have h1 : sg (fun j => flr (nu a e w j) w + cei (nu a e w (w - j)) w) (w + 1) = sg (fun _ => a + (a + e)) (w + 1) := by
    apply sg_congr
    intro j hj
    have : nu a e w (w - j) = (a + (a + e)) * w - nu a e w j := by
      unfold nu
      rw [Int.ofNat_sub (by omega)]
      grind
    rw [this, cei_flip h]; omega
  rw [sg_const, sg_add] at h1
  have h2 := sg_rev (fun j => cei (nu a e w j) w) (w + 1)
  simp only [Nat.add_sub_cancel] at h2
  rw [h2] at h1
  simp only [sg] at h1
  have e1 : nu a e w w = (a + e) * w := by unfold nu; grind
  rw [e1, flr_whole h, cei_whole h] at h1
  rw [sg_add]
  have : ((w + 1 : Nat) : Int) * (a + (a + e)) = (w : Int) * (a + (a + e)) + (a + (a + e)) := by grind
  omega

/-- 1 where the side meets a whole point of the column. -/
def dv (n : Int) (w : Nat) : Int := if (w : Int) ∣ n then 1 else 0
theorem dv_eq (n : Int) {w : Nat} (h : 0 < w) : dv n w = 1 - (cei n w - flr n w) := by
  unfold dv cei flr
  split
  · next hd =>
    obtain ⟨k, rfl⟩ := hd
    rw [Int.mul_ediv_cancel_left _ (by omega), ← Int.mul_neg, Int.mul_ediv_cancel_left _ (by omega)]
    omega
  · next hd =>
    have hw : (0 : Int) < w := by omega
    have h1 := Int.mul_ediv_add_emod n w
    have h2 := Int.emod_nonneg n (show (w : Int) ≠ 0 by omega)
    have h3 := Int.emod_lt_of_pos n hw
    have h4 : n % (w : Int) ≠ 0 := fun e => hd (Int.dvd_of_emod_eq_zero e)
    have h5 : (-n) / (w : Int) = -(n / (w : Int)) - 1 := by
      apply (Int.ediv_emod_unique hw (r := (w : Int) - n % w)).2 ?_ |>.1
      refine ⟨?_, by omega, by omega⟩
      grind
    omega

theorem sg_mults {w1 : Nat} (h : 0 < w1) : ∀ g : Nat, sg (fun j => if w1 ∣ j then 1 else 0) (g * w1) = (g : Int)
  | 0 => by simp [sg]
  | g + 1 => by
    rw [Nat.succ_mul, sg_split, sg_mults h g]
    obtain ⟨v, rfl⟩ : ∃ v, w1 = v + 1 := ⟨w1 - 1, by omega⟩
    rw [sg_first]
    have : sg (fun j => if (v + 1) ∣ g * (v + 1) + (j + 1) then (1 : Int) else 0) v = sg (fun _ => 0) v := by
      apply sg_congr
      intro j hj
      rw [if_neg]
      intro hd
      have := (Nat.dvd_add_right (Nat.dvd_mul_left (v + 1) g)).1 hd
      have := Nat.le_of_dvd (by omega) this
      omega
    rw [this, sg_const, if_pos (by rw [Nat.add_zero]; exact Nat.dvd_mul_left _ _)]
    simp

theorem side_gcd (a e : Int) {w : Nat} (h : 0 < w) : sg (fun j => dv (nu a e w j) w) w = (Nat.gcd w e.natAbs : Int) := by
  obtain ⟨g, hg⟩ : ∃ g, g = Nat.gcd w e.natAbs := ⟨_, rfl⟩
  have hg0 : 0 < g := by rw [hg]; exact Nat.gcd_pos_of_pos_left _ h
  obtain ⟨w1, hw1⟩ : g ∣ w := by rw [hg]; exact Nat.gcd_dvd_left _ _
  obtain ⟨e1, he1⟩ : g ∣ e.natAbs := by rw [hg]; exact Nat.gcd_dvd_right _ _
  have hw0 : 0 < w1 := by
    rcases Nat.eq_zero_or_pos w1 with rfl | h'
    · omega
    · exact h'
  have hcop : Nat.gcd w1 e1 = 1 := by
    have : g * Nat.gcd w1 e1 = g * 1 := by rw [← Nat.gcd_mul_left, ← hw1, ← he1, ← hg, Nat.mul_one]
    exact Nat.eq_of_mul_eq_mul_left hg0 this
  rw [← hg, ← sg_mults hw0 g, Nat.mul_comm, ← Nat.mul_comm g w1, ← hw1]
  apply sg_congr
  intro j _
  unfold dv
  have : ((w : Int) ∣ nu a e w j) ↔ w1 ∣ j := by
    have e0 : ((w : Int) ∣ nu a e w j) ↔ (w : Int) ∣ e * j := by
      unfold nu
      exact Int.dvd_add_right (Int.dvd_mul_left a w)
    rw [e0, ← Int.natCast_dvd_natCast.symm.trans (Int.dvd_natAbs (a := (w : Int)) (b := e * j)), Int.natAbs_mul, Int.natAbs_natCast, hw1, he1, Nat.mul_assoc]
    constructor
    · intro hd
      exact (show Nat.Coprime w1 e1 from hcop).dvd_of_dvd_mul_left (Nat.dvd_of_mul_dvd_mul_left hg0 hd)
    · intro hd
      exact Nat.mul_dvd_mul_left g (Nat.dvd_trans hd (Nat.dvd_mul_left _ _))
  by_cases hd : w1 ∣ j
  · rw [if_pos hd, if_pos (this.2 hd)]
  · rw [if_neg hd, if_neg fun h => hd (this.1 h)]


def wd (a b : Pt) : Nat := (b.1 - a.1).toNat
def nuZ (a b : Pt) (x : Int) : Int := a.2 * (b.1 - a.1) + (b.2 - a.2) * (x - a.1)
/-- The side of a chain of m sides that stands over column x. -/
def pickE (A : Nat → Pt) : Nat → Int → Nat
  | 0, _ => 0
  | k + 1, x => if (A k).1 ≤ x then k else pickE A k x
def FL (A : Nat → Pt) (m : Nat) (x : Int) : Int := flr (nuZ (A (pickE A m x)) (A (pickE A m x + 1)) x) (wd (A (pickE A m x)) (A (pickE A m x + 1)))
def CE (A : Nat → Pt) (m : Nat) (x : Int) : Int := cei (nuZ (A (pickE A m x)) (A (pickE A m x + 1)) x) (wd (A (pickE A m x)) (A (pickE A m x + 1)))
/-- The height of an upright side. -/
def vE (a b : Pt) : Int := if a.1 = b.1 then b.2 - a.2 else 0

def Asc (A : Nat → Pt) (m : Nat) : Prop := ∀ i, i < m → lx (A i) (A (i + 1))
theorem lx.le1 {a b : Pt} (h : lx a b) : a.1 ≤ b.1 := by unfold lx at h; omega
theorem Asc.mono {A : Nat → Pt} {m : Nat} (h : Asc A m) {i j : Nat} (hij : i ≤ j) (hj : j ≤ m) : (A i).1 ≤ (A j).1 := by
  obtain ⟨d, rfl⟩ : ∃ d, j = i + d := ⟨j - i, by omega⟩
  rcases up_all h d i hj with e | e
  · rw [e]; omega
  · exact e.le1
theorem Asc.less {A : Nat → Pt} {m m' : Nat} (h : Asc A m) (h' : m' ≤ m) : Asc A m' := fun i hi => h i (by omega)
theorem pick_at {A : Nat → Pt} : ∀ {m : Nat} {i : Nat} {x : Int}, Asc A m → i < m → (A i).1 ≤ x → x < (A (i + 1)).1 → pickE A m x = i
  | 0, i, x, h, hi, h1, h2 => by omega
  | m + 1, i, x, h, hi, h1, h2 => by
    unfold pickE
    by_cases e : i = m
    · subst e; rw [if_pos h1]
    · have := h.mono (i := i + 1) (j := m) (by omega) (by omega)
      rw [if_neg (by omega)]
      exact pick_at (h.less (by omega)) (by omega) h1 h2
theorem pick_in {A : Nat → Pt} {x : Int} (h0 : (A 0).1 ≤ x) : ∀ {m : Nat}, x < (A m).1 → pickE A m x < m ∧ (A (pickE A m x)).1 ≤ x ∧ x < (A (pickE A m x + 1)).1
  | 0, h1 => by omega
  | m + 1, h1 => by
    unfold pickE
    split
    · next h => exact ⟨by omega, h, h1⟩
    · next h =>
      have := pick_in h0 (m := m) (by omega)
      exact ⟨by omega, this.2⟩

/-- A sum over the columns of a chain, side by side. -/
theorem chain_sum {A : Nat → Pt} (f : Int → Int) : ∀ {m : Nat}, Asc A m →
    sg (fun j => f ((A 0).1 + j)) ((A m).1 - (A 0).1).toNat = sg (fun i => sg (fun j => f ((A i).1 + j)) (wd (A i) (A (i + 1)))) m
  | 0, h => by simp [sg]
  | m + 1, h => by
    have h1 := h.mono (i := 0) (j := m) (by omega) (by omega)
    have h2 := h.mono (i := m) (j := m + 1) (by omega) (by omega)
    rw [show ((A (m + 1)).1 - (A 0).1).toNat = ((A m).1 - (A 0).1).toNat + wd (A m) (A (m + 1)) by unfold wd; omega, sg_split]
    simp only [sg]
    rw [chain_sum f (h.less (by omega))]
    congr 1
    exact sg_congr fun j _ => by congr 1; omega

theorem nuZ_nu {a b : Pt} (h : a.1 ≤ b.1) (j : Nat) : nuZ a b (a.1 + j) = nu a.2 (b.2 - a.2) (wd a b) j := by
  unfold nuZ nu wd
  rw [Int.toNat_of_nonneg (by omega)]
  grind
theorem side_gl {a b : Pt} (h : a.1 ≤ b.1) : sg (fun j => flr (nuZ a b (a.1 + j)) (wd a b) + cei (nuZ a b (a.1 + j)) (wd a b)) (wd a b)
    = - cr a b + (b.1 * b.2 - a.1 * a.2) + (a.2 - b.2) + vE a b := by
  by_cases hw : wd a b = 0
  · have e : a.1 = b.1 := by unfold wd at hw; omega
    rw [hw, vE, if_pos e]
    unfold cr
    simp only [sg]
    rw [e]
    grind
  · have hw : 0 < wd a b := by omega
    have e : ¬ a.1 = b.1 := by unfold wd at hw; omega
    simp only [nuZ_nu h]
    rw [side_sum _ _ hw, vE, if_neg e]
    unfold wd cr
    rw [Int.toNat_of_nonneg (by omega)]
    grind
theorem side_dv {a b : Pt} (h : lx a b) : sg (fun j => 1 - (cei (nuZ a b (a.1 + j)) (wd a b) - flr (nuZ a b (a.1 + j)) (wd a b))) (wd a b)
    = (Nat.gcd (b.1 - a.1).natAbs (b.2 - a.2).natAbs : Int) - vE a b := by
  by_cases hw : wd a b = 0
  · have e : a.1 = b.1 := by have := h.le1; unfold wd at hw; omega
    have e2 : a.2 < b.2 := by unfold lx at h; omega
    rw [hw, vE, if_pos e, show (b.1 - a.1).natAbs = 0 by omega, Nat.gcd_zero_left]
    simp only [sg]
    omega
  · have hw : 0 < wd a b := by omega
    have e : ¬ a.1 = b.1 := by unfold wd at hw; omega
    have h1 := h.le1
    rw [vE, if_neg e, show (b.1 - a.1).natAbs = wd a b by unfold wd; omega, Int.sub_zero, ← side_gcd a.2 (b.2 - a.2) hw]
    apply sg_congr
    intro j _
    simp only [nuZ_nu h1]
    rw [← dv_eq _ hw]

theorem sg_lin4 (f g h : Nat → Int) : ∀ k, sg (fun j => f j + g j + h j) k = sg f k + sg g k + sg h k
  | 0 => rfl
  | k + 1 => by simp only [sg]; rw [sg_lin4 f g h k]; omega
theorem sg_tele (t : Nat → Int) : ∀ k, sg (fun j => t (j + 1) - t j) k = t k - t 0
  | 0 => by simp [sg]
  | k + 1 => by simp only [sg]; rw [sg_tele t k]; omega
theorem sg_neg (f : Nat → Int) : ∀ k, sg (fun j => - f j) k = - sg f k
  | 0 => rfl
  | k + 1 => by simp only [sg]; rw [sg_neg f k]; omega

theorem chain_gl {A : Nat → Pt} {m : Nat} (h : Asc A m) : sg (fun j => FL A m ((A 0).1 + j) + CE A m ((A 0).1 + j)) ((A m).1 - (A 0).1).toNat
    = - sg (fun i => cr (A i) (A (i + 1))) m + ((A m).1 * (A m).2 - (A 0).1 * (A 0).2) + ((A 0).2 - (A m).2) + sg (fun i => vE (A i) (A (i + 1))) m := by
  rw [chain_sum (fun x => FL A m x + CE A m x) h]
  have e : sg (fun i => sg (fun j => FL A m ((A i).1 + (j : Nat)) + CE A m ((A i).1 + (j : Nat))) (wd (A i) (A (i + 1)))) m
      = sg (fun i => (- cr (A i) (A (i + 1)) + ((((A (i + 1)).1 * (A (i + 1)).2) - (A (i + 1)).2) - (((A i).1 * (A i).2) - (A i).2))) + vE (A i) (A (i + 1))) m := by
    apply sg_congr
    intro i hi
    have h1 := h.mono (i := i) (j := i + 1) (by omega) (by omega)
    have h2 := side_gl h1
    rw [show (- cr (A i) (A (i + 1)) + ((((A (i + 1)).1 * (A (i + 1)).2) - (A (i + 1)).2) - (((A i).1 * (A i).2) - (A i).2))) + vE (A i) (A (i + 1)) = - cr (A i) (A (i + 1)) + ((A (i + 1)).1 * (A (i + 1)).2 - (A i).1 * (A i).2) + ((A i).2 - (A (i + 1)).2) + vE (A i) (A (i + 1)) by omega, ← h2]
    apply sg_congr
    intro j hj
    have hp := pick_at h hi (x := (A i).1 + (j : Nat)) (by omega) (by unfold wd at hj; omega)
    unfold FL CE
    rw [hp]
  rw [e, sg_lin4, sg_neg, sg_tele (fun i => (A i).1 * (A i).2 - (A i).2)]
  omega
theorem chain_dv {A : Nat → Pt} {m : Nat} (h : Asc A m) : sg (fun j => 1 - (CE A m ((A 0).1 + j) - FL A m ((A 0).1 + j))) ((A m).1 - (A 0).1).toNat
    = sg (fun i => (Nat.gcd ((A (i + 1)).1 - (A i).1).natAbs ((A (i + 1)).2 - (A i).2).natAbs : Int)) m - sg (fun i => vE (A i) (A (i + 1))) m := by
  rw [chain_sum (fun x => 1 - (CE A m x - FL A m x)) h, ← sg_sub]
  apply sg_congr
  intro i hi
  rw [← side_dv (h i hi)]
  apply sg_congr
  intro j hj
  have hp := pick_at h hi (x := (A i).1 + (j : Nat)) (by omega) (by unfold wd at hj; omega)
  unfold FL CE
  rw [hp]
/-- At a corner the chain is whole. -/
theorem chain_corner {A : Nat → Pt} {m : Nat} (h : Asc A m) {i : Nat} (hi : i < m) (hw : (A i).1 < (A (i + 1)).1) : FL A m (A i).1 = (A i).2 ∧ CE A m (A i).1 = (A i).2 := by
  have hp := pick_at h hi (x := (A i).1) (by omega) hw
  have hw' : 0 < wd (A i) (A (i + 1)) := by unfold wd; omega
  have e : nuZ (A i) (A (i + 1)) (A i).1 = (A i).2 * (wd (A i) (A (i + 1)) : Int) := by
    unfold nuZ wd
    rw [Int.toNat_of_nonneg (by omega)]
    grind
  unfold FL CE
  rw [hp, e]
  exact ⟨flr_whole hw', cei_whole hw'⟩


structure CP (n m : Nat) (Q : Nat → Pt) : Prop where
  n3 : 3 ≤ n
  m0 : 0 < m
  mn : m < n
  per : ∀ i, Q (i + n) = Q i
  asc : ∀ i, i < m → lx (Q i) (Q (i + 1))
  desc : ∀ i, m ≤ i → i < n → lx (Q (i + 1)) (Q i)
  left : ∀ i s, i < n → s < n → 0 ≤ tn (Q i) (Q (i + 1)) (Q s)
  zero : ∀ i s, i < n → s < n → tn (Q i) (Q (i + 1)) (Q s) = 0 → s = i ∨ s = i + 1 ∨ (s = 0 ∧ i + 1 = n)

theorem Fan.cp {n : Nat} {P : Nat → Pt} (h : Fan n P) : ∃ m, CP n m (cyc n P) := by
  have h3 := h.n3
  obtain ⟨m, m0, m1, ha, hd⟩ := h.uni
  refine ⟨m, h3, m0, m1, fun i => by simp [cyc], ha, hd, fun i s hi hs => ?_, fun i s hi hs h0 => ?_⟩
  · rw [cyc_lt (i := s) hs]; exact h.left' hi hs
  · by_cases h1 : s = i
    · exact .inl h1
    · by_cases h2 : s = (i + 1) % n
      · by_cases h4 : i + 1 = n
        · rw [h4, Nat.mod_self] at h2; exact .inr (.inr ⟨h2, h4⟩)
        · rw [Nat.mod_eq_of_lt (by omega)] at h2; exact .inr (.inl h2)
      · have := h.left hi hs h1 h2
        rw [cyc_lt (i := s) hs] at h0
        omega

/-- The polygon turned by half a turn. -/
theorem CP.flip {n m : Nat} {Q : Nat → Pt} (h : CP n m Q) : CP n (n - m) (fun i => ng (Q (i + m))) := by
  have h3 := h.n3
  have h0 := h.m0
  have h1 := h.mn
  have red : ∀ i, i < n → ∃ i', i' < n ∧ Q (i + m) = Q i' ∧ Q (i + 1 + m) = Q (i' + 1) ∧ (i' = i + m ∨ i' + n = i + m) := by
    intro i hi
    by_cases hh : i + m < n
    · exact ⟨i + m, hh, rfl, by congr 1; omega, .inl rfl⟩
    · refine ⟨i + m - n, by omega, ?_, ?_, .inr (by omega)⟩
      · rw [← h.per (i + m - n)]; congr 1; omega
      · rw [← h.per (i + m - n + 1)]; congr 1; omega
  refine ⟨h3, by omega, by omega, fun i => ?_, fun i hi => ?_, fun i hi hi' => ?_, fun i s hi hs => ?_, fun i s hi hs hz => ?_⟩
  · show ng (Q (i + n + m)) = ng (Q (i + m))
    rw [show i + n + m = i + m + n by omega, h.per]
  · show lx (ng (Q (i + m))) (ng (Q (i + 1 + m)))
    rw [lx_ng, show i + 1 + m = i + m + 1 by omega]
    exact h.desc _ (by omega) (by omega)
  · show lx (ng (Q (i + 1 + m))) (ng (Q (i + m)))
    rw [lx_ng]
    have := h.asc (i + m - n) (by omega)
    rw [← h.per (i + m - n), ← h.per (i + m - n + 1)] at this
    rwa [show i + m - n + n = i + m by omega, show i + m - n + 1 + n = i + 1 + m by omega] at this
  · show 0 ≤ tn (ng (Q (i + m))) (ng (Q (i + 1 + m))) (ng (Q (s + m)))
    obtain ⟨i', hi', e1, e2, _⟩ := red i hi
    obtain ⟨s', hs', e3, _, _⟩ := red s hs
    rw [tn_ng, e1, e2, e3]
    exact h.left i' s' hi' hs'
  · replace hz : tn (ng (Q (i + m))) (ng (Q (i + 1 + m))) (ng (Q (s + m))) = 0 := hz
    obtain ⟨i', hi', e1, e2, c1⟩ := red i hi
    obtain ⟨s', hs', e3, _, c2⟩ := red s hs
    rw [tn_ng, e1, e2, e3] at hz
    have := h.zero i' s' hi' hs' hz
    omega

/-- Where a point is: all sides have it on their left. -/
def Ins (n : Nat) (Q : Nat → Pt) (q : Pt) : Prop := ∀ i, i < n → 0 ≤ tn (Q i) (Q (i + 1)) q
def InsS (n : Nat) (Q : Nat → Pt) (q : Pt) : Prop := ∀ i, i < n → 0 < tn (Q i) (Q (i + 1)) q

/-- The two chains, both to the right. -/
def lowC (Q : Nat → Pt) : Nat → Pt := Q
def topC (n : Nat) (Q : Nat → Pt) : Nat → Pt := fun i => Q (n - i)
theorem CP.q0 {n m : Nat} {Q : Nat → Pt} (h : CP n m Q) : Q n = Q 0 := by have := h.per 0; rwa [Nat.zero_add] at this
theorem CP.low {n m : Nat} {Q : Nat → Pt} (h : CP n m Q) : Asc Q m := h.asc
theorem CP.top {n m : Nat} {Q : Nat → Pt} (h : CP n m Q) : Asc (topC n Q) (n - m) := by
  intro i hi
  have := h.mn
  have := h.desc (n - (i + 1)) (by omega) (by omega)
  rw [show n - (i + 1) + 1 = n - i by omega] at this
  exact this

/-- No side before the last one of a chain is upright. -/
theorem CP.steep {n m : Nat} {Q : Nat → Pt} (h : CP n m Q) {i : Nat} (hi : i + 1 < m) : (Q i).1 < (Q (i + 1)).1 := by
  have h1 := h.asc i (by omega)
  have h2 := h.asc (i + 1) (by omega)
  have h3 := h.mn
  have hl := h.left i (i + 2) (by omega) (by omega)
  have hz := fun e => h.zero i (i + 2) (by omega) (by omega) e
  have hz2 : tn (Q i) (Q (i + 1)) (Q (i + 2)) ≠ 0 := fun e => by have := hz e; omega
  by_cases e : (Q i).1 < (Q (i + 1)).1
  · exact e
  · exfalso
    have e1 : (Q i).1 = (Q (i + 1)).1 := by have := h1.le1; omega
    have e2 : (Q i).2 < (Q (i + 1)).2 := by unfold lx at h1; omega
    have e3 := h2.le1
    have : tn (Q i) (Q (i + 1)) (Q (i + 2)) = - (((Q (i + 1)).2 - (Q i).2) * ((Q (i + 2)).1 - (Q (i + 1)).1)) := by
      unfold tn cr sb; simp only; rw [e1]; grind
    have := Int.mul_nonneg (show 0 ≤ (Q (i + 1)).2 - (Q i).2 by omega) (show 0 ≤ (Q (i + 1 + 1)).1 - (Q (i + 1)).1 by omega)
    have e4 : i + 1 + 1 = i + 2 := rfl
    rw [e4] at this
    omega
theorem CP.steep2 {n m : Nat} {Q : Nat → Pt} (h : CP n m Q) {i : Nat} (hi : m ≤ i) (hi' : i + 1 < n) : (Q (i + 1)).1 < (Q i).1 := by
  have h1 := h.flip.steep (i := i - m) (by omega)
  have h1 : (ng (Q (i - m + m))).1 < (ng (Q (i - m + 1 + m))).1 := h1
  rw [show i - m + m = i by omega, show i - m + 1 + m = i + 1 by omega] at h1
  unfold ng at h1
  simp only at h1
  omega

theorem CP.wide {n m : Nat} {Q : Nat → Pt} (h : CP n m Q) : (Q 0).1 < (Q m).1 := by
  have h3 := h.n3
  have h0 := h.m0
  have h1 := h.mn
  by_cases hm : 1 < m
  · have := h.steep (i := 0) hm
    rw [Nat.zero_add] at this
    have := h.low.mono (i := 1) (j := m) (by omega) (by omega)
    omega
  · have : m = 1 := by omega
    subst this
    have a1 := h.steep2 (i := 1) (by omega) (by omega)
    have a2 := h.top.mono (i := 0) (j := n - 2) (by omega) (by omega)
    have a3 : (topC n Q 0).1 = (Q 0).1 := by unfold topC; rw [Nat.sub_zero, h.q0]
    have a4 : (topC n Q (n - 2)).1 = (Q 2).1 := by unfold topC; congr 2; omega
    have a5 : (1 + 1 : Nat) = 2 := rfl
    rw [a5] at a1
    omega

theorem tn_cols (a b : Pt) (x y : Int) : tn a b (x, y) = (b.1 - a.1) * y - nuZ a b x := by unfold tn cr sb nuZ; grind
theorem tn_cols' (a b : Pt) (x y : Int) : tn a b (x, y) = nuZ b a x - (a.1 - b.1) * y := by unfold tn cr sb nuZ; grind
/-- On a side, the left of another side is a mean of its ends'. -/
theorem tn_mean (a b c d : Pt) (x : Int) : (b.1 - a.1) * nuZ c d x - (d.1 - c.1) * nuZ a b x = (b.1 - x) * ((a.1 - c.1) * (d.2 - c.2) - (d.1 - c.1) * (a.2 - c.2)) + (x - a.1) * ((b.1 - c.1) * (d.2 - c.2) - (d.1 - c.1) * (b.2 - c.2)) := by
  unfold nuZ; grind

/-- The two sides over a column that is not the last. -/
structure Col (n m : Nat) (Q : Nat → Pt) (x : Int) (j k : Nat) : Prop where
  jm : j < m
  mk' : m ≤ k
  kn : k < n
  l1 : (Q j).1 ≤ x
  l2 : x < (Q (j + 1)).1
  u1 : (Q (k + 1)).1 ≤ x
  u2 : x < (Q k).1

theorem CP.col {n m : Nat} {Q : Nat → Pt} (h : CP n m Q) {x : Int} (h0 : (Q 0).1 ≤ x) (h1 : x < (Q m).1) :
    Col n m Q x (pickE Q m x) (n - (pickE (topC n Q) (n - m) x + 1)) := by
  have hn := h.mn
  have p1 := pick_in h0 h1
  have e1 : (topC n Q (n - m)).1 = (Q m).1 := by unfold topC; congr 2; omega
  have p2 := pick_in (A := topC n Q) (x := x) (m := n - m) (by unfold topC; rw [Nat.sub_zero, h.q0]; exact h0) (by rw [e1]; exact h1)
  refine ⟨p1.1, by omega, by omega, p1.2.1, p1.2.2, ?_, ?_⟩
  · have := p2.2.1
    unfold topC at this ⊢
    rw [show n - (pickE (fun i => Q (n - i)) (n - m) x + 1) + 1 = n - pickE (fun i => Q (n - i)) (n - m) x by have := p2.1; unfold topC at this; omega]
    exact this
  · exact p2.2.2

/-- Over an inner column, the upper side is above the lower one. -/
theorem CP.above {n m : Nat} {Q : Nat → Pt} (h : CP n m Q) {x : Int} {j k : Nat} (c : Col n m Q x j k) (hx : (Q 0).1 < x) :
    0 < ((Q (j + 1)).1 - (Q j).1) * nuZ (Q (k + 1)) (Q k) x - ((Q k).1 - (Q (k + 1)).1) * nuZ (Q j) (Q (j + 1)) x := by
  have h3 := h.n3
  have hm := h.mn
  obtain ⟨c1, c2, c3, l1, l2, u1, u2⟩ := c
  have t1 := h.left k j c3 (by omega)
  have t2 := h.left k (j + 1) c3 (by omega)
  have z1 := h.zero k j c3 (by omega)
  have z2 := h.zero k (j + 1) c3 (by omega)
  have e1 : tn (Q k) (Q (k + 1)) (Q j) = ((Q j).1 - (Q (k + 1)).1) * ((Q k).2 - (Q (k + 1)).2) - ((Q k).1 - (Q (k + 1)).1) * ((Q j).2 - (Q (k + 1)).2) := by unfold tn cr sb; grind
  have e2 : tn (Q k) (Q (k + 1)) (Q (j + 1)) = ((Q (j + 1)).1 - (Q (k + 1)).1) * ((Q k).2 - (Q (k + 1)).2) - ((Q k).1 - (Q (k + 1)).1) * ((Q (j + 1)).2 - (Q (k + 1)).2) := by unfold tn cr sb; grind
  rw [tn_mean, ← e1, ← e2]
  have m1 := Int.mul_nonneg (show 0 ≤ (Q (j + 1)).1 - x by omega) t1
  have m2 := Int.mul_nonneg (show 0 ≤ x - (Q j).1 by omega) t2
  by_cases z : 0 < tn (Q k) (Q (k + 1)) (Q j)
  · have := Int.mul_pos (show 0 < (Q (j + 1)).1 - x by omega) z
    omega
  · have hj := z1 (by omega)
    have j0 : j = 0 := by omega
    subst j0
    have p : 0 < tn (Q k) (Q (k + 1)) (Q (0 + 1)) := by
      rcases Int.lt_or_eq_of_le t2 with p | p
      · exact p
      · have := z2 p.symm
        omega
    have := Int.mul_pos (show 0 < x - (Q 0).1 by omega) p
    omega

/-- Over an inner column, a point is inside if it lies between the two sides. -/
theorem CP.between {n m : Nat} {Q : Nat → Pt} (h : CP n m Q) {x y : Int} {j k : Nat} (c : Col n m Q x j k) (hx : (Q 0).1 < x) :
    (Ins n Q (x, y) ↔ nuZ (Q j) (Q (j + 1)) x ≤ ((Q (j + 1)).1 - (Q j).1) * y ∧ ((Q k).1 - (Q (k + 1)).1) * y ≤ nuZ (Q (k + 1)) (Q k) x)
    ∧ (InsS n Q (x, y) ↔ nuZ (Q j) (Q (j + 1)) x < ((Q (j + 1)).1 - (Q j).1) * y ∧ ((Q k).1 - (Q (k + 1)).1) * y < nuZ (Q (k + 1)) (Q k) x) := by
  have h3 := h.n3
  have hm := h.mn
  have hab := h.above c hx
  obtain ⟨c1, c2, c3, l1, l2, u1, u2⟩ := c
  obtain ⟨w, hw⟩ : ∃ w, w = (Q (j + 1)).1 - (Q j).1 := ⟨_, rfl⟩
  obtain ⟨v, hv⟩ : ∃ v, v = (Q k).1 - (Q (k + 1)).1 := ⟨_, rfl⟩
  obtain ⟨N, hN⟩ : ∃ N, N = nuZ (Q j) (Q (j + 1)) x := ⟨_, rfl⟩
  obtain ⟨M, hM⟩ : ∃ M, M = nuZ (Q (k + 1)) (Q k) x := ⟨_, rfl⟩
  have e1 : tn (Q j) (Q (j + 1)) (x, y) = w * y - N := by rw [tn_cols, hw, hN]
  have e2 : tn (Q k) (Q (k + 1)) (x, y) = M - v * y := by rw [tn_cols', hv, hM]
  have hk1 : ∃ k', k' < n ∧ Q (k + 1) = Q k' ∧ (k' = k + 1 ∨ (k' = 0 ∧ k + 1 = n)) := by
    by_cases e : k + 1 = n
    · exact ⟨0, by omega, by rw [e, h.q0], .inr ⟨rfl, e⟩⟩
    · exact ⟨k + 1, by omega, rfl, .inl rfl⟩
  obtain ⟨k', hk', ek, ck⟩ := hk1
  have key : ∀ i, i < n → w * M - v * N = w * M - v * N ∧ (w * M - v * N) * tn (Q i) (Q (i + 1)) (x, y)
      = (M - v * y) * (((Q (j + 1)).1 - x) * tn (Q i) (Q (i + 1)) (Q j) + (x - (Q j).1) * tn (Q i) (Q (i + 1)) (Q (j + 1)))
      + (w * y - N) * (((Q k).1 - x) * tn (Q i) (Q (i + 1)) (Q (k + 1)) + (x - (Q (k + 1)).1) * tn (Q i) (Q (i + 1)) (Q k)) := by
    intro i hi
    refine ⟨rfl, ?_⟩
    rw [hw, hv, hN, hM]
    unfold nuZ tn cr sb
    grind
  rw [← hw, ← hv, ← hN, ← hM] at hab ⊢
  refine ⟨⟨fun hi => ?_, fun hi => ?_⟩, ⟨fun hi => ?_, fun hi => ?_⟩⟩
  · have a1 := hi j (by omega)
    have a2 := hi k c3
    omega
  · intro i hi'
    have K := (key i hi').2
    have p1 := Int.mul_nonneg (show 0 ≤ (Q (j + 1)).1 - x by omega) (h.left i j hi' (by omega))
    have p2 := Int.mul_nonneg (show 0 ≤ x - (Q j).1 by omega) (h.left i (j + 1) hi' (by omega))
    have p3 := Int.mul_nonneg (show 0 ≤ (Q k).1 - x by omega) (h.left i k' hi' hk')
    have p4 := Int.mul_nonneg (show 0 ≤ x - (Q (k + 1)).1 by omega) (h.left i k hi' c3)
    rw [← ek] at p3
    have q1 := Int.mul_nonneg (show 0 ≤ M - v * y by omega) (Int.add_nonneg p1 p2)
    have q2 := Int.mul_nonneg (show 0 ≤ w * y - N by omega) (Int.add_nonneg p3 p4)
    rcases Int.lt_or_le (tn (Q i) (Q (i + 1)) (x, y)) 0 with hn | hn
    · have := Int.mul_neg_of_pos_of_neg hab hn
      omega
    · exact hn
  · have a1 := hi j (by omega)
    have a2 := hi k c3
    omega
  · intro i hi'
    have K := (key i hi').2
    have t1 := h.left i j hi' (by omega)
    have t2 := h.left i (j + 1) hi' (by omega)
    have t3 := h.left i k' hi' hk'
    have t4 := h.left i k hi' c3
    have z1 := h.zero i j hi' (by omega)
    have z2 := h.zero i (j + 1) hi' (by omega)
    have z3 := h.zero i k' hi' hk'
    have z4 := h.zero i k hi' c3
    rw [← ek] at t3 z3
    have p1 := Int.mul_nonneg (show 0 ≤ (Q (j + 1)).1 - x by omega) t1
    have p2 := Int.mul_nonneg (show 0 ≤ x - (Q j).1 by omega) t2
    have p3 := Int.mul_nonneg (show 0 ≤ (Q k).1 - x by omega) t3
    have p4 := Int.mul_nonneg (show 0 ≤ x - (Q (k + 1)).1 by omega) t4
    have q1 := Int.mul_nonneg (show 0 ≤ M - v * y by omega) (Int.add_nonneg p1 p2)
    have q2 := Int.mul_nonneg (show 0 ≤ w * y - N by omega) (Int.add_nonneg p3 p4)
    have some : 0 < ((Q (j + 1)).1 - x) * tn (Q i) (Q (i + 1)) (Q j) + (x - (Q j).1) * tn (Q i) (Q (i + 1)) (Q (j + 1)) ∨ 0 < ((Q k).1 - x) * tn (Q i) (Q (i + 1)) (Q (k + 1)) + (x - (Q (k + 1)).1) * tn (Q i) (Q (i + 1)) (Q k) := by
      rcases Int.lt_or_eq_of_le t1 with s1 | s1
      · have := Int.mul_pos (show 0 < (Q (j + 1)).1 - x by omega) s1
        exact .inl (by omega)
      rcases Int.lt_or_eq_of_le t3 with s3 | s3
      · have := Int.mul_pos (show 0 < (Q k).1 - x by omega) s3
        exact .inr (by omega)
      have y1 := z1 s1.symm
      have y3 := z3 s3.symm
      rcases Int.lt_or_eq_of_le l1 with r1 | r1
      · rcases Int.lt_or_eq_of_le t2 with s2 | s2
        · have := Int.mul_pos (show 0 < x - (Q j).1 by omega) s2
          exact .inl (by omega)
        have y2 := z2 s2.symm
        rcases Int.lt_or_eq_of_le u1 with r2 | r2
        · rcases Int.lt_or_eq_of_le t4 with s4 | s4
          · have := Int.mul_pos (show 0 < x - (Q (k + 1)).1 by omega) s4
            exact .inr (by omega)
          have y4 := z4 s4.symm
          omega
        · by_cases e : k + 1 = n
          · rw [e, h.q0] at r2; omega
          · omega
      · have hj : j ≠ 0 := fun e => by rw [e] at r1; omega
        rcases Int.lt_or_eq_of_le u1 with r2 | r2
        · rcases Int.lt_or_eq_of_le t4 with s4 | s4
          · have := Int.mul_pos (show 0 < x - (Q (k + 1)).1 by omega) s4
            exact .inr (by omega)
          have y4 := z4 s4.symm
          omega
        · by_cases e : k + 1 = n
          · rw [e, h.q0] at r2; omega
          · omega
    rcases Int.lt_or_le 0 (tn (Q i) (Q (i + 1)) (x, y)) with hn | hn
    · exact hn
    · exfalso
      have := Int.mul_nonneg (show 0 ≤ w * M - v * N by omega) (show 0 ≤ - tn (Q i) (Q (i + 1)) (x, y) by omega)
      rw [Int.mul_neg] at this
      rcases some with s | s
      · have := Int.mul_pos (show 0 < M - v * y by omega) s
        omega
      · have := Int.mul_pos (show 0 < w * y - N by omega) s
        omega


instance insDec (n : Nat) (Q : Nat → Pt) (q : Pt) : Decidable (Ins n Q q) := by unfold Ins; infer_instance
instance insSDec (n : Nat) (Q : Nat → Pt) (q : Pt) : Decidable (InsS n Q q) := by unfold InsS; infer_instance
/-- How many heights of a column, from y0 on, h of them, satisfy p. -/
def cnt (p : Int → Prop) [DecidablePred p] (y0 : Int) (h : Nat) : Int := sg (fun j => if p (y0 + (j : Nat)) then 1 else 0) h
theorem cnt_span {p : Int → Prop} [DecidablePred p] {y0 lo hi : Int} (hp : ∀ y, p y ↔ lo ≤ y ∧ y ≤ hi) (h0 : y0 ≤ lo) (h1 : lo ≤ hi + 1) {h : Nat} (h2 : hi < y0 + h) : cnt p y0 h = hi - lo + 1 := by
  have key : ∀ k : Nat, cnt p y0 k = max 0 (min (hi + 1) (y0 + k) - lo) := by
    intro k
    induction k with
    | zero => simp only [cnt, sg]; omega
    | succ k ih =>
      unfold cnt at ih ⊢
      simp only [sg]
      rw [ih]
      by_cases e : p (y0 + (k : Nat))
      · rw [if_pos e]; have := (hp _).1 e; omega
      · rw [if_neg e]; have : ¬ (lo ≤ y0 + (k : Nat) ∧ y0 + (k : Nat) ≤ hi) := fun h => e ((hp _).2 h); omega
  rw [key]; omega

theorem sg_only0 {f : Nat → Int} {k : Nat} (h : ∀ i, 0 < i → i < k → f i = 0) (hk : 0 < k) : sg f k = f 0 := by
  obtain ⟨v, rfl⟩ : ∃ v, k = v + 1 := ⟨k - 1, by omega⟩
  rw [sg_first, sg_congr (g := fun _ => 0) fun j hj => h (j + 1) (by omega) (by omega), sg_const]
  omega
theorem sg_onlyL {f : Nat → Int} {k : Nat} (h : ∀ i, i + 1 < k → f i = 0) (hk : 0 < k) : sg f k = f (k - 1) := by
  obtain ⟨v, rfl⟩ : ∃ v, k = v + 1 := ⟨k - 1, by omega⟩
  simp only [sg]
  rw [sg_congr (g := fun _ => 0) fun j hj => h j (by omega), sg_const]
  simp

theorem le_cei {n y w : Int} {v : Nat} (hw : w = v) (h : 0 < v) : n ≤ w * y ↔ cei n v ≤ y := by
  unfold cei
  have := Int.le_ediv_iff_mul_le (a := -y) (b := -n) (c := (v : Int)) (by omega)
  rw [hw]
  rw [Int.neg_mul, Int.mul_comm y] at this
  omega
theorem le_flr {n y w : Int} {v : Nat} (hw : w = v) (h : 0 < v) : w * y ≤ n ↔ y ≤ flr n v := by
  unfold flr
  rw [Int.le_ediv_iff_mul_le (by omega), hw, Int.mul_comm]
theorem cei_flr (n : Int) {v : Nat} (h : 0 < v) : flr n v ≤ cei n v ∧ cei n v ≤ flr n v + 1 := by
  have := dv_eq n h
  unfold dv at this
  split at this <;> omega

theorem wd_eq {a b : Pt} (h : a.1 ≤ b.1) : b.1 - a.1 = (wd a b : Int) := by unfold wd; omega
theorem nuZ_ge {a b : Pt} {x l : Int} (h1 : a.1 ≤ x) (h2 : x ≤ b.1) (ha : l ≤ a.2) (hb : l ≤ b.2) : (b.1 - a.1) * l ≤ nuZ a b x := by
  have e : nuZ a b x - (b.1 - a.1) * l = (b.1 - x) * (a.2 - l) + (x - a.1) * (b.2 - l) := by unfold nuZ; grind
  have := Int.mul_nonneg (show 0 ≤ b.1 - x by omega) (show 0 ≤ a.2 - l by omega)
  have := Int.mul_nonneg (show 0 ≤ x - a.1 by omega) (show 0 ≤ b.2 - l by omega)
  omega
theorem nuZ_le {a b : Pt} {x l : Int} (h1 : a.1 ≤ x) (h2 : x ≤ b.1) (ha : a.2 ≤ l) (hb : b.2 ≤ l) : nuZ a b x ≤ (b.1 - a.1) * l := by
  have e : (b.1 - a.1) * l - nuZ a b x = (b.1 - x) * (l - a.2) + (x - a.1) * (l - b.2) := by unfold nuZ; grind
  have := Int.mul_nonneg (show 0 ≤ b.1 - x by omega) (show 0 ≤ l - a.2 by omega)
  have := Int.mul_nonneg (show 0 ≤ x - a.1 by omega) (show 0 ≤ l - b.2 by omega)
  omega

/-- The corners' heights lie between y0 and y0 + h. -/
def Box (n : Nat) (Q : Nat → Pt) (y0 : Int) (h : Nat) : Prop := ∀ i, i ≤ n → y0 ≤ (Q i).2 ∧ (Q i).2 < y0 + h

theorem CP.inner {n m : Nat} {Q : Nat → Pt} (h : CP n m Q) {y0 : Int} {hh : Nat} (hB : Box n Q y0 hh) {x : Int} (hx : (Q 0).1 < x) (hx' : x < (Q m).1) :
    cnt (fun y => Ins n Q (x, y)) y0 hh = FL (topC n Q) (n - m) x - CE Q m x + 1
    ∧ cnt (fun y => InsS n Q (x, y)) y0 hh = CE (topC n Q) (n - m) x - FL Q m x - 1 := by
  have hm := h.mn
  have h0 := h.m0
  have c := h.col (x := x) (by omega) hx'
  have hb := fun y => h.between (y := y) c hx
  have hab := h.above c hx
  obtain ⟨j, hj⟩ : ∃ j, j = pickE Q m x := ⟨_, rfl⟩
  obtain ⟨t, ht⟩ : ∃ t, t = pickE (topC n Q) (n - m) x := ⟨_, rfl⟩
  obtain ⟨k, hk⟩ : ∃ k, k = n - (t + 1) := ⟨_, rfl⟩
  have f1 : FL Q m x = flr (nuZ (Q j) (Q (j + 1)) x) (wd (Q j) (Q (j + 1))) := by unfold FL; rw [← hj]
  have f2 : CE Q m x = cei (nuZ (Q j) (Q (j + 1)) x) (wd (Q j) (Q (j + 1))) := by unfold CE; rw [← hj]
  rw [← hj, ← ht, ← hk] at c hab
  rw [← hj, ← ht, ← hk] at hb
  have hkn := c.kn
  have hmk := c.mk'
  have ht2 : n - t = k + 1 := by omega
  have f3 : FL (topC n Q) (n - m) x = flr (nuZ (Q (k + 1)) (Q k) x) (wd (Q (k + 1)) (Q k)) := by
    unfold FL; rw [← ht]; unfold topC; rw [ht2, ← hk]
  have f4 : CE (topC n Q) (n - m) x = cei (nuZ (Q (k + 1)) (Q k) x) (wd (Q (k + 1)) (Q k)) := by
    unfold CE; rw [← ht]; unfold topC; rw [ht2, ← hk]
  obtain ⟨c1, c2, c3, l1, l2, u1, u2⟩ := c
  rw [f1, f2, f3, f4]
  clear f1 f2 f3 f4
  have w1 := wd_eq (a := Q j) (b := Q (j + 1)) (by omega)
  have w2 := wd_eq (a := Q (k + 1)) (b := Q k) (by omega)
  have p1 : 0 < wd (Q j) (Q (j + 1)) := by omega
  have p2 : 0 < wd (Q (k + 1)) (Q k) := by omega
  have g1 := hB j (by omega)
  have g2 := hB (j + 1) (by omega)
  have g3 := hB k (by omega)
  have g4 := hB (k + 1) (by omega)
  have n1 := nuZ_ge (a := Q j) (b := Q (j + 1)) (x := x) (l := y0) (by omega) (by omega) (by omega) (by omega)
  have n2 := nuZ_le (a := Q (k + 1)) (b := Q k) (x := x) (l := y0 + hh - 1) (by omega) (by omega) (by omega) (by omega)
  have n3 := nuZ_le (a := Q j) (b := Q (j + 1)) (x := x) (l := y0 + hh - 1) (by omega) (by omega) (by omega) (by omega)
  have n4 := nuZ_ge (a := Q (k + 1)) (b := Q k) (x := x) (l := y0) (by omega) (by omega) (by omega) (by omega)
  rw [w1] at n1 n3 hab hb
  rw [w2] at n2 n4 hab hb
  generalize nuZ (Q j) (Q (j + 1)) x = N at *
  generalize nuZ (Q (k + 1)) (Q k) x = M at *
  generalize wd (Q j) (Q (j + 1)) = w at *
  generalize wd (Q (k + 1)) (Q k) = v at *
  clear w1 w2 g1 g2 g3 g4
  have b1 : y0 ≤ flr N w := (le_flr rfl p1).1 n1
  have b2 : cei M v ≤ y0 + hh - 1 := (le_cei rfl p2).1 n2
  have s1 := cei_flr N p1
  have s2 := cei_flr M p2
  have s3 : flr N w < cei M v := by
    by_cases e : flr N w < cei M v
    · exact e
    · exfalso
      have q1 : (w : Int) * flr N w ≤ N := (le_flr rfl p1).2 (Int.le_refl _)
      have q2 : M ≤ (v : Int) * cei M v := (le_cei rfl p2).2 (Int.le_refl _)
      have r1 := Int.mul_le_mul_of_nonneg_left q1 (show (0 : Int) ≤ v by omega)
      have r2 := Int.mul_le_mul_of_nonneg_left q2 (show (0 : Int) ≤ w by omega)
      have r3 := Int.mul_le_mul_of_nonneg_left (show cei M v ≤ flr N w by omega) (show (0 : Int) ≤ (w : Int) * v by exact Int.mul_nonneg (by omega) (by omega))
      have i1 : (v : Int) * (w * flr N w) = w * v * flr N w := by grind
      have i2 : (w : Int) * (v * cei M v) = w * v * cei M v := by grind
      omega
  constructor
  · apply cnt_span
    · intro y
      rw [(hb y).1, le_cei rfl p1, le_flr rfl p2]
    · omega
    · omega
    · omega
  · rw [show cei M v - flr N w - 1 = (cei M v - 1) - (flr N w + 1) + 1 by omega]
    apply cnt_span
    · intro y
      rw [(hb y).2]
      have a1 := le_flr (n := N) (y := y) (w := (w : Int)) rfl p1
      have a2 := le_cei (n := M) (y := y) (w := (v : Int)) rfl p2
      omega
    · omega
    · omega
    · omega

/-- The first column. -/
theorem CP.first {n m : Nat} {Q : Nat → Pt} (h : CP n m Q) : 0 ≤ vE (Q 0) (Q (n - 1))
    ∧ (∀ y, Ins n Q ((Q 0).1, y) ↔ (Q 0).2 ≤ y ∧ y ≤ (Q 0).2 + vE (Q 0) (Q (n - 1)))
    ∧ (∀ y, ¬ InsS n Q ((Q 0).1, y))
    ∧ (FL Q m (Q 0).1 = (Q 0).2 ∧ CE Q m (Q 0).1 = (Q 0).2)
    ∧ (FL (topC n Q) (n - m) (Q 0).1 = (Q 0).2 + vE (Q 0) (Q (n - 1)) ∧ CE (topC n Q) (n - m) (Q 0).1 = (Q 0).2 + vE (Q 0) (Q (n - 1)))
    ∧ sg (fun i => vE (topC n Q i) (topC n Q (i + 1))) (n - m) = vE (Q 0) (Q (n - 1)) := by
  have h3 := h.n3
  have h0 := h.m0
  have h1 := h.mn
  have hw := h.wide
  have t0 : topC n Q 0 = Q 0 := by unfold topC; rw [Nat.sub_zero, h.q0]
  have t1 : topC n Q 1 = Q (n - 1) := rfl
  have s1 : (Q 0).1 < (Q 1).1 := by
    by_cases e : 1 < m
    · exact h.steep (i := 0) e
    · have : m = 1 := by omega
      rw [this] at hw; exact hw
  have hl : lx (Q 0) (Q (n - 1)) := by
    have := h.desc (n - 1) (by omega) (by omega)
    rwa [show n - 1 + 1 = n by omega, h.q0] at this
  have hv0 : 0 ≤ vE (Q 0) (Q (n - 1)) := by unfold vE; unfold lx at hl; split <;> omega
  have low : ∀ y, Ins n Q ((Q 0).1, y) → (Q 0).2 ≤ y := by
    intro y hi
    have := hi 0 (by omega)
    rw [tn_cols] at this
    have e : ((Q (0 + 1)).1 - (Q 0).1) * y - nuZ (Q 0) (Q (0 + 1)) (Q 0).1 = ((Q 1).1 - (Q 0).1) * (y - (Q 0).2) := by unfold nuZ; grind
    rw [e] at this
    rcases Int.lt_or_le y (Q 0).2 with hh | hh
    · have := Int.mul_neg_of_pos_of_neg (show 0 < (Q 1).1 - (Q 0).1 by omega) (show y - (Q 0).2 < 0 by omega)
      omega
    · exact hh
  refine ⟨hv0, ?_, ?_, ?_, ?_, ?_⟩
  · intro y
    by_cases e : (Q 0).1 = (Q (n - 1)).1
    · have hv : vE (Q 0) (Q (n - 1)) = (Q (n - 1)).2 - (Q 0).2 := by unfold vE; rw [if_pos e]
      have hlt : (Q 0).2 < (Q (n - 1)).2 := by unfold lx at hl; omega
      have hnm : n - 1 ≠ m := fun e' => by rw [e'] at e; omega
      have st := h.steep2 (i := n - 2) (by omega) (by omega)
      rw [show n - 2 + 1 = n - 1 by omega] at st
      rw [hv]
      constructor
      · intro hi
        refine ⟨low y hi, ?_⟩
        have := hi (n - 2) (by omega)
        rw [tn_cols', show n - 2 + 1 = n - 1 by omega] at this
        have e2 : nuZ (Q (n - 1)) (Q (n - 2)) (Q 0).1 - ((Q (n - 2)).1 - (Q (n - 1)).1) * y = ((Q (n - 2)).1 - (Q (n - 1)).1) * ((Q (n - 1)).2 - y) := by unfold nuZ; rw [e]; grind
        rw [e2] at this
        rcases Int.lt_or_le ((Q (n - 1)).2) y with hh | hh
        · have := Int.mul_neg_of_pos_of_neg (show 0 < (Q (n - 2)).1 - (Q (n - 1)).1 by omega) (show (Q (n - 1)).2 - y < 0 by omega)
          omega
        · omega
      · rintro ⟨y1, y2⟩ i hi
        have K : ((Q (n - 1)).2 - (Q 0).2) * tn (Q i) (Q (i + 1)) ((Q 0).1, y) = ((Q (n - 1)).2 - y) * tn (Q i) (Q (i + 1)) (Q 0) + (y - (Q 0).2) * tn (Q i) (Q (i + 1)) (Q (n - 1)) := by
          unfold tn cr sb; simp only; rw [← e]; grind
        have a1 := Int.mul_nonneg (show 0 ≤ (Q (n - 1)).2 - y by omega) (h.left i 0 hi (by omega))
        have a2 := Int.mul_nonneg (show 0 ≤ y - (Q 0).2 by omega) (h.left i (n - 1) hi (by omega))
        rcases Int.lt_or_le (tn (Q i) (Q (i + 1)) ((Q 0).1, y)) 0 with hh | hh
        · have := Int.mul_neg_of_pos_of_neg (show 0 < (Q (n - 1)).2 - (Q 0).2 by omega) hh
          omega
        · exact hh
    · have hv : vE (Q 0) (Q (n - 1)) = 0 := by unfold vE; rw [if_neg e]
      rw [hv]
      constructor
      · intro hi
        refine ⟨low y hi, ?_⟩
        have := hi (n - 1) (by omega)
        rw [tn_cols', show n - 1 + 1 = n by omega, h.q0] at this
        have hl1 := hl.le1
        have e2 : nuZ (Q 0) (Q (n - 1)) (Q 0).1 - ((Q (n - 1)).1 - (Q 0).1) * y = ((Q (n - 1)).1 - (Q 0).1) * ((Q 0).2 - y) := by unfold nuZ; grind
        rw [e2] at this
        rcases Int.lt_or_le ((Q 0).2) y with hh | hh
        · have := Int.mul_neg_of_pos_of_neg (show 0 < (Q (n - 1)).1 - (Q 0).1 by omega) (show (Q 0).2 - y < 0 by omega)
          omega
        · omega
      · rintro ⟨y1, y2⟩ i hi
        have : ((Q 0).1, y) = Q 0 := Prod.ext rfl (by simp only; omega)
        rw [this]
        exact h.left i 0 hi (by omega)
  · intro y hi
    by_cases e : (Q 0).1 = (Q (n - 1)).1
    · have := hi (n - 1) (by omega)
      rw [show n - 1 + 1 = n by omega, h.q0] at this
      have e2 : tn (Q (n - 1)) (Q 0) ((Q 0).1, y) = 0 := by unfold tn cr sb; simp only; rw [e]; grind
      omega
    · have hl1 := hl.le1
      have a1 := hi (n - 1) (by omega)
      have a2 := hi 0 (by omega)
      rw [tn_cols', show n - 1 + 1 = n by omega, h.q0] at a1
      rw [tn_cols, Nat.zero_add] at a2
      have e1 : nuZ (Q 0) (Q (n - 1)) (Q 0).1 - ((Q (n - 1)).1 - (Q 0).1) * y = - (((Q (n - 1)).1 - (Q 0).1) * (y - (Q 0).2)) := by unfold nuZ; grind
      have e2 : ((Q 1).1 - (Q 0).1) * y - nuZ (Q 0) (Q 1) (Q 0).1 = ((Q 1).1 - (Q 0).1) * (y - (Q 0).2) := by unfold nuZ; grind
      rw [e1] at a1
      rw [e2] at a2
      rcases Int.lt_or_le ((Q 0).2) y with hh | hh
      · have := Int.mul_pos (show 0 < (Q (n - 1)).1 - (Q 0).1 by omega) (show 0 < y - (Q 0).2 by omega)
        omega
      · have := Int.mul_nonneg (show 0 ≤ (Q 1).1 - (Q 0).1 by omega) (show 0 ≤ - (y - (Q 0).2) by omega)
        rw [Int.mul_neg] at this
        omega
  · exact chain_corner h.low (i := 0) h0 s1
  · by_cases e : (Q 0).1 = (Q (n - 1)).1
    · have hv : vE (Q 0) (Q (n - 1)) = (Q (n - 1)).2 - (Q 0).2 := by unfold vE; rw [if_pos e]
      have hnm : n - 1 ≠ m := fun e' => by rw [e'] at e; omega
      have st := h.steep2 (i := n - 2) (by omega) (by omega)
      rw [show n - 2 + 1 = n - 1 by omega] at st
      have := chain_corner h.top (i := 1) (by omega) (by unfold topC; rw [show n - (1 + 1) = n - 2 by omega]; exact st)
      rw [t1, ← e] at this
      rw [this.1, this.2, hv]
      omega
    · have hv : vE (Q 0) (Q (n - 1)) = 0 := by unfold vE; rw [if_neg e]
      have hl1 := hl.le1
      have := chain_corner h.top (i := 0) (by omega) (by rw [t0, t1]; omega)
      rw [t0] at this
      rw [this.1, this.2, hv]
      omega
  · rw [sg_only0 (fun i hi hi' => ?_) (by omega), t0, t1]
    unfold vE topC
    have st := h.steep2 (i := n - (i + 1)) (by omega) (by omega)
    rw [show n - (i + 1) + 1 = n - i by omega] at st
    rw [if_neg (by omega)]

/-- The last column. -/
theorem CP.last {n m : Nat} {Q : Nat → Pt} (h : CP n m Q) : 0 ≤ vE (Q (m - 1)) (Q m)
    ∧ (∀ y, Ins n Q ((Q m).1, y) ↔ (Q m).2 - vE (Q (m - 1)) (Q m) ≤ y ∧ y ≤ (Q m).2)
    ∧ (∀ y, ¬ InsS n Q ((Q m).1, y))
    ∧ sg (fun i => vE (Q i) (Q (i + 1))) m = vE (Q (m - 1)) (Q m) := by
  have h3 := h.n3
  have h0 := h.m0
  have h1 := h.mn
  obtain ⟨a1, a2, a3, _, _, _⟩ := h.flip.first
  have e0 : ng (Q (0 + m)) = ng (Q m) := by simp only [Nat.zero_add]
  have e1 : ng (Q (n - 1 + m)) = ng (Q (m - 1)) := by
    have := h.per (m - 1)
    rw [← this]
    congr 2; omega
  rw [e0, e1] at a1 a2
  rw [e0] at a3
  have ev : vE (ng (Q m)) (ng (Q (m - 1))) = vE (Q (m - 1)) (Q m) := by
    unfold vE ng
    by_cases e : (Q (m - 1)).1 = (Q m).1
    · rw [if_pos e, if_pos (by simp only; omega)]; omega
    · rw [if_neg e, if_neg (by simp only; omega)]
  rw [ev] at a1 a2
  have turn : ∀ i, i < n → ∃ i', i' < n ∧ Q (i' + m) = Q i ∧ Q (i' + 1 + m) = Q (i + 1) := by
    intro i hi
    by_cases hh : m ≤ i
    · exact ⟨i - m, by omega, by congr 1; omega, by congr 1; omega⟩
    · refine ⟨i + n - m, by omega, ?_, ?_⟩
      · rw [← h.per i]; congr 1; omega
      · rw [← h.per (i + 1)]; congr 1; omega
  have back : ∀ i, i < n → ∃ i', i' < n ∧ Q (i + m) = Q i' ∧ Q (i + 1 + m) = Q (i' + 1) := by
    intro i hi
    by_cases hh : i + m < n
    · exact ⟨i + m, hh, rfl, by congr 1; omega⟩
    · refine ⟨i + m - n, by omega, ?_, ?_⟩
      · rw [← h.per (i + m - n)]; congr 1; omega
      · rw [← h.per (i + m - n + 1)]; congr 1; omega
  have ins : ∀ q, Ins n (fun i => ng (Q (i + m))) (ng q) ↔ Ins n Q q := by
    intro q
    unfold Ins
    constructor
    · intro hh i hi
      obtain ⟨i', hi', e1, e2⟩ := turn i hi
      have := hh i' hi'
      rwa [tn_ng, e1, e2] at this
    · intro hh i hi
      obtain ⟨i', hi', e1, e2⟩ := back i hi
      rw [tn_ng, e1, e2]
      exact hh i' hi'
  have insS : ∀ q, InsS n (fun i => ng (Q (i + m))) (ng q) ↔ InsS n Q q := by
    intro q
    unfold InsS
    constructor
    · intro hh i hi
      obtain ⟨i', hi', e1, e2⟩ := turn i hi
      have := hh i' hi'
      rwa [tn_ng, e1, e2] at this
    · intro hh i hi
      obtain ⟨i', hi', e1, e2⟩ := back i hi
      rw [tn_ng, e1, e2]
      exact hh i' hi'
  have eq : ∀ y : Int, ((ng (Q m)).1, -y) = ng ((Q m).1, y) := fun y => rfl
  refine ⟨a1, fun y => ?_, fun y => ?_, ?_⟩
  · rw [← ins, ← eq, a2]
    show -(Q m).2 ≤ -y ∧ -y ≤ -(Q m).2 + vE (Q (m - 1)) (Q m) ↔ _
    omega
  · rw [← insS, ← eq]; exact a3 _
  · rw [sg_onlyL (fun i hi => ?_) h0, show m - 1 + 1 = m by omega]
    have := h.steep (i := i) hi
    unfold vE
    rw [if_neg (by omega)]

def area2 (n : Nat) (Q : Nat → Pt) : Int := sg (fun i => cr (Q i) (Q (i + 1))) n
def sides (n : Nat) (Q : Nat → Pt) : Int := sg (fun i => (Nat.gcd ((Q (i + 1)).1 - (Q i).1).natAbs ((Q (i + 1)).2 - (Q i).2).natAbs : Int)) n

theorem split_top {n m : Nat} {Q : Nat → Pt} (hm : m ≤ n) (f : Pt → Pt → Int) : sg (fun i => f (Q i) (Q (i + 1))) n = sg (fun i => f (Q i) (Q (i + 1))) m + sg (fun i => f (topC n Q (i + 1)) (topC n Q i)) (n - m) := by
  have : n = m + (n - m) := by omega
  have e : sg (fun i => f (Q i) (Q (i + 1))) n = sg (fun i => f (Q i) (Q (i + 1))) (m + (n - m)) := by rw [← this]
  rw [e, sg_split]
  congr 1
  rw [← sg_rev]
  apply sg_congr
  intro j hj
  unfold topC
  congr 2 <;> omega

/-- Pick's theorem, with the inner points and the sides' points told apart. -/
theorem CP.pick {n m : Nat} {Q : Nat → Pt} (h : CP n m Q) {y0 : Int} {hh : Nat} (hB : Box n Q y0 hh) {W : Nat} (hW : (Q m).1 = (Q 0).1 + W) :
    sg (fun j => cnt (fun y => Ins n Q ((Q 0).1 + (j : Nat), y)) y0 hh) (W + 1) - sg (fun j => cnt (fun y => InsS n Q ((Q 0).1 + (j : Nat), y)) y0 hh) (W + 1) = sides n Q
    ∧ sg (fun j => cnt (fun y => Ins n Q ((Q 0).1 + (j : Nat), y)) y0 hh) (W + 1) + sg (fun j => cnt (fun y => InsS n Q ((Q 0).1 + (j : Nat), y)) y0 hh) (W + 1) = area2 n Q + 2 := by
  have h3 := h.n3
  have h0 := h.m0
  have h1 := h.mn
  have hw := h.wide
  obtain ⟨v1, i1, s1, ⟨fl1, ce1⟩, ⟨ft1, ct1⟩, sv1⟩ := h.first
  obtain ⟨v2, i2, s2, sv2⟩ := h.last
  obtain ⟨V, rfl⟩ : ∃ V, W = V + 1 := ⟨W - 1, by omega⟩
  have b0 := hB 0 (by omega)
  have bm := hB m (by omega)
  have bn := hB (n - 1) (by omega)
  have bp := hB (m - 1) (by omega)
  have vb1 : (Q 0).2 + vE (Q 0) (Q (n - 1)) < y0 + hh := by unfold vE; split <;> omega
  have vb2 : y0 ≤ (Q m).2 - vE (Q (m - 1)) (Q m) := by unfold vE; split <;> omega
  have c1 : cnt (fun y => Ins n Q ((Q 0).1, y)) y0 hh = vE (Q 0) (Q (n - 1)) + 1 := by
    rw [cnt_span (lo := (Q 0).2) (hi := (Q 0).2 + vE (Q 0) (Q (n - 1))) i1 (by omega) (by omega) vb1]; omega
  have c2 : cnt (fun y => Ins n Q ((Q m).1, y)) y0 hh = vE (Q (m - 1)) (Q m) + 1 := by
    rw [cnt_span (lo := (Q m).2 - vE (Q (m - 1)) (Q m)) (hi := (Q m).2) i2 (by omega) (by omega) (by omega)]; omega
  have none : ∀ (p : Int → Prop) [DecidablePred p], (∀ y, ¬ p y) → cnt p y0 hh = 0 := by
    intro p _ hp
    rw [cnt_span (lo := y0) (hi := y0 - 1) (fun y => ⟨fun e => absurd e (hp y), fun e => by omega⟩) (by omega) (by omega) (by omega)]
    omega
  have d1 := none _ s1
  have d2 := none _ s2
  have eI : sg (fun j => cnt (fun y => Ins n Q ((Q 0).1 + (j : Nat), y)) y0 hh) (V + 1 + 1)
      = vE (Q 0) (Q (n - 1)) + 1 + (vE (Q (m - 1)) (Q m) + 1) + sg (fun j => FL (topC n Q) (n - m) ((Q 0).1 + ((j + 1 : Nat) : Int)) - CE Q m ((Q 0).1 + ((j + 1 : Nat) : Int)) + 1) V := by
    have l : cnt (fun y => Ins n Q ((Q 0).1 + ((V + 1 : Nat) : Int), y)) y0 hh = vE (Q (m - 1)) (Q m) + 1 := by rw [← hW]; exact c2
    have z : cnt (fun y => Ins n Q ((Q 0).1 + ((0 : Nat) : Int), y)) y0 hh = vE (Q 0) (Q (n - 1)) + 1 := by rw [← c1]; simp
    have e : sg (fun j => cnt (fun y => Ins n Q ((Q 0).1 + ((j + 1 : Nat) : Int), y)) y0 hh) V = sg (fun j => FL (topC n Q) (n - m) ((Q 0).1 + ((j + 1 : Nat) : Int)) - CE Q m ((Q 0).1 + ((j + 1 : Nat) : Int)) + 1) V :=
      sg_congr fun j hj => (h.inner hB (by omega) (by omega)).1
    rw [show sg (fun j => cnt (fun y => Ins n Q ((Q 0).1 + (j : Nat), y)) y0 hh) (V + 1 + 1) = sg (fun j => cnt (fun y => Ins n Q ((Q 0).1 + (j : Nat), y)) y0 hh) (V + 1) + cnt (fun y => Ins n Q ((Q 0).1 + ((V + 1 : Nat) : Int), y)) y0 hh from rfl, sg_first, l, z, e]
    omega
  have eS : sg (fun j => cnt (fun y => InsS n Q ((Q 0).1 + (j : Nat), y)) y0 hh) (V + 1 + 1)
      = sg (fun j => CE (topC n Q) (n - m) ((Q 0).1 + ((j + 1 : Nat) : Int)) - FL Q m ((Q 0).1 + ((j + 1 : Nat) : Int)) - 1) V := by
    have l : cnt (fun y => InsS n Q ((Q 0).1 + ((V + 1 : Nat) : Int), y)) y0 hh = 0 := by rw [← hW]; exact d2
    have z : cnt (fun y => InsS n Q ((Q 0).1 + ((0 : Nat) : Int), y)) y0 hh = 0 := by rw [← d1]; simp
    have e : sg (fun j => cnt (fun y => InsS n Q ((Q 0).1 + ((j + 1 : Nat) : Int), y)) y0 hh) V = sg (fun j => CE (topC n Q) (n - m) ((Q 0).1 + ((j + 1 : Nat) : Int)) - FL Q m ((Q 0).1 + ((j + 1 : Nat) : Int)) - 1) V :=
      sg_congr fun j hj => (h.inner hB (by omega) (by omega)).2
    rw [show sg (fun j => cnt (fun y => InsS n Q ((Q 0).1 + (j : Nat), y)) y0 hh) (V + 1 + 1) = sg (fun j => cnt (fun y => InsS n Q ((Q 0).1 + (j : Nat), y)) y0 hh) (V + 1) + cnt (fun y => InsS n Q ((Q 0).1 + ((V + 1 : Nat) : Int), y)) y0 hh from rfl, sg_first, l, z, e]
    omega
  have g1 := chain_gl h.low
  have g2 := chain_gl h.top
  have g3 := chain_dv h.low
  have g4 := chain_dv h.top
  have tt : topC n Q (n - m) = Q m := by unfold topC; congr 1; omega
  have t0 : topC n Q 0 = Q 0 := by unfold topC; rw [Nat.sub_zero, h.q0]
  rw [tt, t0] at g2 g4
  rw [show ((Q m).1 - (Q 0).1).toNat = V + 1 by omega] at g1 g2 g3 g4
  rw [sg_first] at g1 g2 g3 g4
  rw [show (Q 0).1 + ((0 : Nat) : Int) = (Q 0).1 by simp] at g1 g2 g3 g4
  rw [fl1, ce1] at g1 g3
  rw [ft1, ct1] at g2 g4
  rw [sv1] at g2 g4
  rw [sv2] at g1 g3
  have ar : area2 n Q = sg (fun i => cr (Q i) (Q (i + 1))) m - sg (fun i => cr (topC n Q i) (topC n Q (i + 1))) (n - m) := by
    unfold area2
    rw [split_top (m := m) (by omega) cr]
    have : sg (fun i => cr (topC n Q (i + 1)) (topC n Q i)) (n - m) = sg (fun i => - cr (topC n Q i) (topC n Q (i + 1))) (n - m) := sg_congr fun i _ => cr_anti _ _
    rw [this, sg_neg]
    omega
  have sd : sides n Q = sg (fun i => (Nat.gcd ((Q (i + 1)).1 - (Q i).1).natAbs ((Q (i + 1)).2 - (Q i).2).natAbs : Int)) m
      + sg (fun i => (Nat.gcd ((topC n Q (i + 1)).1 - (topC n Q i).1).natAbs ((topC n Q (i + 1)).2 - (topC n Q i).2).natAbs : Int)) (n - m) := by
    unfold sides
    rw [split_top (m := m) (by omega) (fun a b => (Nat.gcd (b.1 - a.1).natAbs (b.2 - a.2).natAbs : Int))]
    congr 1
    apply sg_congr
    intro i _
    rw [← Int.natAbs_neg ((topC n Q i).1 - _), ← Int.natAbs_neg ((topC n Q i).2 - _)]
    congr 3 <;> omega
  have k1 := sg_lin4 (fun j => FL (topC n Q) (n - m) ((Q 0).1 + ((j + 1 : Nat) : Int))) (fun j => CE (topC n Q) (n - m) ((Q 0).1 + ((j + 1 : Nat) : Int))) (fun j => 0) V
  rw [eI, eS, ar, sd]
  simp only [sg_sub, sg_add, sg_const] at g1 g2 g3 g4 ⊢
  constructor <;> grind


end Go.Proofs.YthdonnkekggbbaaGreatDoor
