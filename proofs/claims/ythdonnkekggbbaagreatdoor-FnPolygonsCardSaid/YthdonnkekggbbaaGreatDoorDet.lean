/- Plain laws of minors and determinants as the program and the reference reckon them. Conditions: none. -/
import Derived.Test.YthdonnkekggbbaaGreatDoorJnVecFns2
namespace Go.Proofs.YthdonnkekggbbaaGreatDoor
open Go.RowKit
set_option linter.unusedVariables false
set_option linter.unusedSimpArgs false
set_option maxRecDepth 100000

/-- A row without a place. -/
def cutAt (r : List Int) (j : Nat) : List Int := r.take j ++ r.drop (j + 1)
/-- The first k rows without row i, each without place j. -/
def minorTo (xss : List (List Int)) (i j : Nat) : Nat → List (List Int)
  | 0 => []
  | k + 1 => if k = i then minorTo xss i j k else minorTo xss i j k ++ [cutAt (nthR xss k) j]
def minorL (xss : List (List Int)) (i j : Nat) : List (List Int) := minorTo xss i j xss.length

def sgn : Nat → Int
  | 0 => 1
  | k + 1 => -sgn k
theorem sgn_or (k : Nat) : sgn k = 1 ∨ sgn k = -1 := by
  induction k with
  | zero => exact .inl rfl
  | succ k ih => unfold sgn; omega

/-- The first k terms of the expansion along the first row; D: the determinant of a minor. -/
def detTo (D : List (List Int) → Int) (xss : List (List Int)) : Nat → Int
  | 0 => 0
  | k + 1 => if nth (nthR xss 0) k = 0 then detTo D xss k else wrap64 (detTo D xss k + wrap64 (wrap64 (sgn k * nth (nthR xss 0) k) * D (minorL xss 0 k)))
def detF : Nat → List (List Int) → Int
  | 0, _ => 1
  | n + 1, xss => detTo (detF n) xss (n + 1)

/-- The determinant as the reference reckons it. -/
def detS : List (List Int) → Int
  | [[a]] => a
  | [[a, b], [c, d]] => wrap64 (wrap64 (a * d) - wrap64 (b * c))
  | [[a, b, c], [d, e, f], [g, h, i]] =>
    wrap64 (wrap64 (wrap64 (0 + wrap64 (a * wrap64 (wrap64 (e * i) - wrap64 (f * h)))) + wrap64 (b * wrap64 (wrap64 (f * g) - wrap64 (d * i)))) + wrap64 (c * wrap64 (wrap64 (d * h) - wrap64 (e * g))))
  | _ => 0

/-- A square of n numbers each way. -/
def Sq (n : Nat) (xss : List (List Int)) : Prop := xss.length = n ∧ ∀ k, k < n → (nthR xss k).length = n

theorem Sq.one {xss : List (List Int)} (h : Sq 1 xss) : ∃ a, xss = [[a]] := by
  obtain ⟨hl, hr⟩ := h
  match xss, hl with
  | [r], _ =>
    have h0 := hr 0 (by omega)
    match r, h0 with
    | [a], _ => exact ⟨a, rfl⟩
theorem Sq.two {xss : List (List Int)} (h : Sq 2 xss) : ∃ a b c d, xss = [[a, b], [c, d]] := by
  obtain ⟨hl, hr⟩ := h
  match xss, hl with
  | [r, s], _ =>
    have h0 := hr 0 (by omega)
    have h1 := hr 1 (by omega)
    match r, h0, s, h1 with
    | [a, b], _, [c, d], _ => exact ⟨a, b, c, d, rfl⟩
theorem Sq.three {xss : List (List Int)} (h : Sq 3 xss) : ∃ a b c d e f g h i, xss = [[a, b, c], [d, e, f], [g, h, i]] := by
  obtain ⟨hl, hr⟩ := h
  match xss, hl with
  | [r, s, t], _ =>
    have h0 := hr 0 (by omega)
    have h1 := hr 1 (by omega)
    have h2 := hr 2 (by omega)
    match r, h0, s, h1, t, h2 with
    | [a, b, c], _, [d, e, f], _, [g, h, i], _ => exact ⟨a, b, c, d, e, f, g, h, i, rfl⟩

/-- A term of the expansion may be left out where its factor is nought. -/
theorem term_zero (t x D : Int) (s : Int) : (if x = 0 then wrap64 t else wrap64 (wrap64 t + wrap64 (wrap64 (s * x) * D))) = wrap64 (t + s * x * D) := by
  split
  · rename_i h; subst h; simp
  · rw [wrap64_add_l, wrap64_add_r, ← wrap64_add_r, wrap64_mul_l, wrap64_add_r]

theorem detF_one (a : Int) (h : -9223372036854775808 ≤ a) (h' : a ≤ 9223372036854775807) : detF 1 [[a]] = a := by
  simp only [detF, detTo, nthR, nth, List.getD_cons_zero, sgn]
  split
  · omega
  · rw [Int.one_mul, Int.mul_one, Int.zero_add, wrap64_wrap, wrap64_wrap, wrap64_id h h']
theorem detF_one' (a : Int) : wrap64 (detF 1 [[a]]) = wrap64 a := by
  simp only [detF, detTo, nthR, nth, List.getD_cons_zero, sgn]
  split
  · rename_i h; rw [h]
  · rw [Int.one_mul, Int.mul_one, Int.zero_add, wrap64_wrap, wrap64_wrap, wrap64_wrap]

theorem detTo_step {D : List (List Int) → Int} {xss : List (List Int)} {k : Nat} {t E : Int} (h : detTo D xss k = wrap64 t) (hD : wrap64 (D (minorL xss 0 k)) = wrap64 E) :
    detTo D xss (k + 1) = wrap64 (t + sgn k * nth (nthR xss 0) k * E) := by
  rw [detTo, h, term_zero]
  rw [← wrap64_add_r t (sgn k * nth (nthR xss 0) k * D _), ← wrap64_mul_r, hD, wrap64_mul_r, wrap64_add_r]

theorem detF_two (a b c d : Int) : detF 2 [[a, b], [c, d]] = wrap64 (a * d - b * c) := by
  have h0 : detTo (detF 1) [[a, b], [c, d]] 0 = wrap64 0 := by simp [detTo, wrap64]
  have h1 := detTo_step (E := d) h0 (detF_one' d)
  have h2 := detTo_step (E := c) h1 (detF_one' c)
  rw [detF, h2]
  congr 1
  simp only [nthR, nth, List.getD_cons_zero, List.getD_cons_succ, sgn]
  grind

theorem detF_three (a b c d e f g h i : Int) : detF 3 [[a, b, c], [d, e, f], [g, h, i]] = wrap64 (a * (e * i - f * h) - b * (d * i - f * g) + c * (d * h - e * g)) := by
  have h0 : detTo (detF 2) [[a, b, c], [d, e, f], [g, h, i]] 0 = wrap64 0 := by simp [detTo, wrap64]
  have h1 := detTo_step (E := e * i - f * h) h0 (by rw [show minorL [[a, b, c], [d, e, f], [g, h, i]] 0 0 = [[e, f], [h, i]] from rfl, detF_two, wrap64_wrap])
  have h2 := detTo_step (E := d * i - f * g) h1 (by rw [show minorL [[a, b, c], [d, e, f], [g, h, i]] 0 (0 + 1) = [[d, f], [g, i]] from rfl, detF_two, wrap64_wrap])
  have h3 := detTo_step (E := d * h - e * g) h2 (by rw [show minorL [[a, b, c], [d, e, f], [g, h, i]] 0 (0 + 1 + 1) = [[d, e], [g, h]] from rfl, detF_two, wrap64_wrap])
  rw [detF, h3]
  congr 1
  simp only [nthR, nth, List.getD_cons_zero, List.getD_cons_succ, sgn]
  grind

theorem detS_two (a b c d : Int) : detS [[a, b], [c, d]] = wrap64 (a * d - b * c) := by
  rw [detS, wrap64_sub_l, wrap64_sub_r]
theorem detS_three (a b c d e f g h i : Int) : detS [[a, b, c], [d, e, f], [g, h, i]] = wrap64 (a * (e * i - f * h) - b * (d * i - f * g) + c * (d * h - e * g)) := by
  simp only [detS, wrap64_sub_l, wrap64_sub_r, wrap64_add_l, wrap64_add_r, wrap64_mul_l, wrap64_mul_r]
  congr 1
  grind

theorem detF_detS {n : Nat} {xss : List (List Int)} (h : Sq n xss) (h1 : 1 ≤ n) (h3 : n ≤ 3) (hr : ∀ r ∈ xss, ∀ x ∈ r, -9223372036854775808 ≤ x ∧ x ≤ 9223372036854775807) : detF n xss = detS xss := by
  match n, h1, h3 with
  | 1, _, _ =>
    obtain ⟨a, rfl⟩ := h.one
    have := hr [a] (by simp) a (by simp)
    rw [detF_one a this.1 this.2]; rfl
  | 2, _, _ =>
    obtain ⟨a, b, c, d, rfl⟩ := h.two
    rw [detF_two, detS_two]
  | 3, _, _ =>
    obtain ⟨a, b, c, d, e, f, g, h, i, rfl⟩ := h.three
    rw [detF_three, detS_three]

end Go.Proofs.YthdonnkekggbbaaGreatDoor
