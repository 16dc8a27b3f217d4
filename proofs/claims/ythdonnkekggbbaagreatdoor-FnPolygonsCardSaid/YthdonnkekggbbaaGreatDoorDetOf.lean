/- Contracts of both DetOf, IsUnimodular and LatticeIndex. Conditions: sizes. -/
import Derived.Test.YthdonnkekggbbaaGreatDoorDetFns3
namespace Go.Proofs.YthdonnkekggbbaaGreatDoor
open Go.RowKit
set_option linter.unusedVariables false
set_option linter.unusedSimpArgs false
set_option maxRecDepth 100000

theorem isMat_facts {xss : List (List Int)} (h : isMat xss = true) : Sq xss.length xss ∧ 1 ≤ xss.length ∧ xss.length ≤ 3 ∧ ∀ r ∈ xss, ∀ x ∈ r, -100 ≤ x ∧ x ≤ 100 := by
  simp only [isMat, Bool.and_eq_true, rowsOk, List.all_eq_true] at h
  obtain ⟨h1, h2⟩ := h
  have h3 := inR_true h1
  refine ⟨⟨rfl, fun k hk => ?_⟩, by omega, by omega, fun r hr x hx => ?_⟩
  · have := h2 _ (nthR_mem hk)
    simp only [rowOk, Bool.and_eq_true, decide_eq_true_eq] at this
    exact this.1
  · have := h2 r hr
    simp only [rowOk, Bool.and_eq_true, allR, List.all_eq_true] at this
    exact inR_true (this.2 x hx)

def detV (xss : List (List Int)) : Int := if isMat xss = true then detS xss else 0

/-- The determinant of small numbers is the true one. -/
def det2 (a b c d : Int) : Int := a * d - b * c
theorem det2_abs {B a b c d : Int} (ha : Abs B a) (hb : Abs B b) (hc : Abs B c) (hd : Abs B d) : Abs (B * B + B * B) (a * d - b * c) := (ha.mul hd).sub (hb.mul hc)

theorem detS_abs {xss : List (List Int)} {n : Nat} (hs : Sq n xss) (h1 : 1 ≤ n) (h3 : n ≤ 3) (hr : ∀ r ∈ xss, ∀ x ∈ r, -100 ≤ x ∧ x ≤ 100) : Abs 6000000 (detS xss) := by
  match n, h1, h3 with
  | 1, _, _ =>
    obtain ⟨a, rfl⟩ := hs.one
    have ha : Abs 100 a := hr [a] (by simp) a (by simp)
    exact ha.mono (by omega)
  | 2, _, _ =>
    obtain ⟨a, b, c, d, rfl⟩ := hs.two
    have ha : Abs 100 a := hr [a, b] (by simp) a (by simp)
    have hb : Abs 100 b := hr [a, b] (by simp) b (by simp)
    have hc : Abs 100 c := hr [c, d] (by simp) c (by simp)
    have hd : Abs 100 d := hr [c, d] (by simp) d (by simp)
    rw [detS_two]
    have h := det2_abs ha hb hc hd
    rw [h.wrap (by omega)]
    exact h.mono (by omega)
  | 3, _, _ =>
    obtain ⟨a, b, c, d, e, f, g, h, i, rfl⟩ := hs.three
    have ha : Abs 100 a := hr [a, b, c] (by simp) a (by simp)
    have hb : Abs 100 b := hr [a, b, c] (by simp) b (by simp)
    have hc : Abs 100 c := hr [a, b, c] (by simp) c (by simp)
    have hd : Abs 100 d := hr [d, e, f] (by simp) d (by simp)
    have he : Abs 100 e := hr [d, e, f] (by simp) e (by simp)
    have hf : Abs 100 f := hr [d, e, f] (by simp) f (by simp)
    have hg : Abs 100 g := hr [g, h, i] (by simp) g (by simp)
    have hh : Abs 100 h := hr [g, h, i] (by simp) h (by simp)
    have hi : Abs 100 i := hr [g, h, i] (by simp) i (by simp)
    rw [detS_three]
    have h := ((ha.mul ((he.mul hi).sub (hf.mul hh))).sub (hb.mul ((hd.mul hi).sub (hf.mul hg)))).add (hc.mul ((hd.mul hh).sub (he.mul hg)))
    rw [h.wrap (by omega)]
    exact h.mono (by omega)

theorem detV_abs (xss : List (List Int)) : Abs 6000000 (detV xss) := by
  unfold detV
  split
  · rename_i h
    obtain ⟨hs, h1, h3, hr⟩ := isMat_facts h
    exact detS_abs hs h1 h3 hr
  · unfold Abs; omega

def unimV (xss : List (List Int)) : Bool := ((detV xss).natAbs : Int) == 1
def latV (xss : List (List Int)) : Int := ((detV xss).natAbs : Int)

end Go.Proofs.YthdonnkekggbbaaGreatDoor
