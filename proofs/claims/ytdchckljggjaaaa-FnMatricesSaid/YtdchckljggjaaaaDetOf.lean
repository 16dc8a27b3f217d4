/- Contracts of both DetOf, IsUnimodular and LatticeIndex. Conditions: sizes. -/
import Derived.Test.YtdchckljggjaaaaDetFns3
namespace Go.Proofs.Ytdchckljggjaaaa
open Go.RowKit
set_option linter.unusedVariables false
set_option linter.unusedSimpArgs false
set_option maxRecDepth 100000

theorem isMat_facts {xss : List (List Int)} (h : isMat xss = true) : Sq xss.length xss ∧ 1 ≤ xss.length ∧ xss.length ≤ 3 ∧ ∀ r ∈ xss, ∀ x ∈ r, -100 ≤ x ∧ x ≤ 100 := by
  simp only [isMat, Bool.and_eq_true, rowsOk, List.all_eq_true] at h
  obtain ⟨h1, h2⟩ := h
  have h3 := inR_true h1
  refine ⟨⟨rfl, fun k hk => ?_⟩, by omega, by omega, fun r hr x hx => ?_⟩
  · have := h2 _ (nthR_mem hk)
    simp only [rowOk, Bool.and_eq_true, decide_eq_true_eq] at this
    exact this.1
  · have := h2 r hr
    simp only [rowOk, Bool.and_eq_true, allR, List.all_eq_true] at this
    exact inR_true (this.2 x hx)

def detV (xss : List (List Int)) : Int := if isMat xss = true then detS xss else 0

theorem implDetOf_any (p : Option Addr) (n c : Nat) (xss : List (List Int)) (w : World) (hn : n ≤ 9223372036854775807) (hx : Intss w p n xss) :
    Calls Try.prog 47 #[.slice p n c] w (Ret (.int .i64 (detV xss)) w) := by
  cases h1 : isMat xss
  · go_enter Try.func47, Try.ntmps47
    go_wp2_with (go_at_call 51; (with_reducible refine (implIsMatrix_any _ _ _ _ _ hn hx).mono ?_); rintro e w' ⟨rfl, rfl⟩)
    go_ret
    exact ⟨ret_int (by simp [detV, h1]), Below.refl _ _⟩
  · obtain ⟨hs, hl1, hl3, hr⟩ := isMat_facts h1
    rw [hx.len] at hs hl1 hl3
    have Hd : Hid (detF n xss = detV xss) := by
      show _ = _
      rw [detF_detS hs hl1 hl3 (fun r hr' x hx' => by have := hr r hr' x hx'; omega)]
      simp [detV, h1]
    have Hs := Lib.hid hs
    clear hs hr
    go_enter Try.func47, Try.ntmps47
    go_wp2_with fail
    refine (implIsMatrix_any _ _ _ _ _ hn hx).mono ?_
    rintro e w' ⟨rfl, rfl⟩
    go_wp2_with fail
    refine (det_any n _ _ _ _ _ hl3 hx Hs.out).mono ?_
    rintro e w1 ⟨rfl, hb1⟩
    go_wp2_with fail
    go_ret
    exact ⟨ret_int Hd.out, hb1⟩

theorem l3Det_any (p : Option Addr) (n c : Nat) (xss : List (List Int)) (w : World) (hx : Intss w p n xss) (hs : Sq n xss) (h1 : 1 ≤ n) (h3 : n ≤ 3) :
    Calls Try.prog 93 #[.slice p n c] w (Ret (.int .i64 (detS xss)) w) := by
  match n, h1, h3 with
  | 1, _, _ => exact l3Det_one _ _ _ _ hx hs
  | 2, _, _ => exact l3Det_two _ _ _ _ hx hs
  | 3, _, _ => exact l3Det_three _ _ _ _ hx hs

theorem specDetOf_any (p : Option Addr) (n c : Nat) (xss : List (List Int)) (w : World) (hn : n ≤ 9223372036854775807) (hx : Intss w p n xss) :
    Calls Try.prog 48 #[.slice p n c] w (Ret (.int .i64 (detV xss)) w) := by
  cases h1 : isMat xss
  · go_enter Try.func48, Try.ntmps48
    go_wp2_with (go_at_call 52; (with_reducible refine (specIsMatrix_any _ _ _ _ _ hn hx).mono ?_); rintro e w' ⟨rfl, rfl⟩)
    go_ret
    exact ⟨ret_int (by simp [detV, h1]), Below.refl _ _⟩
  · obtain ⟨hs, hl1, hl3, hr⟩ := isMat_facts h1
    rw [hx.len] at hs hl1 hl3
    have Hd : Hid (detS xss = detV xss) := by show _ = _; simp [detV, h1]
    have Hs := Lib.hid hs
    clear hs hr
    go_enter Try.func48, Try.ntmps48
    go_wp2_with fail
    refine (specIsMatrix_any _ _ _ _ _ hn hx).mono ?_
    rintro e w' ⟨rfl, rfl⟩
    go_wp2_with fail
    refine (l3Det_any _ _ _ _ _ hx Hs.out hl1 hl3).mono ?_
    rintro e w1 ⟨rfl, hb1⟩
    go_wp2_with fail
    go_ret
    exact ⟨ret_int Hd.out, hb1⟩

/-- The determinant of small numbers is the true one. -/
def det2 (a b c d : Int) : Int := a * d - b * c
theorem det2_abs {B a b c d : Int} (ha : Abs B a) (hb : Abs B b) (hc : Abs B c) (hd : Abs B d) : Abs (B * B + B * B) (a * d - b * c) := (ha.mul hd).sub (hb.mul hc)

theorem detS_abs {xss : List (List Int)} {n : Nat} (hs : Sq n xss) (h1 : 1 ≤ n) (h3 : n ≤ 3) (hr : ∀ r ∈ xss, ∀ x ∈ r, -100 ≤ x ∧ x ≤ 100) : Abs 6000000 (detS xss) := by
  match n, h1, h3 with
  | 1, _, _ =>
    obtain ⟨a, rfl⟩ := hs.one
    have ha : Abs 100 a := hr [a] (by simp) a (by simp)
    exact ha.mono (by omega)
  | 2, _, _ =>
    obtain ⟨a, b, c, d, rfl⟩ := hs.two
    have ha : Abs 100 a := hr [a, b] (by simp) a (by simp)
    have hb : Abs 100 b := hr [a, b] (by simp) b (by simp)
    have hc : Abs 100 c := hr [c, d] (by simp) c (by simp)
    have hd : Abs 100 d := hr [c, d] (by simp) d (by simp)
    rw [detS_two]
    have h := det2_abs ha hb hc hd
    rw [h.wrap (by omega)]
    exact h.mono (by omega)
  | 3, _, _ =>
    obtain ⟨a, b, c, d, e, f, g, h, i, rfl⟩ := hs.three
    have ha : Abs 100 a := hr [a, b, c] (by simp) a (by simp)
    have hb : Abs 100 b := hr [a, b, c] (by simp) b (by simp)
    have hc : Abs 100 c := hr [a, b, c] (by simp) c (by simp)
    have hd : Abs 100 d := hr [d, e, f] (by simp) d (by simp)
    have he : Abs 100 e := hr [d, e, f] (by simp) e (by simp)
    have hf : Abs 100 f := hr [d, e, f] (by simp) f (by simp)
    have hg : Abs 100 g := hr [g, h, i] (by simp) g (by simp)
    have hh : Abs 100 h := hr [g, h, i] (by simp) h (by simp)
    have hi : Abs 100 i := hr [g, h, i] (by simp) i (by simp)
    rw [detS_three]
    have h := ((ha.mul ((he.mul hi).sub (hf.mul hh))).sub (hb.mul ((hd.mul hi).sub (hf.mul hg)))).add (hc.mul ((hd.mul hh).sub (he.mul hg)))
    rw [h.wrap (by omega)]
    exact h.mono (by omega)

theorem detV_abs (xss : List (List Int)) : Abs 6000000 (detV xss) := by
  unfold detV
  split
  · rename_i h
    obtain ⟨hs, h1, h3, hr⟩ := isMat_facts h
    exact detS_abs hs h1 h3 hr
  · unfold Abs; omega

def unimV (xss : List (List Int)) : Bool := ((detV xss).natAbs : Int) == 1
def latV (xss : List (List Int)) : Int := ((detV xss).natAbs : Int)

theorem implUnim_any (p : Option Addr) (n c : Nat) (xss : List (List Int)) (w : World) (hn : n ≤ 9223372036854775807) (hx : Intss w p n xss) :
    Calls Try.prog 49 #[.slice p n c] w (Ret (.bool (unimV xss)) w) := by
  have hb := detV_abs xss
  unfold Abs at hb
  go_enter Try.func49, Try.ntmps49
  go_wp2_with fail
  refine (implDetOf_any _ _ _ _ _ hn hx).mono ?_
  rintro e w1 ⟨rfl, hb1⟩
  go_wp2_with fail
  refine (magnitude_any _ _ (by omega) (by omega)).mono ?_
  rintro e w' ⟨rfl, rfl⟩
  go_wp2_with fail
  go_ret
  exact ⟨rfl, hb1⟩
theorem specUnim_any (p : Option Addr) (n c : Nat) (xss : List (List Int)) (w : World) (hn : n ≤ 9223372036854775807) (hx : Intss w p n xss) :
    Calls Try.prog 50 #[.slice p n c] w (Ret (.bool (unimV xss)) w) := by
  have hb := detV_abs xss
  unfold Abs at hb
  go_enter Try.func50, Try.ntmps50
  go_wp2_with fail
  refine (specDetOf_any _ _ _ _ _ hn hx).mono ?_
  rintro e w1 ⟨rfl, hb1⟩
  go_wp2_with fail
  refine (l1Abs_any _ _ (by omega) (by omega)).mono ?_
  rintro e w' ⟨rfl, rfl⟩
  go_wp2_with fail
  go_ret
  exact ⟨rfl, hb1⟩
end Go.Proofs.Ytdchckljggjaaaa
