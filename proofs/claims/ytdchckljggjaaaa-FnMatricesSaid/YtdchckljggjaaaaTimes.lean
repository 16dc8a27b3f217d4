/- Contracts of matrixOf and both TimesMatrix. Conditions: sizes. -/
import Derived.Test.YtdchckljggjaaaaTurn
import Derived.Test.YtdchckljggjaaaaNewMB
namespace Go.Proofs.Ytdchckljggjaaaa
open Go.RowKit
set_option linter.unusedVariables false
set_option linter.unusedSimpArgs false
set_option maxRecDepth 100000

def matIf (xss : List (List Int)) : List (List Int) × Bool := if isMat xss = true then (xss, true) else ([], false)
theorem matIf_yes {xss : List (List Int)} (h : isMat xss = true) : matIf xss = (xss, true) := by simp [matIf, h]
theorem matIf_no {xss : List (List Int)} (h : isMat xss = false) : matIf xss = ([], false) := by simp [matIf, h]
theorem matrixOf_any (lo hi : Nat) (p : Option Addr) (n c : Nat) (xss : List (List Int)) (w : World) (hm : n ≤ 9223372036854775807) (hx : OwnM w lo hi p n c xss) :
    Calls Try.prog 89 #[.slice p n c] w fun e w' => (∃ p n c, e = .returned (.tuple #[.slice p n c, .bool (matIf xss).2]) ∧ OwnM w lo hi p n c (matIf xss).1) ∧ w = w' := by
  cases h1 : isMat xss
  · go_enter Try.func89, Try.ntmps89
    go_wp2_with (go_at_call 51; (with_reducible refine (implIsMatrix_any _ _ _ _ _ (by omega) hx.rd).mono ?_); rintro e w' ⟨rfl, rfl⟩)
    go_ret2
    rw [matIf_no h1]
    exact ⟨⟨_, _, _, rfl, OwnM.nil _ _ _⟩, rfl⟩
  · go_enter Try.func89, Try.ntmps89
    go_wp2_with (go_at_call 51; (with_reducible refine (implIsMatrix_any _ _ _ _ _ (by omega) hx.rd).mono ?_); rintro e w' ⟨rfl, rfl⟩)
    go_ret2
    rw [matIf_yes h1]
    exact ⟨⟨_, _, _, rfl, hx⟩, rfl⟩

def timesV (xss yss : List (List Int)) : List (List Int) × Bool := if isMat xss = true ∧ isMat yss = true ∧ xss.length = yss.length then matIf (timesW xss yss) else ([], false)

theorem specTimes_any (p q : Option Addr) (n c m d : Nat) (xss yss : List (List Int)) (w : World) (hn : n ≤ 1048576) (hm : m ≤ 1048576) (hx : Intss w p n xss) (hy : Intss w q m yss) :
    Calls Try.prog 36 #[.slice p n c, .slice q m d] w (NewMB w (timesV xss yss)) := by
  have hl := Lib.hid hx.len
  have hl2 := Lib.hid hy.len
  cases h1 : isMat xss
  · go_enter Try.func36, Try.ntmps36
    go_wp2_with (go_at_call 52; (with_reducible refine (specIsMatrix_any _ _ _ _ _ (by omega) hx).mono ?_); rintro e w' ⟨rfl, rfl⟩)
    go_ret2
    rw [show timesV xss yss = ([], false) by simp [timesV, h1]]
    exact NewMB.empty (Below.refl _ _)
  cases h2 : isMat yss
  · go_enter Try.func36, Try.ntmps36
    go_wp2_with (first | (go_at_call 52; (with_reducible refine (specIsMatrix_any _ _ _ _ _ (by omega) hx).mono ?_); rintro e w' ⟨rfl, rfl⟩) | (go_at_call 52; (with_reducible refine (specIsMatrix_any _ _ _ _ _ (by omega) hy).mono ?_); rintro e w' ⟨rfl, rfl⟩))
    go_ret2
    rw [show timesV xss yss = ([], false) by simp [timesV, h2]]
    exact NewMB.empty (Below.refl _ _)
  by_cases h3 : n = m
  · subst h3
    have H : Hid (timesV xss yss = matIf (timesW xss yss)) := by show _ = _; simp [timesV, h1, h2, hl.out, hl2.out]
    obtain ⟨hs, hl1, hl3, _⟩ := isMat_facts h1
    obtain ⟨hs', _, _, _⟩ := isMat_facts h2
    rw [hl.out] at hs hl1 hl3
    rw [hl2.out] at hs'
    have Hr : Hid (∀ k, k < xss.length → (nthR xss k).length = n) := Lib.hid fun k hk => hs.2 k (by rw [← hl.out]; exact hk)
    have Hs : Hid (∀ k, k < yss.length → (nthR yss k).length = n) := Lib.hid fun k hk => hs'.2 k (by rw [← hl2.out]; exact hk)
    clear hs hs'
    cases h4 : isMat (timesW xss yss)
    all_goals
      go_enter Try.func36, Try.ntmps36
      go_wp2_with (first | (go_at_call 52; (with_reducible refine (specIsMatrix_any _ _ _ _ _ (by omega) hx).mono ?_); rintro e w' ⟨rfl, rfl⟩) | (go_at_call 52; (with_reducible refine (specIsMatrix_any _ _ _ _ _ (by omega) hy).mono ?_); rintro e w' ⟨rfl, rfl⟩) | (go_at_call 90; (with_reducible refine (l3Times_any _ _ _ _ _ _ _ _ (by omega) hx hy Hr.out Hs.out).mono ?_); rintro e w1 ⟨p1, c1, rfl, ho1, hb1⟩) | (go_at_call 52; (with_reducible refine (specIsMatrix_any _ _ _ _ _ (by omega) ho1.rd).mono ?_); rintro e w' ⟨rfl, rfl⟩))
      go_ret2
      rw [H.out]
    · rw [matIf_no h4]
      exact NewMB.empty hb1
    · rw [matIf_yes h4]
      exact ⟨_, _, _, rfl, ho1, hb1⟩
  · go_enter Try.func36, Try.ntmps36
    go_wp2_with (first | (go_at_call 52; (with_reducible refine (specIsMatrix_any _ _ _ _ _ (by omega) hx).mono ?_); rintro e w' ⟨rfl, rfl⟩) | (go_at_call 52; (with_reducible refine (specIsMatrix_any _ _ _ _ _ (by omega) hy).mono ?_); rintro e w' ⟨rfl, rfl⟩))
    go_ret2
    rw [show timesV xss yss = ([], false) by simp [timesV, hl.out, hl2.out, h3]]
    exact NewMB.empty (Below.refl _ _)

end Go.Proofs.Ytdchckljggjaaaa
