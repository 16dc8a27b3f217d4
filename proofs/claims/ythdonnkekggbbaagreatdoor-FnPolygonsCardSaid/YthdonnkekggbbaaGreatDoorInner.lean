/- Contracts of both InnerCount. Conditions: sizes. -/
import Derived.Test.YthdonnkekggbbaaGreatDoorBound
namespace Go.Proofs.YthdonnkekggbbaaGreatDoor
open Go.RowKit
set_option linter.unusedVariables false
set_option linter.unusedSimpArgs false
set_option maxRecDepth 100000

open Classical in
noncomputable def innV (xss : List (List Int)) : Int := if polyB xss = true then wrap64 ((wrap64 (wrap64 (areaTo xss xss.length - bndV xss) + 2)).tdiv 2) else -1

set_option maxHeartbeats 1000000 in
theorem implInnerCount_any (p : Option Addr) (n c : Nat) (xss : List (List Int)) (w : World) (hn : n ≤ 9223372036854775807) (hx : Intss w p n xss) :
    Calls Tryz.prog 22 #[.slice p n c] w (Ret (.int .i64 (innV xss)) w) := by
  have hl := Lib.hid hx.len
  cases h : polyB xss
  · have HV := Lib.hid (show innV xss = -1 by simp [innV, h])
    go_enter Tryz.func22, Tryz.ntmps22
    go_wp2_with fail
    refine (implIsPolygon_any _ _ _ _ _ hn hx).mono ?_
    rw [h]
    rintro e w1 ⟨rfl, hb1⟩
    go_wp2_with fail
    go_ret
    exact ⟨ret_int HV.out.symm, hb1⟩
  · have HV := Lib.hid (show innV xss = wrap64 ((wrap64 (wrap64 (areaV xss - bndV xss) + 2)).tdiv 2) by simp [innV, areaV, h])
    go_enter Tryz.func22, Tryz.ntmps22
    go_wp2_with fail
    refine (implIsPolygon_any _ _ _ _ _ hn hx).mono ?_
    rw [h]
    rintro e w1 ⟨rfl, hb1⟩
    go_wp2_with fail
    refine (implAreaTwice_any _ _ _ _ _ hn (hx.below hb1)).mono ?_
    rintro e w2 ⟨rfl, hb2⟩
    have hb3 := Below.step hb1 hb2
    go_wp2_with fail
    refine (implBoundaryCount_any _ _ _ _ _ hn (hx.below hb3)).mono ?_
    rintro e w4 ⟨rfl, hb4⟩
    go_wp2_with fail
    go_ret
    exact ⟨ret_int HV.out.symm, Below.step hb3 hb4⟩

set_option maxHeartbeats 1000000 in
theorem specInnerCount_any (p : Option Addr) (n c : Nat) (xss : List (List Int)) (w : World) (hn : n ≤ 9223372036854775807) (hx : Intss w p n xss) :
    Calls Tryz.prog 23 #[.slice p n c] w (Ret (.int .i64 (innV xss)) w) := by
  have hl := Lib.hid hx.len
  cases h : polyB xss
  · have HV := Lib.hid (show innV xss = -1 by simp [innV, h])
    go_enter Tryz.func23, Tryz.ntmps23
    go_wp2_with fail
    refine (specIsPolygon_any _ _ _ _ _ hn hx).mono ?_
    rw [h]
    rintro e w1 ⟨rfl, hb1⟩
    go_wp2_with fail
    go_ret
    exact ⟨ret_int HV.out.symm, hb1⟩
  · obtain ⟨h3, h12, hpt, _⟩ := polyB_iff.1 h
    rw [hl.out] at h3 h12 hpt
    have Hp := Lib.hid (show ∀ k, k < n → PtIn 50 (nthR xss k) from fun k hk => isPt_in (hpt k hk))
    clear hpt
    have HV := Lib.hid (show innV xss = wrap64 ((wrap64 (wrap64 (areaTo xss n - bndV xss) + 2)).tdiv 2) by simp [innV, h, hl.out])
    go_enter Tryz.func23, Tryz.ntmps23
    go_wp2_with fail
    refine (specIsPolygon_any _ _ _ _ _ hn hx).mono ?_
    rw [h]
    rintro e w1 ⟨rfl, hb1⟩
    go_wp2_with fail
    refine (l7Area_any _ _ _ _ _ h3 h12 (hx.below hb1) Hp.out).mono ?_
    rintro e w2 ⟨rfl, z, rfl⟩
    have hb3 := hb1.trans (belowDrawn _ _ z)
    go_wp2_with fail
    refine (specBoundaryCount_any _ _ _ _ _ hn (hx.below hb3)).mono ?_
    rintro e w4 ⟨rfl, hb4⟩
    go_wp2_with fail
    go_ret
    exact ⟨ret_int HV.out.symm, Below.step hb3 hb4⟩

end Go.Proofs.YthdonnkekggbbaaGreatDoor
