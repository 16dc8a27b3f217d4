/- Contract of spec.IsPolygon; it says what the program's says. Conditions: sizes. -/
import Derived.Test.YthdonnkekggbbaaGreatDoorHull3
namespace Go.Proofs.YthdonnkekggbbaaGreatDoor
open Go.RowKit
set_option linter.unusedVariables false
set_option linter.unusedSimpArgs false
set_option maxRecDepth 100000

noncomputable def polyS (xss : List (List Int)) : Bool := inR (xss.length : Int) 3 12 && flatB xss && (hullV xss).2 && decide ((hullV xss).1 = xss)

set_option maxHeartbeats 1000000 in
theorem specIsPolygonS_any (p : Option Addr) (n c : Nat) (xss : List (List Int)) (w : World) (hn : n ≤ 9223372036854775807) (hx : Intss w p n xss) :
    Calls Tryz.prog 25 #[.slice p n c] w (Ret (.bool (polyS xss)) w) := by
  have hl := Lib.hid hx.len
  cases h1 : inR (n : Int) 3 12
  · have HV : Hid (polyS xss = false) := Lib.hid (by unfold polyS; rw [hl.out, h1]; rfl)
    go_enter Tryz.func25, Tryz.ntmps25
    go_wp2_with (go_at_call 64; (with_reducible refine (l1In_any _ _ _ _).mono ?_); rintro e w' ⟨rfl, rfl⟩)
    go_ret
    exact ⟨ret_bool HV.out.symm, Below.refl _ _⟩
  · cases h2 : flatB xss
    · have HV : Hid (polyS xss = false) := Lib.hid (by unfold polyS; rw [h2]; simp)
      go_enter Tryz.func25, Tryz.ntmps25
      go_wp2_with (go_at_call 64; (with_reducible refine (l1In_any _ _ _ _).mono ?_); rintro e w' ⟨rfl, rfl⟩)
      refine (l7Flat_any _ _ _ _ _ (by omega) hx).mono ?_
      rw [h2]
      rintro e w1 ⟨rfl, rfl⟩
      go_wp2_with fail
      go_ret
      exact ⟨ret_bool HV.out.symm, Below.refl _ _⟩
    · have HV : Hid (polyS xss = ((hullV xss).2 && decide ((hullV xss).1 = xss))) := Lib.hid (by unfold polyS; rw [hl.out, h1, h2]; simp)
      cases h3 : (hullV xss).2
      · have HV2 : Hid (polyS xss = false) := Lib.hid (by rw [HV.out, h3]; rfl)
        go_enter Tryz.func25, Tryz.ntmps25
        go_wp2_with (go_at_call 64; (with_reducible refine (l1In_any _ _ _ _).mono ?_); rintro e w' ⟨rfl, rfl⟩)
        refine (l7Flat_any _ _ _ _ _ (by omega) hx).mono ?_
        rw [h2]
        rintro e w1 ⟨rfl, rfl⟩
        go_wp2_with fail
        refine (specHull_any _ _ _ _ _ hn hx).mono ?_
        rintro e w2 ⟨p2, n2, c2, rfl, ho2, hb2⟩
        rw [h3]
        go_wp2_with fail
        go_ret
        exact ⟨ret_bool HV2.out.symm, hb2⟩
      · have HV2 : Hid (polyS xss = decide ((hullV xss).1 = xss)) := Lib.hid (by rw [HV.out, h3]; rfl)
        go_enter Tryz.func25, Tryz.ntmps25
        go_wp2_with (go_at_call 64; (with_reducible refine (l1In_any _ _ _ _).mono ?_); rintro e w' ⟨rfl, rfl⟩)
        refine (l7Flat_any _ _ _ _ _ (by omega) hx).mono ?_
        rw [h2]
        rintro e w1 ⟨rfl, rfl⟩
        go_wp2_with fail
        refine (specHull_any _ _ _ _ _ hn hx).mono ?_
        rintro e w2 ⟨p2, n2, c2, rfl, ho2, hb2⟩
        rw [h3]
        have hn2 : n2 ≤ 9223372036854775807 := by
          obtain ⟨rows, h⟩ := ho2
          rcases h.outer.form with ⟨_, h0, _⟩ | ⟨_, _, _, _, _, h5, h6⟩
          · omega
          · unfold maxLen at h6; omega
        go_wp2_with fail
        refine (l7SameList_any _ _ _ _ _ _ _ _ _ hn2 hn ho2.rd (hx.below hb2)).mono ?_
        rintro e w3 ⟨rfl, z, rfl⟩
        go_wp2_with fail
        go_ret
        exact ⟨ret_bool HV2.out.symm, hb2.trans (belowDrawn _ _ _)⟩

end Go.Proofs.YthdonnkekggbbaaGreatDoor
