/- The law FnNumbers: the walk: for every input it returns true and writes nothing that was there. Conditions: the library's variables. -/
import Derived.Test.YtfcbkdpgjbkamaaDoorFnNum
namespace Go.Proofs.YtfcbkdpgjbkamaaDoor
open Go.RowKit
set_option linter.unusedVariables false
set_option linter.unusedSimpArgs false
set_option maxRecDepth 100000

set_option maxHeartbeats 4000000 in
theorem lawFnNumbers_walk (q0 : Option Addr) (n0 c0 : Nat) (x0 : List Int) (w : World) (fm0 : n0 ≤ 9223372036854775807) (fr0 : BytesZ w q0 n0 x0) (h_tab : TabW w) (h_err : ErrW w) :
    Calls Tryd.prog 6 #[.slice q0 n0 c0] w fun e w' => e = .returned (.bool true) ∧ Below w.heap.size w w' := by
  by_cases hbig : 1048576 < n0
  · have hd : decide (1048576 < n0) = true := by simpa using hbig
    go_enter Tryd.func6, Tryd.ntmps6
    go_wp2_with (go_at_call 19; (with_reducible refine (big_any _ _ _ _).mono ?_); rintro e w' ⟨rfl, rfl⟩)
    go_ret
    exact ⟨rfl, Below.refl _ _⟩
  · have hd : decide (1048576 < n0) = false := by simpa using hbig
    go_enter Tryd.func6, Tryd.ntmps6
    go_wp2_with (go_at_call 19; (with_reducible refine (big_any _ _ _ _).mono ?_); rintro e w' ⟨rfl, rfl⟩)
    refine (drawFormat_any _ _ _ _ _ (by omega) fr0).mono ?_
    rintro e w1 ⟨n, rfl, b0, b1, hb1⟩
    have hil := Lib.itoa_length_le n b0 b1
    have CF := Lib.hid (fun W (h : TabW W) => implFormat_any n W b0 b1 h)
    have CG := Lib.hid (fun W => specFormat_any n W b0 b1)
    have CP := Lib.hid (fun W (h1 : TabW W) (h2 : ErrW W) => implParseInt_any (Lib.itoa n) W (by omega) h1 h2)
    rw [parse_itoa] at CP
    have hfit := itoa_fit n
    have hsz : (⟨(Lib.itoa n).toArray⟩ : ByteArray).size = (Lib.itoa n).length := by simp [ByteArray.size]
    generalize Lib.itoa n = s at *
    generalize hL : s.length = L at *
    have HL := Lib.hid hL
    clear hL
    have hcases : (∃ R : Int × Bool, R = (if -999999999999 ≤ n ∧ n ≤ 999999999999 then (n, true) else (0, false)) ∧
        ((R = (n, true) ∧ decide (L ≤ 12) = true ∧ decide ((L : Int) ≤ 12) = true) ∨
        (R = (n, true) ∧ decide (L ≤ 12) = false ∧ decide ((L : Int) ≤ 12) = false ∧ decide (n < 0) = true ∧ decide (L ≤ 13) = true ∧ decide ((L : Int) ≤ 13) = true) ∨
        (R = (0, false) ∧ decide (L ≤ 12) = false ∧ decide ((L : Int) ≤ 12) = false ∧ decide (n < 0) = false) ∨
        (R = (0, false) ∧ decide (L ≤ 12) = false ∧ decide ((L : Int) ≤ 12) = false ∧ decide (n < 0) = true ∧ decide (L ≤ 13) = false ∧ decide ((L : Int) ≤ 13) = false))) := by
      refine ⟨_, rfl, ?_⟩
      simp only [decide_eq_true_eq, decide_eq_false_iff_not]
      by_cases h : -999999999999 ≤ n ∧ n ≤ 999999999999
      · rw [if_pos h]
        rcases hfit.1 h with h1 | h1
        · exact .inl ⟨rfl, h1, by omega⟩
        · by_cases h2 : L ≤ 12
          · exact .inl ⟨rfl, h2, by omega⟩
          · exact .inr (.inl ⟨rfl, h2, by omega, h1.1, h1.2, by omega⟩)
      · rw [if_neg h]
        have h3 := fun k => h (hfit.2 k)
        have h4 : ¬ L ≤ 12 := fun k => h3 (.inl k)
        by_cases h5 : n < 0
        · have h6 : ¬ L ≤ 13 := fun k => h3 (.inr ⟨h5, k⟩)
          exact .inr (.inr (.inr ⟨rfl, h4, by omega, h5, h6, by omega⟩))
        · exact .inr (.inr (.inl ⟨rfl, h4, by omega, h5⟩))
    obtain ⟨R, hR, hcs⟩ := hcases
    rw [← hR] at CP
    clear hR hfit hil
    rcases hcs with ⟨rfl, g1, g2⟩ | ⟨rfl, g1, g2, g3, g4, g5⟩ | ⟨rfl, g1, g2, g3⟩ | ⟨rfl, g1, g2, g3, g4, g5⟩
    all_goals
      go_wp2_with fail
      refine (CF.out _ (h_tab.below hb1)).mono ?_
      rintro e w2 ⟨rfl, hb2⟩
      have hT2 := Below.step hb1 hb2
      go_wp2_with fail
      refine (CP.out _ (h_tab.below hT2) (h_err.below hT2)).mono ?_
      rintro e w3 ⟨rfl, hb3⟩
      have hT3 := Below.step hT2 hb3
      go_wp2_with fail
      refine (CG.out _).mono ?_
      rintro e w4 ⟨rfl, hb4⟩
      have hT4 := Below.step hT3 hb4
      go_wp2_with fail
      refine (drawNumber_any _ _ _ _ _ (by omega) (fr0.below hT4)).mono ?_
      rintro e w5 ⟨t, rfl, ht, hb5⟩
      have hT5 := Below.step hT4 hb5
      have C1 := Lib.hid (fun W (h1 : TabW W) (h2 : ErrW W) => implParseNumber_any t W (by omega) h1 h2)
      have C2 := Lib.hid (fun W => specParseNumber_any t W (by omega))
      have HF := Lib.hid (fun h => numW_fine (t := t) h)
      have hin := numW_in t
      generalize numW t = N at *
      obtain ⟨y, fine⟩ := N
      have C3 := Lib.hid (fun W (h : TabW W) => implFormat_any y W hin.1 hin.2 h)
      clear hin
      cases fine
      · go_wp2_with fail
        refine (C1.out _ (h_tab.below hT5) (h_err.below hT5)).mono ?_
        rintro e w6 ⟨rfl, hb6⟩
        have hT6 := Below.step hT5 hb6
        go_wp2_with fail
        refine (C2.out _).mono ?_
        rintro e w7 ⟨rfl, hb7⟩
        have hT7 := Below.step hT6 hb7
        go_wp2_with fail
        go_ret
        exact ⟨rfl, hT7⟩
      · obtain ⟨hy, hy0⟩ := HF.out rfl
        dsimp only at hy hy0
        rw [hy] at C3
        have hd9 : decide (0 ≤ y) = true := by simpa using hy0
        clear hy
        go_wp2_with fail
        refine (C1.out _ (h_tab.below hT5) (h_err.below hT5)).mono ?_
        rintro e w6 ⟨rfl, hb6⟩
        have hT6 := Below.step hT5 hb6
        go_wp2_with fail
        refine (C2.out _).mono ?_
        rintro e w7 ⟨rfl, hb7⟩
        have hT7 := Below.step hT6 hb7
        go_wp2_with fail
        refine (C3.out _ (h_tab.below hT7)).mono ?_
        rintro e w8 ⟨rfl, hb8⟩
        have hT8 := Below.step hT7 hb8
        go_wp2_with fail
        go_ret
        exact ⟨rfl, hT8⟩

end Go.Proofs.YtfcbkdpgjbkamaaDoor
