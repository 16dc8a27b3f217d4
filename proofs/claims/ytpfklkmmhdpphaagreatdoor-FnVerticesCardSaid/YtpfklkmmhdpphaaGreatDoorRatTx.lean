/- Contracts of both RationalText. Conditions: sizes; the library's table. -/
import Derived.Test.YtpfklkmmhdpphaaGreatDoorTexts
import Derived.Test.YtpfklkmmhdpphaaGreatDoorJnVecFns2
import Derived.Test.YtpfklkmmhdpphaaGreatDoorPairs
import Derived.Lib.QuietBelow
namespace Go.Proofs.YtpfklkmmhdpphaaGreatDoor
open Go.RowKit
set_option linter.unusedVariables false
set_option linter.unusedSimpArgs false
set_option maxRecDepth 100000

open Classical in
noncomputable def ratT (xs : List Int) (d : Int) : List UInt8 := if xs.length = 0 ∨ d < 1 then [] else if d = 1 then commaT xs else commaT xs ++ ([47] ++ Lib.itoa d)

theorem implRatText_any (p : Option Addr) (n c : Nat) (d : Int) (xs : List Int) (w : World) (hx : Ints w p n xs) (hn : n ≤ 1048576) (hb : AllIn xs) (h0 : -9223372036854775808 ≤ d) (h1 : d ≤ 9223372036854775807) (htab : TabW w) :
    Calls Tryz.prog 18 #[.agg #[.slice p n c, .int .i64 d]] w (NewText w (ratT xs d)) := by
  have hl := Lib.hid hx.len
  obtain ⟨b0, b1⟩ := box1c w (.slice p n c) (.int .i64 d) 32
  have hT := boxed w (.cells #[.slice p n c, .int .i64 d] 32)
  have hx1 := hx.below hT
  by_cases hz : n = 0
  · have HV : Hid (ratT xs d = []) := Lib.hid (by unfold ratT; rw [if_pos (.inl (by rw [hl.out]; exact hz))])
    subst hz
    go_enter Tryz.func18, Tryz.ntmps18
    go_wp2
    go_ret
    exact ⟨ret_str HV.out.symm, hT⟩
  · have hz1 : ((n : Int) == 0) = false := by simp; omega
    have hz2 : (n == 0) = false := by simp; omega
    by_cases hd : d < 1
    · have HV : Hid (ratT xs d = []) := Lib.hid (by unfold ratT; rw [if_pos (.inr hd)])
      have hd1 : decide (d < 1) = true := by simpa using hd
      go_enter Tryz.func18, Tryz.ntmps18
      go_wp2
      go_ret
      exact ⟨ret_str HV.out.symm, hT⟩
    · have hd1 : decide (d < 1) = false := by simpa using hd
      by_cases he : d = 1
      · have HV : Hid (ratT xs d = commaT xs) := Lib.hid (by unfold ratT; rw [if_neg (by rw [hl.out]; omega), if_pos he])
        have he1 : (d != 1) = false := by simp [he]
        have he2 : (d == 1) = true := by simp [he]
        clear he hd
        go_enter Tryz.func18, Tryz.ntmps18
        go_wp2_with fail
        refine (texts_any _ _ _ _ _ hx1 hn hb (htab.below hT)).mono ?_
        rintro e w1 ⟨rfl, hb1⟩
        have hT1 := Below.step hT hb1
        replace b0 := Below.cells hb1 b0
        replace b1 := Below.cells hb1 b1
        go_wp2_with fail
        go_ret
        exact ⟨ret_str HV.out.symm, hT1⟩
      · have HV : Hid (ratT xs d = commaT xs ++ ([47] ++ Lib.itoa d)) := Lib.hid (by unfold ratT; rw [if_neg (by rw [hl.out]; omega), if_neg he])
        have he1 : (d != 1) = true := by simp [he]
        have he2 : (d == 1) = false := by simp [he]
        have hcl := commaT_length hb
        rw [hl.out] at hcl
        have hil := Lib.itoa_length_le d h0 h1
        clear he hd
        go_enter Tryz.func18, Tryz.ntmps18
        go_wp2_with fail
        refine (texts_any _ _ _ _ _ hx1 hn hb (htab.below hT)).mono ?_
        rintro e w1 ⟨rfl, hb1⟩
        have hT1 := Below.step hT hb1
        replace b0 := Below.cells hb1 b0
        replace b1 := Below.cells hb1 b1
        go_wp2_with fail
        refine (implFormat_any _ _ h0 h1 (htab.below hT1)).mono ?_
        rintro e w2 ⟨rfl, hb2⟩
        have hT2 := Below.step hT1 hb2
        generalize hs1 : commaT xs = s1 at *
        generalize hs2 : Lib.itoa d = s2 at *
        have ha1 : ∀ W, (Op.stringOp .add ⟨#[47]⟩ ⟨s2.toArray⟩).run Tryz.prog W = .ok (.string ⟨([47] ++ s2).toArray⟩) W := fun W => addS [47] s2 (show 1 + s2.length ≤ _ by omega) W
        have ha2 : ∀ W, (Op.stringOp .add ⟨s1.toArray⟩ ⟨([47] ++ s2).toArray⟩).run Tryz.prog W = .ok (.string ⟨(s1 ++ ([47] ++ s2)).toArray⟩) W := fun W => addS s1 _ (by simp; omega) W
        generalize hs3 : [47] ++ s2 = s3 at *
        generalize hs4 : s1 ++ s3 = s4 at *
        clear hs1 hs2 hs3 hs4
        go_wp2_with fail
        go_ret
        exact ⟨ret_str HV.out.symm, hT2⟩

theorem specRatText_any (p : Option Addr) (n c : Nat) (d : Int) (xs : List Int) (w : World) (hx : Ints w p n xs) (hn : n ≤ 1048576) (hb : AllIn xs) (h0 : -9223372036854775808 ≤ d) (h1 : d ≤ 9223372036854775807) :
    Calls Tryz.prog 19 #[.agg #[.slice p n c, .int .i64 d]] w (NewText w (ratT xs d)) := by
  have hl := Lib.hid hx.len
  obtain ⟨b0, b1⟩ := box1c w (.slice p n c) (.int .i64 d) 32
  have hT := boxed w (.cells #[.slice p n c, .int .i64 d] 32)
  have hx1 := hx.below hT
  by_cases hz : n = 0
  · have HV : Hid (ratT xs d = []) := Lib.hid (by unfold ratT; rw [if_pos (.inl (by rw [hl.out]; exact hz))])
    subst hz
    go_enter Tryz.func19, Tryz.ntmps19
    go_wp2
    go_ret
    exact ⟨ret_str HV.out.symm, hT⟩
  · have hz1 : ((n : Int) == 0) = false := by simp; omega
    have hz2 : (n == 0) = false := by simp; omega
    by_cases hd : d < 1
    · have HV : Hid (ratT xs d = []) := Lib.hid (by unfold ratT; rw [if_pos (.inr hd)])
      have hd1 : decide (d < 1) = true := by simpa using hd
      go_enter Tryz.func19, Tryz.ntmps19
      go_wp2
      go_ret
      exact ⟨ret_str HV.out.symm, hT⟩
    · have hd1 : decide (d < 1) = false := by simpa using hd
      by_cases he : d = 1
      · have HV : Hid (ratT xs d = commaT xs) := Lib.hid (by unfold ratT; rw [if_neg (by rw [hl.out]; omega), if_pos he])
        have he2 : (d == 1) = true := by simp [he]
        clear he hd
        go_enter Tryz.func19, Tryz.ntmps19
        go_wp2_with fail
        refine (l2Text_any _ _ _ _ _ hx1 hn hb).mono ?_
        rintro e w1 ⟨rfl, hb1⟩
        have hT1 := Below.step hT hb1
        go_wp2_with fail
        go_ret
        exact ⟨ret_str HV.out.symm, hT1⟩
      · have HV : Hid (ratT xs d = commaT xs ++ ([47] ++ Lib.itoa d)) := Lib.hid (by unfold ratT; rw [if_neg (by rw [hl.out]; omega), if_neg he])
        have he2 : (d == 1) = false := by simp [he]
        have hcl := commaT_length hb
        rw [hl.out] at hcl
        have hil := Lib.itoa_length_le d h0 h1
        clear he hd
        go_enter Tryz.func19, Tryz.ntmps19
        go_wp2_with fail
        generalize hW : w.alloc (.cells #[.slice p n c, .int .i64 d] 32) = W at *
        have c0 := cell_regrown b0
        have c1 := cell_regrown b1
        have K1 : Hid (∀ d' os, Calls Tryz.prog 51 #[.slice p n c] (Sort.grow (redrawn W d') os) fun e w' => e = .returned (.string ⟨(commaT xs).toArray⟩) ∧ ∃ q : Regrown, w' = Sort.grow (redrawn W q.d) q.os) :=
          Lib.hid fun d' os => Calls.regrown_of (l2Text_any _ _ _ _ _ (hx1.below (below_regrown W d' os)) hn hb)
        have K2 : Hid (∀ d' os, Calls Tryz.prog 52 #[.int .i64 d] (Sort.grow (redrawn W d') os) fun e w' => e = .returned (.string ⟨(Lib.itoa d).toArray⟩) ∧ ∃ q : Regrown, w' = Sort.grow (redrawn W q.d) q.os) :=
          Lib.hid fun d' os => Calls.regrown_of (specFormat_any _ _ h0 h1)
        generalize hs1 : commaT xs = s1 at *
        generalize hs2 : Lib.itoa d = s2 at *
        have ha1 : ∀ W, (Op.stringOp .add ⟨s1.toArray⟩ ⟨#[47]⟩).run Tryz.prog W = .ok (.string ⟨(s1 ++ [47]).toArray⟩) W := fun W => addS s1 [47] (show s1.length + 1 ≤ _ by omega) W
        have ha2 : ∀ W, (Op.stringOp .add ⟨(s1 ++ [47]).toArray⟩ ⟨s2.toArray⟩).run Tryz.prog W = .ok (.string ⟨(s1 ++ [47] ++ s2).toArray⟩) W := fun W => addS _ s2 (by simp; omega) W
        have HV2 : Hid (ratT xs d = s1 ++ [47] ++ s2) := Lib.hid (by rw [HV.out, List.append_assoc])
        generalize hs3 : s1 ++ [47] = s3 at *
        generalize hs4 : s3 ++ s2 = s4 at *
        clear hs1 hs2 hs3 hs4 b0 b1
        refine wp_region_quiet_below (by kernel_rfl) (by kernel_rfl) ?_
        repeat (go_big_quiet_step (first | (with_reducible exact K1.out _ _) | (with_reducible exact K2.out _ _)))
        refine wpQuiet_nil ?_
        intro _ hw'
        obtain ⟨⟨dq, osq⟩, hw''⟩ := hw'
        subst hw''
        go_wp2_with fail
        go_ret
        exact ⟨ret_str HV2.out.symm, Below.step hT (below_regrown W dq osq)⟩

end Go.Proofs.YtpfklkmmhdpphaaGreatDoor
