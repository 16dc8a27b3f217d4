/- Contracts: both parsers of numbers, both of numbers that are not negative. Conditions: sizes; the library's variables. -/
import Derived.Test.YtfcbkdpgjbkamaaDoorStrFns4
namespace Go.Proofs.YtfcbkdpgjbkamaaDoor
open Go.RowKit
set_option linter.unusedVariables false
set_option linter.unusedSimpArgs false
set_option maxRecDepth 100000

theorem mkdl (l : List UInt8) : (⟨l.toArray⟩ : ByteArray).data.toList = l := by simp
theorem specParseInt_any (l : List UInt8) (w : World) (hl : l.length ≤ 1048576) :
    Calls Tryd.prog 62 #[.string ⟨l.toArray⟩] w (RetNB w (parseW 999999999999 l)) := by
  have con := Lib.hid (specRead_any ⟨l.toArray⟩ l 12 w (mkdl l) hl (by omega) (by omega))
  go_enter Tryd.func62, Tryd.ntmps62
  go_wp2_with fail
  refine con.out.mono ?_
  rintro e w1 ⟨rfl, hb⟩
  go_wp2_with fail
  go_ret2
  exact ⟨rfl, hb⟩

theorem specParseNumber_any (l : List UInt8) (w : World) (hl : l.length ≤ 1048576) :
    Calls Tryd.prog 30 #[.string ⟨l.toArray⟩] w (RetNB w (numW l)) := by
  have con := Lib.hid (specRead_any ⟨l.toArray⟩ l 6 w (mkdl l) hl (by omega) (by omega))
  have hk : (((10 ^ 6 : Nat) : Int) - 1) = 999999 := rfl
  rw [hk] at con
  have hN := Lib.hid (show numW l = if (parseW 999999 l).2 = true ∧ 0 ≤ (parseW 999999 l).1 then ((parseW 999999 l).1, true) else (0, false) from rfl)
  generalize parseW 999999 l = R at *
  obtain ⟨n, ok⟩ := R
  cases ok
  · have HP : Hid (numW l = (0, false)) := Lib.hid (by rw [hN.out, if_neg (by simp)])
    go_enter Tryd.func30, Tryd.ntmps30
    go_wp2_with fail
    refine con.out.mono ?_
    rintro e w1 ⟨rfl, hb⟩
    go_wp2_with fail
    go_ret2
    exact retNB HP.out hb
  · by_cases h : n < 0
    · have HP : Hid (numW l = (0, false)) := Lib.hid (by rw [hN.out, if_neg (by simp; omega)])
      go_enter Tryd.func30, Tryd.ntmps30
      go_wp2_with fail
      refine con.out.mono ?_
      rintro e w1 ⟨rfl, hb⟩
      go_wp2_with fail
      go_ret2
      exact retNB HP.out hb
    · have HP : Hid (numW l = (n, true)) := Lib.hid (by rw [hN.out, if_pos ⟨rfl, by show 0 ≤ n; omega⟩])
      go_enter Tryd.func30, Tryd.ntmps30
      go_wp2_with fail
      refine con.out.mono ?_
      rintro e w1 ⟨rfl, hb⟩
      go_wp2_with fail
      go_ret2
      exact retNB HP.out hb

theorem implParseNumber_any (l : List UInt8) (w : World) (hl : l.length ≤ 1048576) (ht : TabW w) (he : ErrW w) :
    Calls Tryd.prog 29 #[.string ⟨l.toArray⟩] w (RetNB w (numW l)) := by
  have con := Lib.hid (implParseInt_any l w hl ht he)
  have hN := Lib.hid (numW_of_int l)
  generalize parseW 999999999999 l = R at *
  obtain ⟨n, ok⟩ := R
  cases ok
  · have HP : Hid (numW l = (0, false)) := Lib.hid (by rw [hN.out, if_neg (by simp)])
    go_enter Tryd.func29, Tryd.ntmps29
    go_wp2_with fail
    refine con.out.mono ?_
    rintro e w1 ⟨rfl, hb⟩
    go_wp2_with fail
    go_ret2
    exact retNB HP.out hb
  · by_cases h : n < 0
    · have HP : Hid (numW l = (0, false)) := Lib.hid (by rw [hN.out, if_neg (by simp; omega)])
      go_enter Tryd.func29, Tryd.ntmps29
      go_wp2_with fail
      refine con.out.mono ?_
      rintro e w1 ⟨rfl, hb⟩
      go_wp2_with fail
      go_ret2
      exact retNB HP.out hb
    · by_cases h2 : 999999 < n
      · have HP : Hid (numW l = (0, false)) := Lib.hid (by rw [hN.out, if_neg (by simp; omega)])
        go_enter Tryd.func29, Tryd.ntmps29
        go_wp2_with fail
        refine con.out.mono ?_
        rintro e w1 ⟨rfl, hb⟩
        go_wp2_with fail
        go_ret2
        exact retNB HP.out hb
      · have HP : Hid (numW l = (n, true)) := Lib.hid (by rw [hN.out, if_pos ⟨rfl, by show 0 ≤ n; omega, by show n ≤ 999999; omega⟩])
        go_enter Tryd.func29, Tryd.ntmps29
        go_wp2_with fail
        refine con.out.mono ?_
        rintro e w1 ⟨rfl, hb⟩
        go_wp2_with fail
        go_ret2
        exact retNB HP.out hb

end Go.Proofs.YtfcbkdpgjbkamaaDoor
