/- Contracts: both parsers of numbers, both of numbers that are not negative. Conditions: sizes; the library's variables. -/
import Derived.Test.YtpfklkmmhdpphadGreatDoorStrFns4
namespace Go.Proofs.YtpfklkmmhdpphadGreatDoor
open Go.RowKit
set_option linter.unusedVariables false
set_option linter.unusedSimpArgs false
set_option maxRecDepth 100000

theorem mkdl (l : List UInt8) : (⟨l.toArray⟩ : ByteArray).data.toList = l := by simp
theorem specParseInt_any (l : List UInt8) (w : World) (hl : l.length ≤ 1048576) :
    Calls Tryz.prog 52 #[.string ⟨l.toArray⟩] w (RetNB w (parseW 999999999999 l)) := by
  have con := Lib.hid (specRead_any ⟨l.toArray⟩ l 12 w (mkdl l) hl (by omega) (by omega))
  go_enter Tryz.func52, Tryz.ntmps52
  go_wp2_with fail
  refine con.out.mono ?_
  rintro e w1 ⟨rfl, hb⟩
  go_wp2_with fail
  go_ret2
  exact ⟨rfl, hb⟩

end Go.Proofs.YtpfklkmmhdpphadGreatDoor
