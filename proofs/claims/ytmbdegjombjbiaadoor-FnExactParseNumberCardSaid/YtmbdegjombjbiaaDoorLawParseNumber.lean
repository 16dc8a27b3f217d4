/- The law FnExactParseNumber: the walk: for every input it returns true and writes nothing that was there. Conditions: the library's variables hold what their initialisers lay. -/
import Derived.Test.YtmbdegjombjbiaaDoorStrFns5
namespace Go.Proofs.YtmbdegjombjbiaaDoor
open Go.RowKit
set_option linter.unusedVariables false
set_option linter.unusedSimpArgs false
set_option maxRecDepth 100000

theorem lawParseNumber_walk (s0 : List UInt8) (w : World) (fm0 : s0.length ≤ 9223372036854775807) (ht : TabW w) (he : ErrW w) :
    Calls Tryd.prog 10 #[.string ⟨s0.toArray⟩] w fun e w' => e = .returned (.bool true) ∧ Below w.heap.size w w' := by
  have hsz : (⟨s0.toArray⟩ : ByteArray).size = s0.length := by simp [ByteArray.size]
  by_cases hbig : 1048576 < s0.length
  · go_enter Tryd.func10, Tryd.ntmps10
    go_wp2
    go_ret
    exact ⟨rfl, Below.refl _ _⟩
  · have hl : s0.length ≤ 1048576 := by omega
    have C1 := Lib.hid (fun W => specParseNumber_any s0 W hl)
    have C2 := Lib.hid (fun W (h1 : TabW W) (h2 : ErrW W) => implParseNumber_any s0 W hl h1 h2)
    generalize numW s0 = R at *
    obtain ⟨n, ok⟩ := R
    cases ok
    all_goals
      go_enter Tryd.func10, Tryd.ntmps10
      go_wp2_with fail
      refine (C1.out _).mono ?_
      rintro e w1 ⟨rfl, hb1⟩
      go_wp2_with fail
      refine (C2.out _ (ht.below hb1) (he.below hb1)).mono ?_
      rintro e w2 ⟨rfl, hb2⟩
      have hT := Below.step hb1 hb2
      go_wp2_with fail
      go_ret
      exact ⟨rfl, hT⟩

end Go.Proofs.YtmbdegjombjbiaaDoor
