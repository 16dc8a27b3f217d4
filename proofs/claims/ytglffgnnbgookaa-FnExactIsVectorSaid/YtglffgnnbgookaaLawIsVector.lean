/- The law FnExactIsVector holds for every input: the walk. Conditions: none. -/
import Derived.Test.YtglffgnnbgookaaMark
namespace Go.Proofs.Ytglffgnnbgookaa
open Go.RowKit
set_option linter.unusedVariables false
set_option linter.unusedSimpArgs false

theorem lawIsVector_walk (p : Option Addr) (n c : Nat) (xs : List Int) (w : World) (hm : n ≤ 9223372036854775807) (hx : Ints w p n xs) :
    Calls Try.prog 4 #[.slice p n c] w fun e w' => e = .returned (.bool true) ∧ Below w.heap.size w w' := by
  by_cases hbig : 1048576 < n
  · go_enter Try.func4, Try.ntmps4
    go_wp2
    go_ret
    exact ⟨rfl, Below.refl _ _⟩
  · go_enter Try.func4, Try.ntmps4
    go_wp2_with fail
    refine (toIntS_any _ _ _ _ _ hx (by omega)).mono ?_
    rintro e w1 ⟨p1, c1, rfl, ho1, hb1⟩
    have hx1 := hx.below hb1
    go_wp2_with fail
    refine (specIsVector_any _ _ _ _ _ ho1.ints ho1.small).mono ?_
    rintro e w' ⟨rfl, rfl⟩
    go_wp2_with fail
    refine (toIntS_any _ _ _ _ _ hx1 (by omega)).mono ?_
    rintro e w2 ⟨p2, c2, rfl, ho2, hb2⟩
    have hx2 := hx1.below hb2
    go_wp2_with fail
    refine (implIsVector_any _ _ _ _ _ ho2.ints ho2.small).mono ?_
    rintro e w' ⟨rfl, rfl⟩
    go_wp2_with fail
    refine (toIntS_any _ _ _ _ _ hx2 (by omega)).mono ?_
    rintro e w3 ⟨p3, c3, rfl, ho3, hb3⟩
    go_wp2_with fail
    refine (eqIntS_any _ _ _ _ _ _ _ _ _ (ho2.below hb3).ints ho3.ints ho2.small ho3.small).mono ?_
    rintro e w' ⟨rfl, z, rfl⟩
    rw [beqL_self]
    go_wp2_with fail
    go_ret
    exact ⟨rfl, Below.drawn (Below.step (Below.step hb1 hb2) hb3) z⟩

end Go.Proofs.Ytglffgnnbgookaa
