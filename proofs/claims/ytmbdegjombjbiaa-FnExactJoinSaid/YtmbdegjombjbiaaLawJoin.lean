/- The law FnExactJoin: the walk: for every input it returns true and writes nothing that was there. Conditions: none. -/
import Derived.Test.YtmbdegjombjbiaaStrLib
namespace Go.Proofs.Ytmbdegjombjbiaa
open Go.RowKit
set_option linter.unusedVariables false
set_option linter.unusedSimpArgs false
set_option maxRecDepth 100000

theorem OwnS.cap {w : World} {lo hi : Nat} {p : Option Addr} {n c : Nat} {ss : List (List UInt8)} (h : OwnS w lo hi p n c ss) : n ≤ c := by
  rcases OwnV.form1 h with ⟨_, rfl, rfl⟩ | ⟨g, _, _, _, _, hc, _⟩
  · exact Nat.le_refl _
  · exact hc
theorem lawJoin_walk (q0 : Option Addr) (n0 c0 : Nat) (x0 : List (List UInt8)) (s1 : List UInt8) (w : World) (fm0 : n0 ≤ 9223372036854775807 ∧ ∀ k, k < n0 → (nthS x0 k).length ≤ 9223372036854775807) (fr0 : Strs w q0 n0 x0) (fm1 : s1.length ≤ 9223372036854775807) :
    Calls Try.prog 3 #[.slice q0 n0 c0, .string ⟨s1.toArray⟩] w fun e w' => e = .returned (.bool true) ∧ Below w.heap.size w w' := by
  have hsz : (⟨s1.toArray⟩ : ByteArray).size = s1.length := by simp [ByteArray.size]
  obtain ⟨fm, fb⟩ := fm0
  have Fb := Lib.hid fb
  clear fb
  by_cases hbig : 1048576 < s1.length
  · go_enter Try.func3, Try.ntmps3
    go_wp2
    go_ret
    exact ⟨rfl, Below.refl _ _⟩
  by_cases hfit : ((n0 + totS x0 : Nat) : Int) ≤ 1048576
  rotate_left
  · go_enter Try.func3, Try.ntmps3
    go_wp2_with fail
    refine (ret_of_same (szStringS_any _ _ _ _ _ _ fm fr0 Fb.out (by omega) (by omega))).mono ?_
    rw [leftOf_no (by omega)]
    rintro e w1 ⟨rfl, hb1⟩
    go_wp2
    go_ret
    exact ⟨rfl, hb1⟩
  have hn : n0 ≤ 1048576 := by omega
  have ht : totS x0 ≤ 33554432 := by omega
  have hs : s1.length ≤ 1048576 := by omega
  have Ht := Lib.hid ht
  clear ht
  go_enter Try.func3, Try.ntmps3
  go_wp2_with fail
  refine (ret_of_same (szStringS_any _ _ _ _ _ _ fm fr0 Fb.out (by omega) (by omega))).mono ?_
  rw [leftOf_yes (by omega)]
  rintro e w1 ⟨rfl, hb1⟩
  have hT := hb1
  go_wp2_with fail
  refine (toStringS_any _ _ _ _ _ (fr0.below hT) hn).mono ?_
  rintro e w2 ⟨p2, c2, rfl, ho2, hb2⟩
  replace hT := Below.step hT hb2
  go_wp2_with fail
  refine (specJoin_any _ _ _ _ _ _ ho2.rd hn Ht.out hs).mono ?_
  rintro e w3 ⟨rfl, hb3⟩
  replace hT := Below.step hT hb3
  go_wp2_with fail
  refine (toStringS_any _ _ _ _ _ (fr0.below hT) hn).mono ?_
  rintro e w4 ⟨p4, c4, rfl, ho4, hb4⟩
  replace hT := Below.step hT hb4
  go_wp2_with fail
  refine (implJoin_any _ _ _ _ _ _ ho4.rd ho4.cap hn Ht.out hs).mono ?_
  rintro e w5 ⟨rfl, hb5⟩
  replace hT := Below.step hT hb5
  replace ho4 := ho4.below hb5
  go_wp2_with fail
  refine (toStringS_any _ _ _ _ _ (fr0.below hT) hn).mono ?_
  rintro e w6 ⟨p6, c6, rfl, ho6, hb6⟩
  replace hT := Below.step hT hb6
  replace ho4 := ho4.below hb6
  go_wp2_with fail
  refine (eqStringS_self _ _ _ _ _ _ _ _ ho4.rd ho6.rd (by omega) (by omega)).mono ?_
  rintro e w7 ⟨rfl, hb7⟩
  replace hT := Below.step hT hb7
  go_wp2_with fail
  go_ret
  exact ⟨rfl, hT⟩

end Go.Proofs.Ytmbdegjombjbiaa
