/- The law FnNumbers: the walk: for every input it returns true and writes nothing that was there. Conditions: the library's variables. -/
import Derived.Test.YtpfklkmmhdpphadGreatDoorStrFns5
import Derived.Test.YtpfklkmmhdpphadGreatDoorFnSp
namespace Go.Proofs.YtpfklkmmhdpphadGreatDoor
open Go.RowKit
set_option linter.unusedVariables false
set_option linter.unusedSimpArgs false
set_option maxRecDepth 100000

theorem dig12 (u : Nat) : Lib.nDigits u ≤ 12 ↔ u ≤ 999999999999 := by
  constructor
  · intro h
    have h1 := Lib.lt_pow_nDigits u
    have h2 : 10 ^ Lib.nDigits u ≤ 10 ^ 12 := Nat.pow_le_pow_right (by omega) h
    have h3 : (10 : Nat) ^ 12 = 1000000000000 := by decide
    omega
  · intro h
    exact nDigits_le (k := 11) (by have h3 : (10 : Nat) ^ (11 + 1) = 1000000000000 := by decide
                                   omega)
theorem itoa_fit (n : Int) : (-999999999999 ≤ n ∧ n ≤ 999999999999) ↔ ((Lib.itoa n).length ≤ 12 ∨ (n < 0 ∧ (Lib.itoa n).length ≤ 13)) := by
  by_cases h : n < 0
  · rw [itoa_neg h, List.length_cons, decDigits_len]
    have := dig12 n.natAbs
    omega
  · rw [itoa_pos h, decDigits_len]
    have := dig12 n.toNat
    omega
theorem parse_itoa (n : Int) : parseW 999999999999 (Lib.itoa n) = if -999999999999 ≤ n ∧ n ≤ 999999999999 then (n, true) else (0, false) := by
  by_cases h : -999999999999 ≤ n ∧ n ≤ 999999999999
  · rw [if_pos h]; exact parseW_yes rfl h.1 h.2
  · rw [if_neg h]
    refine parseW_no fun m hm => ?_
    rw [itoa_inj hm]; exact h
theorem numW_fine {t : List UInt8} (h : (numW t).2 = true) : Lib.itoa (numW t).1 = t ∧ 0 ≤ (numW t).1 := by
  unfold numW at h ⊢
  split at h
  · rename_i h1
    rw [if_pos h1]
    exact ⟨(parseW_true h1.1).1, h1.2⟩
  · cases h
theorem numW_in (t : List UInt8) : -9223372036854775808 ≤ (numW t).1 ∧ (numW t).1 ≤ 9223372036854775807 := by
  unfold numW
  split
  · rename_i h1
    have := parseW_true h1.1
    show -9223372036854775808 ≤ (parseW 999999 t).1 ∧ (parseW 999999 t).1 ≤ 9223372036854775807
    omega
  · show -9223372036854775808 ≤ (0 : Int) ∧ (0 : Int) ≤ 9223372036854775807
    omega

theorem Drawn1.new {w w1 : World} {g : Nat} {p : Option Addr} {n c : Nat} {xs : List Int} (h : Cur w g p n c xs) (hb : Below w.heap.size w w1) : Drawn1 w g p n c xs w1 := ⟨h.below hb, Within.of_below hb⟩

def wholeL : List Int := [0, 1, -1, 9, 10, 999999, 1000000, 999999999999, 1000000000000, -999999999999, 9223372036854775807, -9223372036854775808]
def numTexts : List (List UInt8) := [[], [48, 48], [48, 49], [45, 49], [43, 49], [120], [57, 57, 57, 57, 57, 57], [49, 48, 48, 48, 48, 48, 48], [45, 48], [45], [32, 49], [49, 32]]
end Go.Proofs.YtpfklkmmhdpphadGreatDoor
