/- The law FnNumbers: the walk: for every input it returns true and writes nothing that was there. Conditions: the library's variables. -/
import Derived.Test.YtfcbkdpgjbkamaaDoorStrFns5
import Derived.Test.YtfcbkdpgjbkamaaDoorFnSp
namespace Go.Proofs.YtfcbkdpgjbkamaaDoor
open Go.RowKit
set_option linter.unusedVariables false
set_option linter.unusedSimpArgs false
set_option maxRecDepth 100000

theorem dig12 (u : Nat) : Lib.nDigits u ≤ 12 ↔ u ≤ 999999999999 := by
  constructor
  · intro h
    have h1 := Lib.lt_pow_nDigits u
    have h2 : 10 ^ Lib.nDigits u ≤ 10 ^ 12 := Nat.pow_le_pow_right (by omega) h
    have h3 : (10 : Nat) ^ 12 = 1000000000000 := by decide
    omega
  · intro h
    exact nDigits_le (k := 11) (by have h3 : (10 : Nat) ^ (11 + 1) = 1000000000000 := by decide
                                   omega)
theorem itoa_fit (n : Int) : (-999999999999 ≤ n ∧ n ≤ 999999999999) ↔ ((Lib.itoa n).length ≤ 12 ∨ (n < 0 ∧ (Lib.itoa n).length ≤ 13)) := by
  by_cases h : n < 0
  · rw [itoa_neg h, List.length_cons, decDigits_len]
    have := dig12 n.natAbs
    omega
  · rw [itoa_pos h, decDigits_len]
    have := dig12 n.toNat
    omega
theorem parse_itoa (n : Int) : parseW 999999999999 (Lib.itoa n) = if -999999999999 ≤ n ∧ n ≤ 999999999999 then (n, true) else (0, false) := by
  by_cases h : -999999999999 ≤ n ∧ n ≤ 999999999999
  · rw [if_pos h]; exact parseW_yes rfl h.1 h.2
  · rw [if_neg h]
    refine parseW_no fun m hm => ?_
    rw [itoa_inj hm]; exact h
theorem numW_fine {t : List UInt8} (h : (numW t).2 = true) : Lib.itoa (numW t).1 = t ∧ 0 ≤ (numW t).1 := by
  unfold numW at h ⊢
  split at h
  · rename_i h1
    rw [if_pos h1]
    exact ⟨(parseW_true h1.1).1, h1.2⟩
  · cases h
theorem numW_in (t : List UInt8) : -9223372036854775808 ≤ (numW t).1 ∧ (numW t).1 ≤ 9223372036854775807 := by
  unfold numW
  split
  · rename_i h1
    have := parseW_true h1.1
    show -9223372036854775808 ≤ (parseW 999999 t).1 ∧ (parseW 999999 t).1 ≤ 9223372036854775807
    omega
  · show -9223372036854775808 ≤ (0 : Int) ∧ (0 : Int) ≤ 9223372036854775807
    omega

theorem Drawn1.new {w w1 : World} {g : Nat} {p : Option Addr} {n c : Nat} {xs : List Int} (h : Cur w g p n c xs) (hb : Below w.heap.size w w1) : Drawn1 w g p n c xs w1 := ⟨h.below hb, Within.of_below hb⟩

def wholeL : List Int := [0, 1, -1, 9, 10, 999999, 1000000, 999999999999, 1000000000000, -999999999999, 9223372036854775807, -9223372036854775808]
theorem l1Whole_any (g : Nat) (p : Option Addr) (n c : Nat) (xs : List Int) (w : World) (hn : n ≤ 1048576) (hx : Cur w g p n c xs) :
    Calls Tryd.prog 56 #[.pointer (some ⟨g, 0, none⟩)] w fun e w' => ∃ x : Int, e = .returned (.int .i64 x) ∧ -9223372036854775808 ≤ x ∧ x ≤ 9223372036854775807 ∧ Drawn1 w g p n c xs w' := by
  go_enter Tryd.func56, Tryd.ntmps56
  go_wp2_with fail
  refine (l1Below_any _ _ _ _ _ _ _ hn hx (by omega) (by omega)).mono ?_
  rintro e w1 ⟨x, rfl, hx0, hx1, hD⟩
  rcases (by omega : x = 0 ∨ x = 1 ∨ x = 2) with rfl | rfl | rfl
  · go_wp2_with fail
    have hB := boxed w1 (.cells #[.int .i64 0, .int .i64 1, .int .i64 (-1), .int .i64 9, .int .i64 10, .int .i64 999999, .int .i64 1000000, .int .i64 999999999999, .int .i64 1000000000000, .int .i64 (-999999999999), .int .i64 9223372036854775807, .int .i64 (-9223372036854775808)] 3)
    have hi : Ints (w1.alloc (.cells #[.int .i64 0, .int .i64 1, .int .i64 (-1), .int .i64 9, .int .i64 10, .int .i64 999999, .int .i64 1000000, .int .i64 999999999999, .int .i64 1000000000000, .int .i64 (-999999999999), .int .i64 9223372036854775807, .int .i64 (-9223372036854775808)] 3)) (some ⟨w1.heap.size, 0, none⟩) 12 wholeL := ⟨rfl, fun k hk => ⟨_, _, rfl, by
      rw [Nat.zero_add]
      match k, hk with
      | 0, _ => exact (cellsNew _ _ _ _).trans rfl
      | 1, _ => exact (cellsNew _ _ _ _).trans rfl
      | 2, _ => exact (cellsNew _ _ _ _).trans rfl
      | 3, _ => exact (cellsNew _ _ _ _).trans rfl
      | 4, _ => exact (cellsNew _ _ _ _).trans rfl
      | 5, _ => exact (cellsNew _ _ _ _).trans rfl
      | 6, _ => exact (cellsNew _ _ _ _).trans rfl
      | 7, _ => exact (cellsNew _ _ _ _).trans rfl
      | 8, _ => exact (cellsNew _ _ _ _).trans rfl
      | 9, _ => exact (cellsNew _ _ _ _).trans rfl
      | 10, _ => exact (cellsNew _ _ _ _).trans rfl
      | 11, _ => exact (cellsNew _ _ _ _).trans rfl⟩⟩
    have hgl := hD.1.lt
    have hD1 := hD.step (Drawn1.new hD.1 hB)
    refine (l1PickInt_any g w1.heap.size _ _ _ 12 12 _ wholeL _ hn hD1.1 (by omega) (by omega) hi (by omega)).mono ?_
    clear hi
    rintro e w3 ⟨j, hj, rfl, hD3⟩
    have hr : -9223372036854775808 ≤ nth wholeL j ∧ nth wholeL j ≤ 9223372036854775807 := by
      match j, hj with
      | 0, _ => decide
      | 1, _ => decide
      | 2, _ => decide
      | 3, _ => decide
      | 4, _ => decide
      | 5, _ => decide
      | 6, _ => decide
      | 7, _ => decide
      | 8, _ => decide
      | 9, _ => decide
      | 10, _ => decide
      | 11, _ => decide
    generalize nth wholeL j = x at *
    go_wp2_with fail
    go_ret
    exact ⟨x, rfl, hr.1, hr.2, hD1.step hD3⟩
  · go_wp2_with fail
    refine (l1Below_any _ _ _ _ _ _ _ hn hD.1 (by omega) (by omega)).mono ?_
    rintro e w2 ⟨x, rfl, hx0, hx1, hD2⟩
    go_wp2_with fail
    go_ret
    exact ⟨x - 500000, rfl, by omega, by omega, hD.step hD2⟩
  · go_wp2_with fail
    refine (l1Below_any _ _ _ _ _ _ _ hn hD.1 (by omega) (by omega)).mono ?_
    rintro e w2 ⟨x, rfl, hx0, hx1, hD2⟩
    go_wp2_with fail
    go_ret
    exact ⟨x, rfl, by omega, by omega, hD.step hD2⟩

theorem drawFormat_any (p : Option Addr) (n c : Nat) (xs : List Int) (w : World) (hn : n ≤ 1048576) (hx : BytesZ w p n xs) :
    Calls Tryd.prog 24 #[.slice p n c] w fun e w' => ∃ x : Int, e = .returned (.int .i64 x) ∧ -9223372036854775808 ≤ x ∧ x ≤ 9223372036854775807 ∧ Below w.heap.size w w' := by
  go_enter Tryd.func24, Tryd.ntmps24
  go_wp2_with fail
  refine (l1New_any _ _ _ _ _ hn hx).mono ?_
  rintro e w1 ⟨g, rfl, hg, hC, hb1⟩
  go_wp2_with fail
  refine (l1Whole_any _ _ _ _ _ _ hn hC).mono ?_
  rintro e w2 ⟨x, rfl, h0, h1, hD⟩
  go_wp2_with fail
  go_ret
  exact ⟨x, rfl, h0, h1, hD.frame hb1 hg⟩

def numTexts : List (List UInt8) := [[], [48, 48], [48, 49], [45, 49], [43, 49], [120], [57, 57, 57, 57, 57, 57], [49, 48, 48, 48, 48, 48, 48], [45, 48], [45], [32, 49], [49, 32]]
theorem drawNumber_any (p : Option Addr) (n c : Nat) (xs : List Int) (w : World) (hn : n ≤ 1048576) (hx : BytesZ w p n xs) :
    Calls Tryd.prog 28 #[.slice p n c] w fun e w' => ∃ l : List UInt8, e = .returned (.string ⟨l.toArray⟩) ∧ l.length ≤ 21 ∧ Below w.heap.size w w' := by
  go_enter Tryd.func28, Tryd.ntmps28
  go_wp2_with fail
  refine (l1New_any _ _ _ _ _ hn hx).mono ?_
  rintro e w1 ⟨g, rfl, hg, hC, hb1⟩
  go_wp2_with fail
  refine (l1Once_any _ _ _ _ _ _ _ hn hC (by omega) (by omega)).mono ?_
  rintro e w2 ⟨t, rfl, hD⟩
  have hT2 := hD.frame hb1 hg
  have hgl := hD.1.lt
  cases t
  · go_wp2_with fail
    have hB1 := boxed w2 (.cells #[.string ⟨#[]⟩, .string ⟨#[48, 48]⟩, .string ⟨#[48, 49]⟩, .string ⟨#[45, 49]⟩, .string ⟨#[43, 49]⟩, .string ⟨#[120]⟩, .string ⟨#[57, 57, 57, 57, 57, 57]⟩, .string ⟨#[49, 48, 48, 48, 48, 48, 48]⟩, .string ⟨#[45, 48]⟩, .string ⟨#[45]⟩, .string ⟨#[32, 49]⟩, .string ⟨#[49, 32]⟩] 9)
    have hs : ∀ k, k < 12 → (w2.alloc (.cells #[.string ⟨#[]⟩, .string ⟨#[48, 48]⟩, .string ⟨#[48, 49]⟩, .string ⟨#[45, 49]⟩, .string ⟨#[43, 49]⟩, .string ⟨#[120]⟩, .string ⟨#[57, 57, 57, 57, 57, 57]⟩, .string ⟨#[49, 48, 48, 48, 48, 48, 48]⟩, .string ⟨#[45, 48]⟩, .string ⟨#[45]⟩, .string ⟨#[32, 49]⟩, .string ⟨#[49, 32]⟩] 9)).cell? ⟨w2.heap.size, k, none⟩ = some (.string ⟨(nthS numTexts k).toArray⟩) := fun k hk => by
      match k, hk with
      | 0, _ => exact (cellsNew _ _ _ _).trans rfl
      | 1, _ => exact (cellsNew _ _ _ _).trans rfl
      | 2, _ => exact (cellsNew _ _ _ _).trans rfl
      | 3, _ => exact (cellsNew _ _ _ _).trans rfl
      | 4, _ => exact (cellsNew _ _ _ _).trans rfl
      | 5, _ => exact (cellsNew _ _ _ _).trans rfl
      | 6, _ => exact (cellsNew _ _ _ _).trans rfl
      | 7, _ => exact (cellsNew _ _ _ _).trans rfl
      | 8, _ => exact (cellsNew _ _ _ _).trans rfl
      | 9, _ => exact (cellsNew _ _ _ _).trans rfl
      | 10, _ => exact (cellsNew _ _ _ _).trans rfl
      | 11, _ => exact (cellsNew _ _ _ _).trans rfl
    have hC1 := hD.1.below hB1
    have hT3 := Below.step hT2 hB1
    refine (l1Pick_any g w2.heap.size _ _ _ 12 12 _ numTexts _ hn hC1 (by omega) (by omega) hs (by omega)).mono ?_
    clear hs
    rintro e w3 ⟨k, hk, rfl, hD3⟩
    have hl5 : (nthS numTexts k).length ≤ 21 := by
      match k, hk with
      | 0, _ => decide
      | 1, _ => decide
      | 2, _ => decide
      | 3, _ => decide
      | 4, _ => decide
      | 5, _ => decide
      | 6, _ => decide
      | 7, _ => decide
      | 8, _ => decide
      | 9, _ => decide
      | 10, _ => decide
      | 11, _ => decide
    generalize nthS numTexts k = t at *
    go_wp2_with fail
    go_ret
    exact ⟨t, rfl, hl5, hD3.frame hT3 hg⟩
  · go_wp2_with fail
    refine (l1Whole_any _ _ _ _ _ _ hn hD.1).mono ?_
    rintro e w3 ⟨x, rfl, h0, h1, hD3⟩
    have hT3 := hD3.frame hT2 hg
    have hl := Lib.itoa_length_le x h0 h1
    go_wp2_with fail
    refine (specFormat_any _ _ h0 h1).mono ?_
    rintro e w4 ⟨rfl, hb4⟩
    go_wp2_with fail
    go_ret
    exact ⟨_, rfl, by omega, Below.step hT3 hb4⟩

end Go.Proofs.YtfcbkdpgjbkamaaDoor
