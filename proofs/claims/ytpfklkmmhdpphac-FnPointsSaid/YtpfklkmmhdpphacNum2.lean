/- Plain law of the reference's reader of numbers, and of texts cut at a byte. No program in sight. Conditions: none. -/
import Derived.Test.YtpfklkmmhdpphacJnVecFns2
import Derived.Lib.SplitLaws
namespace Go.Proofs.Ytpfklkmmhdpphac
set_option linter.unusedVariables false
set_option linter.unusedSimpArgs false
set_option maxRecDepth 100000

/-- What stands behind the sign. -/
def tW (l : List UInt8) : List UInt8 := if l.head? = some 45 then l.tail else l
theorem tW_itoa (n : Int) : tW (Lib.itoa n) = Lib.decDigits n.natAbs := by
  by_cases h : n < 0
  · rw [itoa_neg h, tW, if_pos (by rfl)]; rfl
  · rw [itoa_pos h]
    obtain ⟨c, r, e, hc⟩ := decDigits_head n.toNat
    rw [tW, if_neg (by rw [e]; simpa using dig_ne hc)]
    congr 1; omega
theorem sval_abs (l : List UInt8) : (sval l).natAbs = dvf 0 (tW l) := by
  unfold sval tW
  split <;> omega
theorem pow_le_dig {n : Int} {k : Nat} (h : k < (Lib.decDigits n.natAbs).length) (hk : 1 ≤ k) : 10 ^ k ≤ n.natAbs := by
  by_cases h1 : n.natAbs < 10 ^ k
  · obtain ⟨j, rfl⟩ : ∃ j, k = j + 1 := ⟨k - 1, by omega⟩
    have := nDigits_le h1
    rw [decDigits_len] at h; omega
  · omega
theorem readW_len {most : Nat} {l : List UInt8} (hm : 1 ≤ most) (h : (tW l).length < 1 ∨ most < (tW l).length) : parseW ((10 ^ most : Nat) - 1) l = (0, false) := by
  refine parseW_no fun n hn h1 => ?_
  rw [← hn, tW_itoa] at h
  rcases h with h | h
  · have := List.length_eq_zero_iff.1 (show (Lib.decDigits n.natAbs).length = 0 by omega)
    exact decDigits_ne _ this
  · have := pow_le_dig h hm
    omega
theorem readW_bad {k : Int} {l : List UInt8} (h : ∃ c ∈ tW l, ¬ isDig c) : parseW k l = (0, false) := by
  refine parseW_no fun n hn h1 => ?_
  obtain ⟨c, hc, hd⟩ := h
  rw [← hn, tW_itoa] at hc
  exact hd (decDigits_dig _ c hc)
theorem readW_yes {most : Nat} {l : List UInt8} (h : Lib.itoa (sval l) = l) (hd : ∀ c ∈ tW l, isDig c) (hl : (tW l).length ≤ most) : parseW ((10 ^ most : Nat) - 1) l = (sval l, true) := by
  have h1 := dvf_lt (tW l) 0 hd
  rw [← sval_abs] at h1
  have h2 : 10 ^ (tW l).length ≤ 10 ^ most := Nat.pow_le_pow_right (by omega) hl
  exact parseW_yes h (by omega) (by omega)
theorem readW_no {k : Int} {l : List UInt8} (h : Lib.itoa (sval l) ≠ l) : parseW k l = (0, false) := by
  rw [parseW, if_neg fun ⟨h1, _⟩ => h h1]

/-- What both parsers of numbers that are not negative give. -/
def numW (l : List UInt8) : Int × Bool := if (parseW 999999 l).2 = true ∧ 0 ≤ (parseW 999999 l).1 then ((parseW 999999 l).1, true) else (0, false)
theorem numW_of_int (l : List UInt8) : numW l = if (parseW 999999999999 l).2 = true ∧ 0 ≤ (parseW 999999999999 l).1 ∧ (parseW 999999999999 l).1 ≤ 999999 then ((parseW 999999999999 l).1, true) else (0, false) := by
  rcases parseW_cases 999999 l with ⟨n, h1, h2, h3, h4⟩ | ⟨h1, h4⟩
  · have h5 := parseW_yes (k := 999999999999) h1 (by omega) (by omega)
    rw [numW, h4, h5]
    by_cases h : 0 ≤ n
    · rw [if_pos ⟨rfl, h⟩, if_pos ⟨rfl, h, h3⟩]
    · rw [if_neg fun ⟨_, h'⟩ => h h', if_neg fun ⟨_, h', _⟩ => h h']
  · rw [numW, h4, if_neg (by simp)]
    rcases parseW_cases 999999999999 l with ⟨n, k1, k2, k3, k4⟩ | ⟨k1, k4⟩
    · rw [k4, if_neg fun ⟨_, h2, h3⟩ => h1 n k1 ⟨by omega, h3⟩]
    · rw [k4, if_neg (by simp)]

/-! ### A text cut at each place of a byte -/
def splitA (c : UInt8) (cur : List UInt8) : List UInt8 → List (List UInt8)
  | [] => [cur]
  | b :: l => if b = c then cur :: splitA c [] l else splitA c (cur ++ [b]) l
def splitW (c : UInt8) (l : List UInt8) : List (List UInt8) := splitA c [] l

theorem index_cons_ne {b c : UInt8} (l : List UInt8) (h : b ≠ c) : Lib.index (b :: l) [c] = if Lib.index l [c] == -1 then -1 else Lib.index l [c] + 1 := by
  have hp : ([c] : List UInt8).isPrefixOf (b :: l) = false := by simp [List.isPrefixOf, Ne.symm h]
  rw [Lib.index, hp]; simp
theorem index_cons_eq (c : UInt8) (l : List UInt8) : Lib.index (c :: l) [c] = 0 := by
  rw [Lib.index]; simp [List.isPrefixOf]
theorem splitA_eq (c : UInt8) : ∀ (l cur : List UInt8), ∃ h t, Lib.splitK [c] 0 (Lib.count l [c]) l = h :: t ∧ splitA c cur l = (cur ++ h) :: t
  | [], cur => ⟨[], [], by rw [Lib.count_miss (by simp [Lib.index])]; rfl, by simp [splitA]⟩
  | b :: l, cur => by
    by_cases hb : b = c
    · subst hb
      obtain ⟨h, t, e1, e2⟩ := splitA_eq b l []
      refine ⟨[], h :: t, ?_, ?_⟩
      · rw [Lib.count_cons_eq, Nat.add_comm, Lib.splitK, index_cons_eq]
        simp [e1]
      · rw [splitA, if_pos rfl, e2]; simp
    · obtain ⟨h, t, e1, e2⟩ := splitA_eq c l (cur ++ [b])
      refine ⟨b :: h, t, ?_, ?_⟩
      · rw [Lib.count_cons_ne _ _ _ hb]
        cases hk : Lib.count l [c] with
        | zero =>
          rw [hk] at e1
          simp only [Lib.splitK, List.cons.injEq] at e1
          obtain ⟨rfl, rfl⟩ := e1
          rfl
        | succ k =>
          rw [hk] at e1
          have hne : Lib.index l [c] ≠ -1 := fun he => by
            rw [Lib.count_miss he] at hk; omega
          have hge := Lib.index_ge l [c]
          obtain ⟨j, hj⟩ : ∃ j : Nat, Lib.index l [c] = j := ⟨(Lib.index l [c]).toNat, by omega⟩
          have hix : Lib.index (b :: l) [c] = ((j + 1 : Nat) : Int) := by rw [index_cons_ne l hb, if_neg (by simpa using hne), hj]; omega
          rw [Lib.splitK, hj] at e1
          rw [Lib.splitK, hix]
          have hm : ¬ ((((j + 1 : Nat) : Int) == -1) = true) := by rw [beq_iff_eq]; omega
          have hm' : ¬ (((j : Nat) : Int) == -1) = true := by rw [beq_iff_eq]; omega
          rw [if_neg hm'] at e1
          rw [if_neg hm]
          simp only [Int.toNat_natCast, Nat.add_zero, List.length_singleton, List.take_succ_cons, List.drop_succ_cons, List.cons.injEq] at e1 ⊢
          exact ⟨⟨trivial, e1.1⟩, e1.2⟩
      · rw [splitA, if_neg hb, e2, List.append_assoc]; rfl
theorem split_eq (c : UInt8) (l : List UInt8) : Lib.splitK [c] 0 (Lib.count l [c]) l = splitW c l := by
  obtain ⟨h, t, e1, e2⟩ := splitA_eq c l []
  rw [e1, splitW, e2, List.nil_append]

theorem splitA_ne (c : UInt8) : ∀ (l cur : List UInt8), splitA c cur l ≠ []
  | [], cur => by simp [splitA]
  | b :: l, cur => by
    rw [splitA]; split
    · simp
    · exact splitA_ne c l _
theorem splitW_ne (c : UInt8) (l : List UInt8) : splitW c l ≠ [] := splitA_ne c l []
theorem splitA_length (c : UInt8) : ∀ (l cur : List UInt8), (splitA c cur l).length ≤ l.length + 1
  | [], cur => by simp [splitA]
  | b :: l, cur => by
    rw [splitA]; split
    · have := splitA_length c l []
      simp only [List.length_cons]; omega
    · have := splitA_length c l (cur ++ [b])
      simp only [List.length_cons]; omega
theorem splitA_sum (c : UInt8) : ∀ (l cur : List UInt8), ∀ x ∈ splitA c cur l, x.length ≤ cur.length + l.length
  | [], cur, x, h => by simp [splitA] at h; subst h; simp
  | b :: l, cur, x, h => by
    rw [splitA] at h; split at h
    · rcases List.mem_cons.1 h with rfl | h
      · omega
      · have := splitA_sum c l [] x h
        simp only [List.length_cons, List.length_nil] at *; omega
    · have := splitA_sum c l _ x h
      simp only [List.length_append, List.length_cons, List.length_nil] at *; omega

/-- Joining the pieces restores the text. -/
theorem splitA_join (c : UInt8) : ∀ (l cur : List UInt8), List.intercalate [c] (splitA c cur l) = cur ++ l
  | [], cur => by simp [splitA, List.intercalate]
  | b :: l, cur => by
    rw [splitA]; split
    · rename_i h
      subst h
      have ih := splitA_join b l []
      cases hs : splitA b [] l with
      | nil => exact absurd hs (splitA_ne b l [])
      | cons x r =>
        rw [hs] at ih
        rw [List.intercalate] at ih ⊢
        simp only [List.intersperse, List.flatten_cons] at ih ⊢
        cases r <;> simp_all [List.intersperse]
    · rw [splitA_join c l _]; simp
/-- A piece holds the byte nowhere. -/
theorem splitA_free (c : UInt8) : ∀ (l cur : List UInt8), c ∉ cur → ∀ x ∈ splitA c cur l, c ∉ x
  | [], cur, h, x, hx => by simp [splitA] at hx; subst hx; exact h
  | b :: l, cur, h, x, hx => by
    rw [splitA] at hx; split at hx
    · rcases List.mem_cons.1 hx with rfl | hx
      · exact h
      · exact splitA_free c l [] (by simp) x hx
    · rename_i hb
      exact splitA_free c l _ (by simp; exact ⟨h, fun e => hb e.symm⟩) x hx
theorem splitA_one (c : UInt8) : ∀ (l cur : List UInt8), c ∉ l → splitA c cur l = [cur ++ l]
  | [], cur, _ => by simp [splitA]
  | b :: l, cur, h => by
    rw [splitA, if_neg fun e => h (by simp [e]), splitA_one c l _ fun hc => h (List.mem_cons_of_mem _ hc)]; simp

end Go.Proofs.Ytpfklkmmhdpphac
