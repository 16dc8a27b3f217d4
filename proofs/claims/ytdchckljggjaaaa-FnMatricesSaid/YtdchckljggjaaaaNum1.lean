/- Plain law of decimal numerals: what the program and the reference print and read. No program in sight. Conditions: none. -/
import Derived.Test.YtdchckljggjaaaaBase
import Derived.Lib.ItoaLen
import Derived.Lib.AtoiAll
namespace Go.Proofs.Ytdchckljggjaaaa
set_option linter.unusedVariables false
set_option linter.unusedSimpArgs false
set_option maxRecDepth 100000

def isDig (c : UInt8) : Prop := 48 ≤ c.toNat ∧ c.toNat ≤ 57
/-- What a digit stands for. -/
def dgv (c : UInt8) : Nat := c.toNat - 48
theorem isDig.lt {c : UInt8} (h : isDig c) : dgv c < 10 := by unfold isDig at h; unfold dgv; omega
/-- The number that digits spell behind a number. -/
def dstep (a : Nat) (c : UInt8) : Nat := a * 10 + dgv c
def dvf (a : Nat) (l : List UInt8) : Nat := l.foldl dstep a
theorem dvf_nil (a : Nat) : dvf a [] = a := rfl
theorem dvf_cons' (a : Nat) (c : UInt8) (r : List UInt8) : dvf a (c :: r) = dvf (dstep a c) r := List.foldl_cons ..
theorem dvf_cons (a : Nat) (c : UInt8) (r : List UInt8) : dvf a (c :: r) = dvf (a * 10 + dgv c) r := by rw [dvf_cons', dstep]
theorem dvf_append (l r : List UInt8) (a : Nat) : dvf a (l ++ r) = dvf (dvf a l) r := List.foldl_append ..
theorem dvf_ge (l : List UInt8) : ∀ (a : Nat), a ≤ dvf a l := by
  induction l with
  | nil => intro a; exact Nat.le_refl _
  | cons c r ih =>
    intro a
    have h1 := ih (a * 10 + dgv c)
    rw [dvf_cons]
    omega
theorem dvf_lt (l : List UInt8) : ∀ (a : Nat), (∀ c ∈ l, isDig c) → dvf a l < (a + 1) * 10 ^ l.length := by
  induction l with
  | nil => intro a _; rw [dvf_nil, List.length_nil, Nat.pow_zero]; omega
  | cons c r ih =>
    intro a h
    have h1 := ih (a * 10 + dgv c) fun x hx => h x (List.mem_cons_of_mem _ hx)
    have h2 := (h c List.mem_cons_self).lt
    rw [dvf_cons, List.length_cons, Nat.pow_succ]
    generalize 10 ^ r.length = p at *
    generalize dvf (a * 10 + dgv c) r = q at *
    generalize dgv c = d at *
    have h3 : (a * 10 + d + 1) * p ≤ ((a + 1) * 10) * p := Nat.mul_le_mul_right _ (by omega)
    have h4 : (a + 1) * (p * 10) = ((a + 1) * 10) * p := by rw [Nat.mul_comm p 10, ← Nat.mul_assoc]
    rw [h4]
    exact Nat.lt_of_lt_of_le h1 h3

theorem dig_toNat {d : Nat} (h : d < 10) : (UInt8.ofNat (48 + d)).toNat = 48 + d := by
  simp; omega
theorem decDigits_small {u : Nat} (h : u < 10) : Lib.decDigits u = [UInt8.ofNat (48 + u)] := by rw [Lib.decDigits, dif_pos h]
theorem decDigits_big {u : Nat} (h : ¬ u < 10) : Lib.decDigits u = Lib.decDigits (u / 10) ++ [UInt8.ofNat (48 + u % 10)] := by rw [Lib.decDigits, dif_neg h]
theorem decDigits_dig (u : Nat) : ∀ c ∈ Lib.decDigits u, isDig c := by
  induction u using Nat.strongRecOn with
  | _ u ih =>
    by_cases h : u < 10
    · rw [decDigits_small h]
      intro c hc
      rw [List.mem_singleton] at hc
      subst hc
      unfold isDig
      rw [dig_toNat h]; omega
    · rw [decDigits_big h]
      intro c hc
      rcases List.mem_append.1 hc with hc | hc
      · exact ih (u / 10) (by omega) c hc
      · rw [List.mem_singleton] at hc
        subst hc
        unfold isDig
        rw [dig_toNat (by omega)]; omega
theorem decDigits_val (u : Nat) : dvf 0 (Lib.decDigits u) = u := by
  induction u using Nat.strongRecOn with
  | _ u ih =>
    by_cases h : u < 10
    · rw [decDigits_small h]
      rw [dvf_cons, dvf_nil, dgv, dig_toNat h]; omega
    · rw [decDigits_big h, dvf_append, ih (u / 10) (by omega)]
      rw [dvf_cons, dvf_nil, dgv, dig_toNat (by omega)]; omega
theorem decDigits_len (u : Nat) : (Lib.decDigits u).length = Lib.nDigits u := by rw [Lib.decDigits_eq]; simp
theorem nDigits_le {u k : Nat} (h : u < 10 ^ (k + 1)) : Lib.nDigits u ≤ k + 1 := by
  induction k generalizing u with
  | zero => rw [Lib.nDigits_small (by simpa using h)]; omega
  | succ k ih =>
    by_cases hu : u < 10
    · rw [Lib.nDigits_small hu]; omega
    · rw [Lib.nDigits_big hu]
      have := ih (u := u / 10) (by rw [Nat.pow_succ] at h; omega)
      omega
theorem decDigits_ne (u : Nat) : Lib.decDigits u ≠ [] := fun h => by
  have h1 := decDigits_len u
  have h2 := Lib.nDigits_pos u
  rw [h] at h1; simp at h1; omega
theorem decDigits_head (u : Nat) : ∃ c r, Lib.decDigits u = c :: r ∧ isDig c := by
  cases h : Lib.decDigits u with
  | nil => exact absurd h (decDigits_ne u)
  | cons c r => exact ⟨c, r, rfl, decDigits_dig u c (by rw [h]; simp)⟩

/-- The digits of a number, none for nought. -/
def digs (u : Nat) : List UInt8 := if u = 0 then [] else Lib.decDigits u
theorem digs_step {u : Nat} (h : u ≠ 0) : digs u = digs (u / 10) ++ [UInt8.ofNat (48 + u % 10)] := by
  unfold digs
  rw [if_neg h]
  by_cases h1 : u < 10
  · rw [decDigits_small h1, if_pos (by omega), List.nil_append, Nat.mod_eq_of_lt h1]
  · rw [decDigits_big h1, if_neg (by omega)]

/-- The number that a text spells, a sign ahead. -/
def sval (l : List UInt8) : Int := if l.head? = some 45 then -(dvf 0 l.tail : Int) else (dvf 0 l : Int)
theorem itoa_neg {n : Int} (h : n < 0) : Lib.itoa n = 45 :: Lib.decDigits n.natAbs := by rw [Lib.itoa, if_pos h]
theorem itoa_pos {n : Int} (h : ¬ n < 0) : Lib.itoa n = Lib.decDigits n.toNat := by rw [Lib.itoa, if_neg h]
theorem dig_ne {c : UInt8} (h : isDig c) : c ≠ 45 := fun e => by rw [e] at h; unfold isDig at h; simp at h
theorem sval_itoa (n : Int) : sval (Lib.itoa n) = n := by
  by_cases h : n < 0
  · rw [itoa_neg h, sval, if_pos (by rfl), List.tail_cons, decDigits_val]; omega
  · rw [itoa_pos h]
    obtain ⟨c, r, e, hc⟩ := decDigits_head n.toNat
    have h1 := decDigits_val n.toNat
    rw [sval, if_neg (by rw [e]; simpa using dig_ne hc), h1]; omega
theorem itoa_inj {n m : Int} (h : Lib.itoa n = Lib.itoa m) : n = m := by rw [← sval_itoa n, h, sval_itoa]

/-- What both parsers of numbers give. -/
def parseW (k : Int) (l : List UInt8) : Int × Bool := if Lib.itoa (sval l) = l ∧ -k ≤ sval l ∧ sval l ≤ k then (sval l, true) else (0, false)
theorem parseW_yes {k : Int} {l : List UInt8} {n : Int} (h : Lib.itoa n = l) (h1 : -k ≤ n) (h2 : n ≤ k) : parseW k l = (n, true) := by
  have e : sval l = n := by rw [← h, sval_itoa]
  rw [parseW, e, if_pos ⟨h, h1, h2⟩]
theorem parseW_no {k : Int} {l : List UInt8} (h : ∀ n, Lib.itoa n = l → ¬ (-k ≤ n ∧ n ≤ k)) : parseW k l = (0, false) := by
  rw [parseW, if_neg fun ⟨h1, h2⟩ => h _ h1 h2]
theorem parseW_true {k : Int} {l : List UInt8} (h : (parseW k l).2 = true) : Lib.itoa (parseW k l).1 = l ∧ -k ≤ (parseW k l).1 ∧ (parseW k l).1 ≤ k := by
  unfold parseW at h ⊢
  split at h
  · rename_i h1; rw [if_pos h1]; exact h1
  · cases h
theorem parseW_cases (k : Int) (l : List UInt8) : (∃ n, Lib.itoa n = l ∧ -k ≤ n ∧ n ≤ k ∧ parseW k l = (n, true)) ∨ ((∀ n, Lib.itoa n = l → ¬ (-k ≤ n ∧ n ≤ k)) ∧ parseW k l = (0, false)) := by
  by_cases h : ∃ n, Lib.itoa n = l ∧ -k ≤ n ∧ n ≤ k
  · obtain ⟨n, h1, h2, h3⟩ := h
    exact .inl ⟨n, h1, h2, h3, parseW_yes h1 h2 h3⟩
  · have h' : ∀ n, Lib.itoa n = l → ¬ (-k ≤ n ∧ n ≤ k) := fun n h1 h2 => h ⟨n, h1, h2⟩
    exact .inr ⟨h', parseW_no h'⟩

/-! ### The library's parser -/
theorem parseUint10_ok : ∀ (l : List UInt8) (a : Nat), (∀ c ∈ l, isDig c) → dvf a l < 18446744073709551616 → Lib.parseUint10 a l = .ok (dvf a l)
  | [], a, _, _ => rfl
  | c :: r, a, h, hl => by
    have hc := h c (by simp)
    have hge := dvf_ge r (a * 10 + dgv c)
    rw [dvf_cons] at hl ⊢
    unfold dgv at hl hge ⊢
    rw [Lib.parseUint10, if_pos (show 48 ≤ c.toNat ∧ c.toNat ≤ 57 from hc), if_neg (by omega), if_neg (by omega)]
    exact parseUint10_ok r _ (fun x hx => h x (List.mem_cons_of_mem _ hx)) hl
theorem atoi_itoa {n : Int} (h0 : -9223372036854775808 ≤ n) (h1 : n ≤ 9223372036854775807) : Lib.atoiAll (Lib.itoa n) = .ok n := by
  by_cases h : n < 0
  · have hp : Lib.parseMag (Lib.decDigits n.natAbs) = .ok n.natAbs := by
      have := parseUint10_ok _ 0 (decDigits_dig n.natAbs) (by rw [decDigits_val]; omega)
      rw [decDigits_val] at this
      rw [Lib.parseMag, if_neg (decDigits_ne _), this]
    rw [itoa_neg h, Lib.atoiAll]
    simp only [show (45 : UInt8).toNat = 45 from rfl, or_true, if_true, hp, not_true_eq_false, false_and, if_false, true_and]
    rw [if_neg (by omega)]
    congr 1; omega
  · have hp : Lib.parseMag (Lib.decDigits n.toNat) = .ok n.toNat := by
      have := parseUint10_ok _ 0 (decDigits_dig n.toNat) (by rw [decDigits_val]; omega)
      rw [decDigits_val] at this
      rw [Lib.parseMag, if_neg (decDigits_ne _), this]
    rw [itoa_pos h]
    obtain ⟨c, r, e, hc⟩ := decDigits_head n.toNat
    rw [e] at hp ⊢
    unfold isDig at hc
    have e1 : ¬ (c.toNat = 43 ∨ c.toNat = 45) := by omega
    have e2 : ¬ c.toNat = 45 := by omega
    have e3 : ¬ 9223372036854775808 ≤ n.toNat := by omega
    have e4 : ((n.toNat : Nat) : Int) = n := by omega
    rw [Lib.atoiAll]
    rw [if_neg e1, hp]
    simp [e2, e3, e4]

/-! ### The reference's reader: at most so many digits -/
theorem natAbs_lt_pow {n : Int} {k : Nat} (h : (Lib.decDigits n.natAbs).length ≤ k) : n.natAbs < 10 ^ k := by
  have h1 := Lib.lt_pow_nDigits n.natAbs
  rw [decDigits_len] at h
  exact Nat.lt_of_lt_of_le h1 (Nat.pow_le_pow_right (by omega) h)

end Go.Proofs.Ytdchckljggjaaaa
