/- Plain laws of the Hermite form as the program and the reference reckon it. Conditions: none. -/
import Derived.Test.YtdchckljggjaaaaDetOf
namespace Go.Proofs.Ytdchckljggjaaaa
open Go.RowKit
set_option linter.unusedVariables false
set_option linter.unusedSimpArgs false
set_option maxRecDepth 100000

def ent (M : List (List Int)) (r c : Nat) : Int := nth (nthR M r) c
/-- A row less a multiple of another one. -/
def subRow (x : List Int) (q : Int) (y : List Int) : List Int := (List.range x.length).map fun j => wrap64 (nth x j - wrap64 (q * nth y j))
theorem subRow_length (x : List Int) (q : Int) (y : List Int) : (subRow x q y).length = x.length := by simp [subRow]
theorem subRow_nth {x : List Int} {q : Int} {y : List Int} {j : Nat} (h : j < x.length) : nth (subRow x q y) j = wrap64 (nth x j - wrap64 (q * nth y j)) := by
  rw [nth_eq (by rw [subRow_length]; exact h)]; simp [subRow]

theorem nthR_set {M : List (List Int)} {i r : Nat} (x : List Int) (h : i < M.length) : nthR (M.set i x) r = if i = r then x else nthR M r := by
  by_cases hr : r < M.length
  · rw [nthR_eq (by simpa using hr), nthR_eq hr, List.getElem_set]
  · rw [if_neg (by omega)]
    simp [nthR, List.getD, List.getElem?_eq_none (show M.length ≤ r by omega), List.getElem?_eq_none (show (M.set i x).length ≤ r by simp; omega)]

/-- A number that an int holds. -/
def In64 (x : Int) : Prop := -9223372036854775808 ≤ x ∧ x ≤ 9223372036854775807
theorem In64.wrap (x : Int) : In64 (wrap64 x) := wrap64_range x
theorem In64.id {x : Int} (h : In64 x) : wrap64 x = x := wrap64_id h.1 h.2

structure Good (n : Nat) (M : List (List Int)) : Prop where
  sq : Sq n M
  rng : ∀ r c, r < n → c < n → In64 (ent M r c)

def qOf (a b : Int) : Int := wrap64 (a.tdiv b)
def stepH (c r : Nat) (M : List (List Int)) : List (List Int) := (M.set c (nthR M r)).set r (subRow (nthR M c) (qOf (ent M c c) (ent M r c)) (nthR M r))
def elimH (c r : Nat) : Nat → List (List Int) → List (List Int)
  | 0, M => M
  | f + 1, M => if ent M r c = 0 then M else elimH c r f (stepH c r M)
def elimA (c r : Nat) (M : List (List Int)) : List (List Int) := elimH c r ((ent M r c).natAbs + 1) M
/-- A quotient rounded down. -/
def floorW (a b : Int) : Int := if a.tmod b < 0 then wrap64 (qOf a b - 1) else qOf a b
def negH (c : Nat) (M : List (List Int)) : List (List Int) := M.set c (subRow (nthR M c) 2 (nthR M c))
def negIf (c : Nat) (M : List (List Int)) : List (List Int) := if ent M c c < 0 then negH c M else M
def redH (c i : Nat) (M : List (List Int)) : List (List Int) := M.set i (subRow (nthR M i) (floorW (ent M i c) (ent M c c)) (nthR M c))
def elimsTo (c : Nat) (M : List (List Int)) : Nat → List (List Int)
  | 0 => M
  | d + 1 => elimA c (c + 1 + d) (elimsTo c M d)
def redTo (c : Nat) (M : List (List Int)) : Nat → List (List Int)
  | 0 => M
  | i + 1 => redH c i (redTo c M i)
def colH (n c : Nat) (M : List (List Int)) : List (List Int) := redTo c (negIf c (elimsTo c M (n - 1 - c))) c
def hermTo (n : Nat) (M : List (List Int)) : Nat → List (List Int)
  | 0 => M
  | c + 1 => colH n c (hermTo n M c)
def hermW (M : List (List Int)) : List (List Int) := hermTo M.length M M.length

theorem ent_set {M : List (List Int)} {i r c : Nat} (x : List Int) (h : i < M.length) : ent (M.set i x) r c = if i = r then nth x c else ent M r c := by
  rw [ent, nthR_set x h]; split <;> rfl
theorem Sq.set {n : Nat} {M : List (List Int)} (h : Sq n M) {i : Nat} {x : List Int} (hi : i < n) (hx : x.length = n) : Sq n (M.set i x) :=
  ⟨by simpa using h.1, fun k hk => by rw [nthR_set x (by rw [h.1]; exact hi)]; split; exact hx; exact h.2 k hk⟩
theorem ent_stepH {n : Nat} {M : List (List Int)} (h : Sq n M) {c r i j : Nat} (hc : c < n) (hr : r < n) (hj : j < n) :
    ent (stepH c r M) i j = if r = i then wrap64 (ent M c j - wrap64 (qOf (ent M c c) (ent M r c) * ent M r j)) else if c = i then ent M r j else ent M i j := by
  unfold stepH
  rw [ent_set _ (by rw [List.length_set, h.1]; exact hr), subRow_nth (by rw [h.2 c hc]; exact hj), ent_set _ (by rw [h.1]; exact hc)]
  rfl
theorem ent_negH {n : Nat} {M : List (List Int)} (h : Sq n M) {c i j : Nat} (hc : c < n) (hj : j < n) :
    ent (negH c M) i j = if c = i then wrap64 (ent M c j - wrap64 (2 * ent M c j)) else ent M i j := by
  unfold negH
  rw [ent_set _ (by rw [h.1]; exact hc), subRow_nth (by rw [h.2 c hc]; exact hj)]
  rfl
theorem ent_redH {n : Nat} {M : List (List Int)} (h : Sq n M) {c t i j : Nat} (ht : t < n) (hj : j < n) :
    ent (redH c t M) i j = if t = i then wrap64 (ent M t j - wrap64 (floorW (ent M t c) (ent M c c) * ent M c j)) else ent M i j := by
  unfold redH
  rw [ent_set _ (by rw [h.1]; exact ht), subRow_nth (by rw [h.2 t ht]; exact hj)]
  rfl

theorem Good.stepH {n : Nat} {M : List (List Int)} (h : Good n M) {c r : Nat} (hc : c < n) (hr : r < n) : Good n (stepH c r M) := by
  refine ⟨(h.sq.set hc (h.sq.2 r hr)).set hr (by rw [subRow_length]; exact h.sq.2 c hc), fun i j hi hj => ?_⟩
  rw [ent_stepH h.sq hc hr hj]
  split
  · exact In64.wrap _
  · split
    · exact h.rng _ _ hr hj
    · exact h.rng _ _ hi hj
theorem Good.negH {n : Nat} {M : List (List Int)} (h : Good n M) {c : Nat} (hc : c < n) : Good n (negH c M) := by
  refine ⟨h.sq.set hc (by rw [subRow_length]; exact h.sq.2 c hc), fun i j hi hj => ?_⟩
  rw [ent_negH h.sq hc hj]
  split
  · exact In64.wrap _
  · exact h.rng _ _ hi hj
theorem Good.redH {n : Nat} {M : List (List Int)} (h : Good n M) {c t : Nat} (ht : t < n) : Good n (redH c t M) := by
  refine ⟨h.sq.set ht (by rw [subRow_length]; exact h.sq.2 t ht), fun i j hi hj => ?_⟩
  rw [ent_redH h.sq ht hj]
  split
  · exact In64.wrap _
  · exact h.rng _ _ hi hj

/-- What is left of a division. -/
theorem left_tmod {a b : Int} (hb : In64 b) (h0 : b ≠ 0) : wrap64 (a - wrap64 (qOf a b * b)) = a.tmod b := by
  rw [wrap64_sub_r, qOf]
  have h1 : wrap64 (a - wrap64 (a.tdiv b) * b) = wrap64 (a - a.tdiv b * b) := by
    rw [← wrap64_sub_r, wrap64_mul_l, wrap64_sub_r]
  rw [h1]
  have h2 : a - a.tdiv b * b = a.tmod b := by
    have := Int.mul_tdiv_add_tmod a b
    rw [Int.mul_comm] at this
    omega
  rw [h2]
  have h3 : (a.tmod b).natAbs < b.natAbs := by
    rw [Int.natAbs_tmod]
    exact Nat.mod_lt _ (by omega)
  unfold In64 at hb
  exact wrap64_id (by omega) (by omega)
theorem tmod_abs {a b : Int} (h0 : b ≠ 0) : (a.tmod b).natAbs < b.natAbs := by
  rw [Int.natAbs_tmod]
  exact Nat.mod_lt _ (by omega)
theorem stepH_less {n : Nat} {M : List (List Int)} (h : Good n M) {c r : Nat} (hc : c < n) (hr : r < n) (h0 : ent M r c ≠ 0) : (ent (stepH c r M) r c).natAbs < (ent M r c).natAbs := by
  rw [ent_stepH h.sq hc hr hc, if_pos rfl, left_tmod (h.rng r c hr hc) h0]
  exact tmod_abs h0

theorem elimH_fuel {n c r : Nat} (hc : c < n) (hr : r < n) : ∀ (f f' : Nat) (M : List (List Int)), Good n M → (ent M r c).natAbs < f → (ent M r c).natAbs < f' → elimH c r f M = elimH c r f' M := by
  intro f
  induction f with
  | zero => intro f' M _ h _; omega
  | succ f ih =>
    intro f' M hG h1 h2
    cases f' with
    | zero => omega
    | succ f' =>
      simp only [elimH]
      split
      · rfl
      · rename_i h0
        have := stepH_less hG hc hr h0
        exact ih f' _ (hG.stepH hc hr) (by omega) (by omega)
theorem elimA_done {c r : Nat} {M : List (List Int)} (h : ent M r c = 0) : elimA c r M = M := by simp [elimA, elimH, h]
theorem elimA_step {n c r : Nat} {M : List (List Int)} (hG : Good n M) (hc : c < n) (hr : r < n) (h : ent M r c ≠ 0) : elimA c r M = elimA c r (stepH c r M) := by
  have := stepH_less hG hc hr h
  rw [elimA, elimH, if_neg h, elimA]
  exact elimH_fuel hc hr _ _ _ (hG.stepH hc hr) (by omega) (by omega)

/-- The determinant, not wrapped. -/
def dp (n : Nat) (M : List (List Int)) : Int :=
  if n = 1 then ent M 0 0 else if n = 2 then ent M 0 0 * ent M 1 1 - ent M 0 1 * ent M 1 0 else
  ent M 0 0 * (ent M 1 1 * ent M 2 2 - ent M 1 2 * ent M 2 1) - ent M 0 1 * (ent M 1 0 * ent M 2 2 - ent M 1 2 * ent M 2 0) + ent M 0 2 * (ent M 1 0 * ent M 2 1 - ent M 1 1 * ent M 2 0)

theorem cong_row (x q y : Int) : ∃ k, wrap64 (x - wrap64 (q * y)) = x - q * y + 18446744073709551616 * k := by
  rw [wrap64_sub_r]
  obtain ⟨k, hk⟩ := wrap64_dvd (x - q * y)
  exact ⟨k, by omega⟩

end Go.Proofs.Ytdchckljggjaaaa
