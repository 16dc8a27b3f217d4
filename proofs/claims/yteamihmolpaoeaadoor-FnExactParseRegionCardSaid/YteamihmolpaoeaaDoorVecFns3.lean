/- Contracts of both PrimitiveOf and BeforeVector. Conditions: sizes. -/
import Derived.Test.YteamihmolpaoeaaDoorVecFns2
namespace Go.Proofs.YteamihmolpaoeaaDoor
open Go.RowKit
set_option linter.unusedVariables false
set_option linter.unusedSimpArgs false
set_option maxRecDepth 100000

/-- The numbers divided by g, cut towards nought. -/
def quoW (xs : List Int) (g : Int) : List Int := xs.map fun x => x.tdiv g
theorem quoW_length (xs : List Int) (g : Int) : (quoW xs g).length = xs.length := by simp [quoW]
theorem quoW_nth {xs : List Int} {g : Int} {k : Nat} (h : k < xs.length) : nth (quoW xs g) k = (nth xs k).tdiv g := by
  rw [nth_eq h, nth_eq (by rw [quoW_length]; exact h)]; simp [quoW]

theorem tdiv_in {a g : Int} (h : -1000 ≤ a ∧ a ≤ 1000) : -1000 ≤ a.tdiv g ∧ a.tdiv g ≤ 1000 := by
  have : (a.tdiv g).natAbs ≤ a.natAbs := by rw [Int.natAbs_tdiv]; exact Nat.div_le_self _ _
  omega

def primV (xs : List Int) : List Int × Bool := if isVec xs = true ∧ 1 ≤ gcdL xs then (quoW xs (gcdL xs), true) else ([], false)
theorem primV_len (xs : List Int) : (primV xs).1.length ≤ 3 := by
  unfold primV
  split
  · rename_i h; simp only [quoW_length]; exact (isVec_len h.1).2
  · simp

/-- The order of numbers, as the library tells it. -/
def cmpI (a b : Int) : Int := if a < b then -1 else if b < a then 1 else 0

theorem isNaN_any (a : Int) (w : World) : Calls Tryd.prog 81 #[.int .i64 a] w fun e w' => e = .returned (.bool false) ∧ w = w' := by
  go_enter Tryd.func81, Tryd.ntmps81
  go_wp2
  go_ret
  exact ⟨ret_bool (by simp), rfl⟩

theorem cmpCompare_any (a b : Int) (w : World) : Calls Tryd.prog 67 #[.int .i64 a, .int .i64 b] w fun e w' => e = .returned (.int .i64 (cmpI a b)) ∧ w = w' := by
  by_cases h1 : a < b
  · go_enter Tryd.func67, Tryd.ntmps67
    go_wp2_with (go_at_call 81; (with_reducible refine (isNaN_any _ _).mono ?_); rintro e w' ⟨rfl, rfl⟩)
    go_ret
    exact ⟨ret_int (by simp [cmpI, h1]), rfl⟩
  · by_cases h2 : b < a
    · go_enter Tryd.func67, Tryd.ntmps67
      go_wp2_with (go_at_call 81; (with_reducible refine (isNaN_any _ _).mono ?_); rintro e w' ⟨rfl, rfl⟩)
      go_ret
      exact ⟨ret_int (by simp [cmpI, h1, h2]), rfl⟩
    · go_enter Tryd.func67, Tryd.ntmps67
      go_wp2_with (go_at_call 81; (with_reducible refine (isNaN_any _ _).mono ?_); rintro e w' ⟨rfl, rfl⟩)
      go_ret
      exact ⟨ret_int (by unfold cmpI; rw [if_neg (by omega), if_neg (by omega)]), rfl⟩

/-- The order of lists of numbers. -/
def cmpL : List Int → List Int → Int
  | x :: xs, y :: ys => if cmpI x y = 0 then cmpL xs ys else cmpI x y
  | [], _ :: _ => -1
  | _ :: _, [] => 1
  | [], [] => 0

theorem cmpI_self (a : Int) : cmpI a a = 0 := by unfold cmpI; rw [if_neg (by omega), if_neg (by omega)]
theorem cmpI_ne {a b : Int} (h : cmpI a b = 0) : a = b := by
  unfold cmpI at h
  split at h
  · omega
  · split at h <;> omega
theorem cmpL_step {xs ys : List Int} {k : Nat} (h : k < xs.length) (h' : k < ys.length) (he : cmpI (nth xs k) (nth ys k) = 0) : cmpL (xs.drop k) (ys.drop k) = cmpL (xs.drop (k + 1)) (ys.drop (k + 1)) := by
  rw [drop_nth h, drop_nth h', cmpL, if_pos he]
theorem cmpL_stop {xs ys : List Int} {k : Nat} (h : k < xs.length) (h' : k < ys.length) (he : ¬ cmpI (nth xs k) (nth ys k) = 0) : cmpL (xs.drop k) (ys.drop k) = cmpI (nth xs k) (nth ys k) := by
  rw [drop_nth h, drop_nth h', cmpL, if_neg he]

theorem slicesCompare_any (p q : Option Addr) (n c d : Nat) (xs ys : List Int) (w : World) (hn : n ≤ 9223372036854775807) (hx : Ints w p n xs) (hy : Ints w q n ys) :
    Calls Tryd.prog 50 #[.slice p n c, .slice q n d] w fun e w' => e = .returned (.int .i64 (cmpL xs ys)) ∧ w = w' := by
  have hl := Lib.hid hx.len
  have hl2 := Lib.hid hy.len
  go_enter Tryd.func50, Tryd.ntmps50
  go_wp2
  go_loop [11] (fun i => ∃ k : Nat, k ≤ n ∧ i = .int .i64 k ∧ Hid (cmpL (xs.drop k) (ys.drop k) = cmpL xs ys)) (fun i => n - (intOf i).toNat)
  case atStart => exact ⟨0, Nat.zero_le _, rfl, rfl⟩
  case round =>
    obtain ⟨k, hk, rfl, hcm⟩ := hrel
    by_cases hlt : k < n
    · obtain ⟨b, o, rfl, hc⟩ := hx.cell k hlt
      obtain ⟨b2, o2, rfl, hc2⟩ := hy.cell k hlt
      by_cases h0 : cmpI (nth xs k) (nth ys k) = 0
      · have h0' : (cmpI (nth xs k) (nth ys k) != 0) = false := by simp [h0]
        have H0 := Lib.hid h0
        clear h0
        go_wp2_with (go_at_call 67; (with_reducible refine (cmpCompare_any _ _ _).mono ?_); rintro e w' ⟨rfl, rfl⟩)
        go_round
        case rel => exact ⟨k + 1, by omega, by go_num, (cmpL_step (by rw [hl.out]; exact hlt) (by rw [hl2.out]; exact hlt) H0.out).symm.trans hcm.out⟩
        case measure => simp [intOf]; omega
      · have h0' : (cmpI (nth xs k) (nth ys k) != 0) = true := by simp [h0]
        have H0 := Lib.hid h0
        clear h0
        go_wp2_with (go_at_call 67; (with_reducible refine (cmpCompare_any _ _ _).mono ?_); rintro e w' ⟨rfl, rfl⟩)
        go_ret
        exact ⟨ret_int ((cmpL_stop (by rw [hl.out]; exact hlt) (by rw [hl2.out]; exact hlt) H0.out).symm.trans hcm.out), rfl⟩
    · go_wp2
      go_ret
      refine ⟨ret_int ?_, rfl⟩
      have := hcm.out
      rw [List.drop_eq_nil_of_le (by have := hl.out; omega), List.drop_eq_nil_of_le (by have := hl2.out; omega)] at this
      exact this

/-- The first list comes before the second. -/
def befL (xs ys : List Int) : Bool := decide (cmpL xs ys < 0)

theorem l2Before_any (p q : Option Addr) (n c d : Nat) (xs ys : List Int) (w : World) (hn : n ≤ 9223372036854775807) (hx : Ints w p n xs) (hy : Ints w q n ys) :
    Calls Tryd.prog 79 #[.slice p n c, .slice q n d] w fun e w' => e = .returned (.bool (befL xs ys)) ∧ ∃ z, w' = w.drewN z := by
  have hl := Lib.hid hx.len
  have hl2 := Lib.hid hy.len
  go_enter Tryd.func79, Tryd.ntmps79
  go_wp2
  go_loopw [5] (fun i wr => ∃ k : Nat, k ≤ n ∧ i = .int .i64 k ∧ Hid (cmpL (xs.drop k) (ys.drop k) = cmpL xs ys) ∧ ∃ z, wr = w.drewN z) (fun i _ => n - (intOf i).toNat)
  case atStart => exact ⟨0, Nat.zero_le _, rfl, rfl, 0, rfl⟩
  case round =>
    obtain ⟨k, hk, rfl, hcm, z, rfl⟩ := hrel
    by_cases hlt : k < n
    · obtain ⟨b, o, rfl, hc⟩ := hx.cell k hlt
      obtain ⟨b2, o2, rfl, hc2⟩ := hy.cell k hlt
      by_cases h0 : cmpI (nth xs k) (nth ys k) = 0
      · have h0' : (nth xs k != nth ys k) = false := by simp [cmpI_ne h0]
        have H0 := Lib.hid h0
        clear h0
        go_wp2
        go_quiet (fail)
        go_wp2
        go_roundw
        case rel => exact ⟨k + 1, by omega, by go_num, (cmpL_step (by rw [hl.out]; exact hlt) (by rw [hl2.out]; exact hlt) H0.out).symm.trans hcm.out, by first | exact ⟨_, rfl⟩ | exact drew2 _ _ _ | exact drew3 _ _ _ _⟩
        case measure => simp [intOf]; omega
      · have h0' : (nth xs k != nth ys k) = true := by
          simp only [bne_iff_ne, ne_eq]
          intro h; rw [h, cmpI_self] at h0; exact h0 rfl
        have H0 := Lib.hid h0
        clear h0
        go_wp2
        go_quiet (fail)
        go_wp2
        go_quiet (fail)
        go_wp2
        go_ret
        refine ⟨ret_bool ?_, by first | exact ⟨_, rfl⟩ | exact drew2 _ _ _ | exact drew3 _ _ _ _⟩
        unfold befL
        rw [← hcm.out, cmpL_stop (by rw [hl.out]; exact hlt) (by rw [hl2.out]; exact hlt) H0.out]
        have := H0.out
        unfold cmpI at this ⊢
        split <;> simp_all <;> omega
    · go_wp2
      go_ret
      refine ⟨ret_bool ?_, _, rfl⟩
      have := hcm.out
      rw [List.drop_eq_nil_of_le (by have := hl.out; omega), List.drop_eq_nil_of_le (by have := hl2.out; omega)] at this
      unfold befL
      rw [← this]
      rfl

def befV (xs ys : List Int) : Bool := isVec xs && (isVec ys && (decide (xs.length = ys.length) && befL xs ys))

end Go.Proofs.YteamihmolpaoeaaDoor
