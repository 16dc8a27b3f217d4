/- Contracts of both PrimitiveOf and BeforeVector. Conditions: sizes. -/
import Derived.Test.YteamihmolpaoeaaGreatDoorVecFns2
namespace Go.Proofs.YteamihmolpaoeaaGreatDoor
open Go.RowKit
set_option linter.unusedVariables false
set_option linter.unusedSimpArgs false
set_option maxRecDepth 100000

/-- The numbers divided by g, cut towards nought. -/
def quoW (xs : List Int) (g : Int) : List Int := xs.map fun x => x.tdiv g
theorem quoW_length (xs : List Int) (g : Int) : (quoW xs g).length = xs.length := by simp [quoW]
theorem quoW_nth {xs : List Int} {g : Int} {k : Nat} (h : k < xs.length) : nth (quoW xs g) k = (nth xs k).tdiv g := by
  rw [nth_eq h, nth_eq (by rw [quoW_length]; exact h)]; simp [quoW]

theorem tdiv_in {a g : Int} (h : -1000 ≤ a ∧ a ≤ 1000) : -1000 ≤ a.tdiv g ∧ a.tdiv g ≤ 1000 := by
  have : (a.tdiv g).natAbs ≤ a.natAbs := by rw [Int.natAbs_tdiv]; exact Nat.div_le_self _ _
  omega

theorem l2Prime_any (p : Option Addr) (n c : Nat) (xs : List Int) (w : World) (hn : n ≤ 17592186040000) (hx : Ints w p n xs) (hv : isVec xs = true) (hg : 1 ≤ gcdL xs) :
    Calls Tryz.prog 37 #[.slice p n c] w (NewInts w n (quoW xs (gcdL xs))) := by
  have hl := Lib.hid hx.len
  have hl3 := Lib.hid (quoW_length xs (gcdL xs))
  have hB := Lib.hid (isVec_in62 hv)
  have hA := Lib.hid (isVec_all hv)
  have hg' : ¬ gcdL xs < 1 := by omega
  have hgm := Lib.hid (show max (gcdL xs) 1 = gcdL xs by omega)
  clear hv
  go_enter Tryz.func37, Tryz.ntmps37
  go_wp2_with (go_at_call 51; (with_reducible refine (l2All_any _ _ _ _ _ (by omega) hx hB.out).mono ?_); rintro e w' ⟨rfl, rfl⟩)
  generalize hG : gcdL xs = G at *
  have HG := Lib.hid hG
  clear hG
  have hne : ¬ G = 0 := by omega
  go_loopw [4, 5] (fun v i wr => ∃ (k : Nat) (p' : Option Addr) (c' : Nat), k ≤ n ∧ i = .int .i64 k ∧ v = .slice p' k c' ∧ Own wr w.heap.size wr.heap.size p' k c' ((quoW xs G).take k) ∧ Below w.heap.size w wr) (fun _ i _ => n - (intOf i).toNat)
  case atStart => exact ⟨0, _, _, Nat.zero_le _, rfl, rfl, (Own.empty w).up, (Below.refl _ _).alloc (Nat.le_refl _) _⟩
  case round =>
    obtain ⟨k, p', c', hk, rfl, rfl, hown, hb⟩ := hrel
    by_cases hlt : k < n
    · obtain ⟨b, o, rfl, hc⟩ := (hx.below hb).cell k hlt
      have ha := hA.out k (by rw [hl.out]; exact hlt)
      have hd := tdiv_in (g := G) ha
      go_wp2
      go_region_law (first | (refine step_append_int rfl (.tmp 15) (.tmp 23) rfl _ w.heap.size _ _ _ _ _ rfl (hown.alloc _).drew wr.heap.size _ rfl (cellNewD _ _ _) (by omega) (sizeNewD hb _) ?_; intro p2 c2 w2 hown2 hg2) | (go_simp; go_at_call 61; refine (l1Max_any _ _ _).mono ?_; rintro e w' ⟨rfl, rfl⟩; rw [hgm.out]))
      all_goals
        have hb2 := hg2.belowO ((hown.alloc _).drew) (sizeNewD hb _)
        go_wp2
        go_roundw
        case rel =>
          refine ⟨k + 1, _, _, by omega, by go_num, rfl, ?_, Below.newD hb _ hb2⟩
          rw [take_nth (by have := hl.out; have := hl3.out; omega), quoW_nth (by rw [hl.out]; exact hlt)]
          rw [IntWalk.i64_in _ (by omega)] at hown2
          exact hown2
        case measure => simp [intOf]; omega
    · go_wp2
      go_ret
      obtain rfl : k = n := by omega
      refine ⟨_, _, rfl, ?_, hb⟩
      rw [List.take_of_length_le (by have := hl.out; have := hl3.out; omega)] at hown
      exact hown

def primV (xs : List Int) : List Int × Bool := if isVec xs = true ∧ 1 ≤ gcdL xs then (quoW xs (gcdL xs), true) else ([], false)
theorem primV_len (xs : List Int) : (primV xs).1.length ≤ 3 := by
  unfold primV
  split
  · rename_i h; simp only [quoW_length]; exact (isVec_len h.1).2
  · simp

theorem specPrimitive_any (p : Option Addr) (n c : Nat) (xs : List Int) (w : World) (hn : n ≤ 17592186040000) (hx : Ints w p n xs) :
    Calls Tryz.prog 8 #[.slice p n c] w (NewIB w (primV xs)) := by
  by_cases h1 : isVec xs = true ∧ 1 ≤ gcdL xs
  · have H : Hid (primV xs = (quoW xs (gcdL xs), true)) := by show _ = _; simp [primV, h1]
    have hg : Hid (gcdV xs = gcdL xs) := by show _ = _; simp [gcdV, h1]
    have hv := Lib.hid h1.1
    have hg1 := h1.2
    clear h1
    have hng : ¬ gcdV xs < 1 := by rw [hg.out]; omega
    go_enter Tryz.func8, Tryz.ntmps8
    go_wp2_with (first | (go_at_call 19; (with_reducible refine (specGcdOf_any _ _ _ _ _ (by omega) hx).mono ?_); rintro e w' ⟨rfl, rfl⟩) | (go_at_call 37; (with_reducible refine (l2Prime_any _ _ _ _ _ hn hx hv.out hg1).mono ?_); rintro e w1 ⟨p1, c1, rfl, ho1, hb1⟩))
    go_ret2
    rw [H.out]
    exact Own.into ho1 hb1
  · have H : Hid (primV xs = ([], false)) := by show _ = _; simp [primV, h1]
    have hng : gcdV xs < 1 := by
      unfold gcdV
      split
      · rename_i h; have : ¬ 1 ≤ gcdL xs := fun h2 => h1 ⟨h, h2⟩; omega
      · omega
    clear h1
    go_enter Tryz.func8, Tryz.ntmps8
    go_wp2_with (go_at_call 19; (with_reducible refine (specGcdOf_any _ _ _ _ _ (by omega) hx).mono ?_); rintro e w' ⟨rfl, rfl⟩)
    go_ret2
    rw [H.out]
    exact NewIB.empty (Below.refl _ _)

theorem implPrimitive_any (p : Option Addr) (n c : Nat) (xs : List Int) (w : World) (hn : n ≤ 17592186040000) (hx : Ints w p n xs) :
    Calls Tryz.prog 7 #[.slice p n c] w (NewIB w (primV xs)) := by
  have hl := Lib.hid hx.len
  by_cases h1 : isVec xs = true ∧ 1 ≤ gcdL xs
  · have H : Hid (primV xs = (quoW xs (gcdL xs), true)) := by show _ = _; simp [primV, h1]
    have hg : Hid (gcdV xs = gcdL xs) := by show _ = _; simp [gcdV, h1]
    have hA := Lib.hid (isVec_all h1.1)
    have hl3 := Lib.hid (quoW_length xs (gcdL xs))
    have hg1 := h1.2
    clear h1
    have hng : ¬ gcdV xs ≤ 0 := by rw [hg.out]; omega
    go_enter Tryz.func7, Tryz.ntmps7
    go_wp2_with (first | (go_at_call 6; (with_reducible refine (implGcdOf_any _ _ _ _ _ (by omega) hx).mono ?_); rintro e w' ⟨rfl, z, rfl⟩) | (go_at_call 36; (with_reducible refine (copyInts_any _ _ _ _ _ hn (hx.drewN _)).mono ?_); rintro e w1 ⟨p1, c1, rfl, ho1, hb1⟩))
    rw [hg.out]
    generalize hG : gcdL xs = G at *
    have HG := Lib.hid hG
    clear hG
    have hne : ¬ G = 0 := by omega
    have hb1' : Below w.heap.size w w1 := (Below.drawn (Below.refl _ _) z).trans hb1
    have ho1' : Own w1 w.heap.size w1.heap.size p1 n c1 xs := ho1
    clear hb1 ho1
    go_loopw [15] (fun i wr => ∃ k : Nat, k ≤ n ∧ i = .int .i64 k ∧ Own wr w.heap.size wr.heap.size p1 n c1 (mix (quoW xs G) xs k) ∧ Below w.heap.size w wr) (fun i _ => n - (intOf i).toNat)
    case atStart => exact ⟨0, Nat.zero_le _, rfl, by rw [mix_zero]; exact ho1', hb1'⟩
    case round =>
      obtain ⟨k, hk, rfl, hown, hb⟩ := hrel
      by_cases hlt : k < n
      · rcases hown.form with ⟨_, rfl, _⟩ | ⟨g, rfl, hg1, hg2, hg3, _⟩
        · omega
        have hc2 := hown.cell hlt
        rw [mix_nth (by have := hl.out; have := hl3.out; omega)] at hc2
        have hf2 := hown.frozen k
        have ha := hA.out k (by rw [hl.out]; exact hlt)
        have hd := tdiv_in (g := G) ha
        go_wp2
        go_roundw
        case rel =>
          refine ⟨k + 1, by omega, by go_num, ?_, hb.setCell hg1 _⟩
          have h2 := hown.set k (nth (quoW xs G) k)
          rw [mix_set (by have := hl.out; have := hl3.out; omega) (by rw [hl.out]; exact hlt)] at h2
          rw [quoW_nth (by rw [hl.out]; exact hlt)] at h2
          exact h2.up
        case measure => simp [intOf]; omega
      · obtain rfl : k = n := by omega
        rw [mix_all (by have := hl.out; have := hl3.out; omega) (by rw [hl.out]; exact Nat.le_refl _)] at hown
        go_wp2
        go_ret2
        rw [H.out]
        exact Own.into hown hb
  · have H : Hid (primV xs = ([], false)) := by show _ = _; simp [primV, h1]
    have hng : gcdV xs ≤ 0 := by
      unfold gcdV
      split
      · rename_i h; have : ¬ 1 ≤ gcdL xs := fun h2 => h1 ⟨h, h2⟩; omega
      · omega
    clear h1
    go_enter Tryz.func7, Tryz.ntmps7
    go_wp2_with (go_at_call 6; (with_reducible refine (implGcdOf_any _ _ _ _ _ (by omega) hx).mono ?_); rintro e w' ⟨rfl, z, rfl⟩)
    go_ret2
    rw [H.out]
    exact ⟨_, _, _, rfl, Own.nil _ _ _, Below.drawn (Below.refl _ _) z⟩

/-- The order of numbers, as the library tells it. -/
def cmpI (a b : Int) : Int := if a < b then -1 else if b < a then 1 else 0

theorem isNaN_any (a : Int) (w : World) : Calls Tryz.prog 78 #[.int .i64 a] w fun e w' => e = .returned (.bool false) ∧ w = w' := by
  go_enter Tryz.func78, Tryz.ntmps78
  go_wp2
  go_ret
  exact ⟨ret_bool (by simp), rfl⟩

theorem cmpCompare_any (a b : Int) (w : World) : Calls Tryz.prog 68 #[.int .i64 a, .int .i64 b] w fun e w' => e = .returned (.int .i64 (cmpI a b)) ∧ w = w' := by
  by_cases h1 : a < b
  · go_enter Tryz.func68, Tryz.ntmps68
    go_wp2_with (go_at_call 78; (with_reducible refine (isNaN_any _ _).mono ?_); rintro e w' ⟨rfl, rfl⟩)
    go_ret
    exact ⟨ret_int (by simp [cmpI, h1]), rfl⟩
  · by_cases h2 : b < a
    · go_enter Tryz.func68, Tryz.ntmps68
      go_wp2_with (go_at_call 78; (with_reducible refine (isNaN_any _ _).mono ?_); rintro e w' ⟨rfl, rfl⟩)
      go_ret
      exact ⟨ret_int (by simp [cmpI, h1, h2]), rfl⟩
    · go_enter Tryz.func68, Tryz.ntmps68
      go_wp2_with (go_at_call 78; (with_reducible refine (isNaN_any _ _).mono ?_); rintro e w' ⟨rfl, rfl⟩)
      go_ret
      exact ⟨ret_int (by unfold cmpI; rw [if_neg (by omega), if_neg (by omega)]), rfl⟩

/-- The order of lists of numbers. -/
def cmpL : List Int → List Int → Int
  | x :: xs, y :: ys => if cmpI x y = 0 then cmpL xs ys else cmpI x y
  | [], _ :: _ => -1
  | _ :: _, [] => 1
  | [], [] => 0

theorem cmpI_self (a : Int) : cmpI a a = 0 := by unfold cmpI; rw [if_neg (by omega), if_neg (by omega)]
theorem cmpI_ne {a b : Int} (h : cmpI a b = 0) : a = b := by
  unfold cmpI at h
  split at h
  · omega
  · split at h <;> omega
theorem cmpL_step {xs ys : List Int} {k : Nat} (h : k < xs.length) (h' : k < ys.length) (he : cmpI (nth xs k) (nth ys k) = 0) : cmpL (xs.drop k) (ys.drop k) = cmpL (xs.drop (k + 1)) (ys.drop (k + 1)) := by
  rw [drop_nth h, drop_nth h', cmpL, if_pos he]
theorem cmpL_stop {xs ys : List Int} {k : Nat} (h : k < xs.length) (h' : k < ys.length) (he : ¬ cmpI (nth xs k) (nth ys k) = 0) : cmpL (xs.drop k) (ys.drop k) = cmpI (nth xs k) (nth ys k) := by
  rw [drop_nth h, drop_nth h', cmpL, if_neg he]

theorem slicesCompare_any (p q : Option Addr) (n c d : Nat) (xs ys : List Int) (w : World) (hn : n ≤ 9223372036854775807) (hx : Ints w p n xs) (hy : Ints w q n ys) :
    Calls Tryz.prog 52 #[.slice p n c, .slice q n d] w fun e w' => e = .returned (.int .i64 (cmpL xs ys)) ∧ w = w' := by
  have hl := Lib.hid hx.len
  have hl2 := Lib.hid hy.len
  go_enter Tryz.func52, Tryz.ntmps52
  go_wp2
  go_loop [11] (fun i => ∃ k : Nat, k ≤ n ∧ i = .int .i64 k ∧ Hid (cmpL (xs.drop k) (ys.drop k) = cmpL xs ys)) (fun i => n - (intOf i).toNat)
  case atStart => exact ⟨0, Nat.zero_le _, rfl, rfl⟩
  case round =>
    obtain ⟨k, hk, rfl, hcm⟩ := hrel
    by_cases hlt : k < n
    · obtain ⟨b, o, rfl, hc⟩ := hx.cell k hlt
      obtain ⟨b2, o2, rfl, hc2⟩ := hy.cell k hlt
      by_cases h0 : cmpI (nth xs k) (nth ys k) = 0
      · have h0' : (cmpI (nth xs k) (nth ys k) != 0) = false := by simp [h0]
        have H0 := Lib.hid h0
        clear h0
        go_wp2_with (go_at_call 68; (with_reducible refine (cmpCompare_any _ _ _).mono ?_); rintro e w' ⟨rfl, rfl⟩)
        go_round
        case rel => exact ⟨k + 1, by omega, by go_num, (cmpL_step (by rw [hl.out]; exact hlt) (by rw [hl2.out]; exact hlt) H0.out).symm.trans hcm.out⟩
        case measure => simp [intOf]; omega
      · have h0' : (cmpI (nth xs k) (nth ys k) != 0) = true := by simp [h0]
        have H0 := Lib.hid h0
        clear h0
        go_wp2_with (go_at_call 68; (with_reducible refine (cmpCompare_any _ _ _).mono ?_); rintro e w' ⟨rfl, rfl⟩)
        go_ret
        exact ⟨ret_int ((cmpL_stop (by rw [hl.out]; exact hlt) (by rw [hl2.out]; exact hlt) H0.out).symm.trans hcm.out), rfl⟩
    · go_wp2
      go_ret
      refine ⟨ret_int ?_, rfl⟩
      have := hcm.out
      rw [List.drop_eq_nil_of_le (by have := hl.out; omega), List.drop_eq_nil_of_le (by have := hl2.out; omega)] at this
      exact this

/-- The first list comes before the second. -/
def befL (xs ys : List Int) : Bool := decide (cmpL xs ys < 0)

theorem l2Before_any (p q : Option Addr) (n c d : Nat) (xs ys : List Int) (w : World) (hn : n ≤ 9223372036854775807) (hx : Ints w p n xs) (hy : Ints w q n ys) :
    Calls Tryz.prog 53 #[.slice p n c, .slice q n d] w fun e w' => e = .returned (.bool (befL xs ys)) ∧ ∃ z, w' = w.drewN z := by
  have hl := Lib.hid hx.len
  have hl2 := Lib.hid hy.len
  go_enter Tryz.func53, Tryz.ntmps53
  go_wp2
  go_loopw [5] (fun i wr => ∃ k : Nat, k ≤ n ∧ i = .int .i64 k ∧ Hid (cmpL (xs.drop k) (ys.drop k) = cmpL xs ys) ∧ ∃ z, wr = w.drewN z) (fun i _ => n - (intOf i).toNat)
  case atStart => exact ⟨0, Nat.zero_le _, rfl, rfl, 0, rfl⟩
  case round =>
    obtain ⟨k, hk, rfl, hcm, z, rfl⟩ := hrel
    by_cases hlt : k < n
    · obtain ⟨b, o, rfl, hc⟩ := hx.cell k hlt
      obtain ⟨b2, o2, rfl, hc2⟩ := hy.cell k hlt
      by_cases h0 : cmpI (nth xs k) (nth ys k) = 0
      · have h0' : (nth xs k != nth ys k) = false := by simp [cmpI_ne h0]
        have H0 := Lib.hid h0
        clear h0
        go_wp2
        go_quiet (fail)
        go_wp2
        go_roundw
        case rel => exact ⟨k + 1, by omega, by go_num, (cmpL_step (by rw [hl.out]; exact hlt) (by rw [hl2.out]; exact hlt) H0.out).symm.trans hcm.out, by first | exact ⟨_, rfl⟩ | exact drew2 _ _ _ | exact drew3 _ _ _ _⟩
        case measure => simp [intOf]; omega
      · have h0' : (nth xs k != nth ys k) = true := by
          simp only [bne_iff_ne, ne_eq]
          intro h; rw [h, cmpI_self] at h0; exact h0 rfl
        have H0 := Lib.hid h0
        clear h0
        go_wp2
        go_quiet (fail)
        go_wp2
        go_quiet (fail)
        go_wp2
        go_ret
        refine ⟨ret_bool ?_, by first | exact ⟨_, rfl⟩ | exact drew2 _ _ _ | exact drew3 _ _ _ _⟩
        unfold befL
        rw [← hcm.out, cmpL_stop (by rw [hl.out]; exact hlt) (by rw [hl2.out]; exact hlt) H0.out]
        have := H0.out
        unfold cmpI at this ⊢
        split <;> simp_all <;> omega
    · go_wp2
      go_ret
      refine ⟨ret_bool ?_, _, rfl⟩
      have := hcm.out
      rw [List.drop_eq_nil_of_le (by have := hl.out; omega), List.drop_eq_nil_of_le (by have := hl2.out; omega)] at this
      unfold befL
      rw [← this]
      rfl

def befV (xs ys : List Int) : Bool := isVec xs && (isVec ys && (decide (xs.length = ys.length) && befL xs ys))

theorem implBefore_any (p q : Option Addr) (n m c d : Nat) (xs ys : List Int) (w : World) (hn : n ≤ 9223372036854775807) (hm : m ≤ 9223372036854775807) (hx : Ints w p n xs) (hy : Ints w q m ys) :
    Calls Tryz.prog 21 #[.slice p n c, .slice q m d] w fun e w' => e = .returned (.bool (befV xs ys)) ∧ w = w' := by
  have hl := Lib.hid hx.len
  have hl2 := Lib.hid hy.len
  cases h1 : isVec xs
  · go_enter Tryz.func21, Tryz.ntmps21
    go_wp2_with (go_at_call 25; (with_reducible refine (implIsVector_any _ _ _ _ _ hx hn).mono ?_); rintro e w' ⟨rfl, rfl⟩)
    go_ret
    exact ⟨ret_bool (by simp [befV, h1]), rfl⟩
  cases h2 : isVec ys
  · go_enter Tryz.func21, Tryz.ntmps21
    go_wp2_with (first | (go_at_call 25; (with_reducible refine (implIsVector_any _ _ _ _ _ hx hn).mono ?_); rintro e w' ⟨rfl, rfl⟩) | (go_at_call 25; (with_reducible refine (implIsVector_any _ _ _ _ _ hy hm).mono ?_); rintro e w' ⟨rfl, rfl⟩))
    go_ret
    exact ⟨ret_bool (by simp [befV, h2]), rfl⟩
  by_cases h3 : n = m
  · subst h3
    go_enter Tryz.func21, Tryz.ntmps21
    go_wp2_with (first | (go_at_call 25; (with_reducible refine (implIsVector_any _ _ _ _ _ hx hn).mono ?_); rintro e w' ⟨rfl, rfl⟩) | (go_at_call 25; (with_reducible refine (implIsVector_any _ _ _ _ _ hy hm).mono ?_); rintro e w' ⟨rfl, rfl⟩) | (go_at_call 52; (with_reducible refine (slicesCompare_any _ _ _ _ _ _ _ _ hn hx hy).mono ?_); rintro e w' ⟨rfl, rfl⟩))
    go_ret
    exact ⟨ret_bool (by simp [befV, h1, h2, hl.out, hl2.out, befL]), rfl⟩
  · go_enter Tryz.func21, Tryz.ntmps21
    go_wp2_with (first | (go_at_call 25; (with_reducible refine (implIsVector_any _ _ _ _ _ hx hn).mono ?_); rintro e w' ⟨rfl, rfl⟩) | (go_at_call 25; (with_reducible refine (implIsVector_any _ _ _ _ _ hy hm).mono ?_); rintro e w' ⟨rfl, rfl⟩))
    go_ret
    exact ⟨ret_bool (by simp [befV, h1, h2, hl.out, hl2.out, h3]), rfl⟩

theorem specBefore_any (p q : Option Addr) (n m c d : Nat) (xs ys : List Int) (w : World) (hn : n ≤ 9223372036854775807) (hm : m ≤ 9223372036854775807) (hx : Ints w p n xs) (hy : Ints w q m ys) :
    Calls Tryz.prog 22 #[.slice p n c, .slice q m d] w fun e w' => e = .returned (.bool (befV xs ys)) ∧ ∃ z, w' = w.drewN z := by
  have hl := Lib.hid hx.len
  have hl2 := Lib.hid hy.len
  cases h1 : isVec xs
  · go_enter Tryz.func22, Tryz.ntmps22
    go_wp2_with (go_at_call 26; (with_reducible refine (specIsVector_any _ _ _ _ _ hx hn).mono ?_); rintro e w' ⟨rfl, rfl⟩)
    go_ret
    exact ⟨ret_bool (by simp [befV, h1]), 0, rfl⟩
  cases h2 : isVec ys
  · go_enter Tryz.func22, Tryz.ntmps22
    go_wp2_with (first | (go_at_call 26; (with_reducible refine (specIsVector_any _ _ _ _ _ hx hn).mono ?_); rintro e w' ⟨rfl, rfl⟩) | (go_at_call 26; (with_reducible refine (specIsVector_any _ _ _ _ _ hy hm).mono ?_); rintro e w' ⟨rfl, rfl⟩))
    go_ret
    exact ⟨ret_bool (by simp [befV, h2]), 0, rfl⟩
  by_cases h3 : n = m
  · subst h3
    go_enter Tryz.func22, Tryz.ntmps22
    go_wp2_with (first | (go_at_call 26; (with_reducible refine (specIsVector_any _ _ _ _ _ hx hn).mono ?_); rintro e w' ⟨rfl, rfl⟩) | (go_at_call 26; (with_reducible refine (specIsVector_any _ _ _ _ _ hy hm).mono ?_); rintro e w' ⟨rfl, rfl⟩) | (go_at_call 53; (with_reducible refine (l2Before_any _ _ _ _ _ _ _ _ hn hx hy).mono ?_); rintro e w' ⟨rfl, z, rfl⟩))
    go_ret
    exact ⟨ret_bool (by simp [befV, h1, h2, hl.out, hl2.out]), _, rfl⟩
  · go_enter Tryz.func22, Tryz.ntmps22
    go_wp2_with (first | (go_at_call 26; (with_reducible refine (specIsVector_any _ _ _ _ _ hx hn).mono ?_); rintro e w' ⟨rfl, rfl⟩) | (go_at_call 26; (with_reducible refine (specIsVector_any _ _ _ _ _ hy hm).mono ?_); rintro e w' ⟨rfl, rfl⟩))
    go_ret
    exact ⟨ret_bool (by simp [befV, h1, h2, hl.out, hl2.out, h3]), 0, rfl⟩

end Go.Proofs.YteamihmolpaoeaaGreatDoor
