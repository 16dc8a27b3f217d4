/- Contracts of the reference's AddVectors, of both ScaleVector, DotOf, GcdOf. Conditions: sizes. -/
import Derived.Test.YteamihmolpaoeaaGreatDoorGcd
namespace Go.Proofs.YteamihmolpaoeaaGreatDoor
open Go.RowKit
set_option linter.unusedVariables false
set_option linter.unusedSimpArgs false
set_option maxRecDepth 100000

theorem NewIB.empty {w w1 : World} (hb : Below w.heap.size w w1) : NewIB w ([], false) (.returned (.tuple #[.slice (some ⟨w1.heap.size, 0, none⟩) 0 0, .bool false])) (w1.alloc (.cells #[] 3)) :=
  ⟨_, _, _, rfl, ((Own.empty w1).up).widen hb.size (Nat.le_refl _), hb.alloc hb.size _⟩

theorem Own.into {w w1 : World} {p : Option Addr} {n c : Nat} {xs : List Int} (ho : Own w1 w.heap.size w1.heap.size p n c xs) (hb : Below w.heap.size w w1) : NewIB w (xs, true) (.returned (.tuple #[.slice p n c, .bool true])) w1 :=
  ⟨_, _, _, rfl, ho, hb⟩

theorem specAdd_any (p q : Option Addr) (n m c d : Nat) (xs ys : List Int) (w : World) (hn : n ≤ 17592186040000) (hm : m ≤ 17592186040000) (hx : Ints w p n xs) (hy : Ints w q m ys) :
    Calls Tryz.prog 11 #[.slice p n c, .slice q m d] w (NewIB w (addV xs ys)) := by
  have hl := Lib.hid hx.len
  have hl2 := Lib.hid hy.len
  cases h1 : isVec xs
  · go_enter Tryz.func11, Tryz.ntmps11
    go_wp2_with (go_at_call 26; (with_reducible refine (specIsVector_any _ _ _ _ _ hx (by omega)).mono ?_); rintro e w' ⟨rfl, rfl⟩)
    go_ret2
    rw [show addV xs ys = ([], false) by simp [addV, h1]]
    exact NewIB.empty (Below.refl _ _)
  cases h2 : isVec ys
  · go_enter Tryz.func11, Tryz.ntmps11
    go_wp2_with (first | (go_at_call 26; (with_reducible refine (specIsVector_any _ _ _ _ _ hx (by omega)).mono ?_); rintro e w' ⟨rfl, rfl⟩) | (go_at_call 26; (with_reducible refine (specIsVector_any _ _ _ _ _ hy (by omega)).mono ?_); rintro e w' ⟨rfl, rfl⟩))
    go_ret2
    rw [show addV xs ys = ([], false) by simp [addV, h2]]
    exact NewIB.empty (Below.refl _ _)
  by_cases h3 : n = m
  · subst h3
    have H : Hid (addV xs ys = vecIf (addW xs ys)) := by show _ = _; simp [addV, h1, h2, hl.out, hl2.out]
    cases h4 : isVec (addW xs ys)
    all_goals
      go_enter Tryz.func11, Tryz.ntmps11
      go_wp2_with (first | (go_at_call 26; (with_reducible refine (specIsVector_any _ _ _ _ _ hx (by omega)).mono ?_); rintro e w' ⟨rfl, rfl⟩) | (go_at_call 26; (with_reducible refine (specIsVector_any _ _ _ _ _ hy (by omega)).mono ?_); rintro e w' ⟨rfl, rfl⟩) | (go_at_call 40; (with_reducible refine (l2Add_any _ _ _ _ _ _ _ _ hn hx hy).mono ?_); rintro e w1 ⟨p1, c1, rfl, ho1, hb1⟩) | (go_at_call 26; (with_reducible refine (specIsVector_any _ _ _ _ _ ho1.ints ho1.small).mono ?_); rintro e w' ⟨rfl, rfl⟩))
      go_ret2
      rw [H.out]
    · rw [vecIf_no h4]
      exact NewIB.empty hb1
    · rw [vecIf_yes h4]
      exact Own.into ho1 hb1
  · go_enter Tryz.func11, Tryz.ntmps11
    go_wp2_with (first | (go_at_call 26; (with_reducible refine (specIsVector_any _ _ _ _ _ hx (by omega)).mono ?_); rintro e w' ⟨rfl, rfl⟩) | (go_at_call 26; (with_reducible refine (specIsVector_any _ _ _ _ _ hy (by omega)).mono ?_); rintro e w' ⟨rfl, rfl⟩))
    go_ret2
    rw [show addV xs ys = ([], false) by simp [addV, hl.out, hl2.out, h3]]
    exact NewIB.empty (Below.refl _ _)

def scaleV (xs : List Int) (u : Int) : List Int × Bool := if isVec xs = true ∧ inR u (-1000) 1000 = true then vecIf (scaleW xs u) else ([], false)

theorem specScale_any (p : Option Addr) (n c : Nat) (xs : List Int) (u : Int) (w : World) (hn : n ≤ 17592186040000) (hx : Ints w p n xs) :
    Calls Tryz.prog 14 #[.slice p n c, .int .i64 u] w (NewIB w (scaleV xs u)) := by
  cases h1 : isVec xs
  · go_enter Tryz.func14, Tryz.ntmps14
    go_wp2_with (go_at_call 26; (with_reducible refine (specIsVector_any _ _ _ _ _ hx (by omega)).mono ?_); rintro e w' ⟨rfl, rfl⟩)
    go_ret2
    rw [show scaleV xs u = ([], false) by simp [scaleV, h1]]
    exact NewIB.empty (Below.refl _ _)
  cases h2 : inR u (-1000) 1000
  · go_enter Tryz.func14, Tryz.ntmps14
    go_wp2_with (first | (go_at_call 26; (with_reducible refine (specIsVector_any _ _ _ _ _ hx (by omega)).mono ?_); rintro e w' ⟨rfl, rfl⟩) | (go_at_call 43; (with_reducible refine (l1In_any _ _ _ _).mono ?_); rintro e w' ⟨rfl, rfl⟩))
    go_ret2
    rw [show scaleV xs u = ([], false) by simp [scaleV, h2]]
    exact NewIB.empty (Below.refl _ _)
  have H : Hid (scaleV xs u = vecIf (scaleW xs u)) := by show _ = _; simp [scaleV, h1, h2]
  cases h4 : isVec (scaleW xs u)
  all_goals
    go_enter Tryz.func14, Tryz.ntmps14
    go_wp2_with (first | (go_at_call 26; (with_reducible refine (specIsVector_any _ _ _ _ _ hx (by omega)).mono ?_); rintro e w' ⟨rfl, rfl⟩) | (go_at_call 43; (with_reducible refine (l1In_any _ _ _ _).mono ?_); rintro e w' ⟨rfl, rfl⟩) | (go_at_call 33; (with_reducible refine (l2Scale_any _ _ _ _ _ _ hn hx).mono ?_); rintro e w1 ⟨p1, c1, rfl, ho1, hb1⟩) | (go_at_call 26; (with_reducible refine (specIsVector_any _ _ _ _ _ ho1.ints ho1.small).mono ?_); rintro e w' ⟨rfl, rfl⟩))
    go_ret2
    rw [H.out]
  · rw [vecIf_no h4]
    exact NewIB.empty hb1
  · rw [vecIf_yes h4]
    exact Own.into ho1 hb1

theorem implScale_any (p : Option Addr) (n c : Nat) (xs : List Int) (u : Int) (w : World) (hn : n ≤ 17592186040000) (hx : Ints w p n xs) :
    Calls Tryz.prog 13 #[.slice p n c, .int .i64 u] w (NewIB w (scaleV xs u)) := by
  have hl := Lib.hid hx.len
  cases h1 : isVec xs
  · go_enter Tryz.func13, Tryz.ntmps13
    go_wp2_with (go_at_call 25; (with_reducible refine (implIsVector_any _ _ _ _ _ hx (by omega)).mono ?_); rintro e w' ⟨rfl, rfl⟩)
    go_ret2
    rw [show scaleV xs u = ([], false) by simp [scaleV, h1]]
    exact NewIB.none_
  cases h2 : inR u (-1000) 1000
  · go_enter Tryz.func13, Tryz.ntmps13
    go_wp2_with (first | (go_at_call 25; (with_reducible refine (implIsVector_any _ _ _ _ _ hx (by omega)).mono ?_); rintro e w' ⟨rfl, rfl⟩) | (go_at_call 42; (with_reducible refine (within_any _ _ _ _).mono ?_); rintro e w' ⟨rfl, rfl⟩))
    go_ret2
    rw [show scaleV xs u = ([], false) by simp [scaleV, h2]]
    exact NewIB.none_
  have H : Hid (scaleV xs u = vecIf (scaleW xs u)) := by show _ = _; simp [scaleV, h1, h2]
  have hl3 := Lib.hid (scaleW_length xs u)
  go_enter Tryz.func13, Tryz.ntmps13
  go_wp2_with (first | (go_at_call 25; (with_reducible refine (implIsVector_any _ _ _ _ _ hx (by omega)).mono ?_); rintro e w' ⟨rfl, rfl⟩) | (go_at_call 42; (with_reducible refine (within_any _ _ _ _).mono ?_); rintro e w' ⟨rfl, rfl⟩) | (go_at_call 36; (with_reducible refine (copyInts_any _ _ _ _ _ hn hx).mono ?_); rintro e w1 ⟨p1, c1, rfl, ho1, hb1⟩))
  go_loopw [20] (fun i wr => ∃ k : Nat, k ≤ n ∧ i = .int .i64 k ∧ Own wr w.heap.size wr.heap.size p1 n c1 (mix (scaleW xs u) xs k) ∧ Below w.heap.size w wr) (fun i _ => n - (intOf i).toNat)
  case atStart => exact ⟨0, Nat.zero_le _, rfl, by rw [mix_zero]; exact ho1, hb1⟩
  case round =>
    obtain ⟨k, hk, rfl, hown, hb⟩ := hrel
    by_cases hlt : k < n
    · rcases hown.form with ⟨_, rfl, _⟩ | ⟨g, rfl, hg1, hg2, hg3, _⟩
      · omega
      have hc2 := hown.cell hlt
      rw [mix_nth (by have := hl.out; have := hl3.out; omega)] at hc2
      have hf2 := hown.frozen k
      go_wp2
      go_roundw
      case rel =>
        refine ⟨k + 1, by omega, by go_num, ?_, hb.setCell hg1 _⟩
        have h2 := hown.set k (nth (scaleW xs u) k)
        rw [mix_set (by have := hl.out; have := hl3.out; omega) (by rw [hl.out]; exact hlt)] at h2
        rw [scaleW_nth (by rw [hl.out]; exact hlt)] at h2
        exact h2.up
      case measure => simp [intOf]; omega
    · obtain rfl : k = n := by omega
      rw [mix_all (by have := hl.out; have := hl3.out; omega) (by rw [hl.out]; exact Nat.le_refl _)] at hown
      go_wp2_with (go_at_call 39; (with_reducible refine (vectorOf_any _ _ _ _ _ _ (by omega) hown).mono ?_); rintro e w' ⟨⟨p2, n2, c2, rfl, ho2⟩, rfl⟩)
      go_ret2
      rw [H.out]
      exact ⟨_, _, _, rfl, ho2, hb⟩

/-- A function that hands back one value and may have made memory. -/
def Ret (v : Value) (w : World) (e : Ending) (w' : World) : Prop := e = .returned v ∧ Below w.heap.size w w'
theorem Ret.same {v : Value} {w : World} : Ret v w (.returned v) w := ⟨rfl, Below.refl _ _⟩
theorem ret_of_same {P : Program} {f : FuncId} {a : Array Value} {w : World} {v : Value} (h : Calls P f a w fun e w' => e = .returned v ∧ w = w') : Calls P f a w (Ret v w) :=
  h.mono fun e w' ⟨he, hw⟩ => by subst he; subst hw; exact Ret.same
theorem ret_of_drew {P : Program} {f : FuncId} {a : Array Value} {w : World} {v : Value} (h : Calls P f a w fun e w' => e = .returned v ∧ ∃ z, w' = w.drewN z) : Calls P f a w (Ret v w) :=
  h.mono fun e w' ⟨he, z, hw⟩ => by subst he; subst hw; exact ⟨rfl, Below.drawn (Below.refl _ _) z⟩

def dotV (xs ys : List Int) : Int := if isVec xs = true ∧ isVec ys = true ∧ xs.length = ys.length then dotW xs ys else 0

theorem implDotOf_any (p q : Option Addr) (n m c d : Nat) (xs ys : List Int) (w : World) (hn : n ≤ 9223372036854775807) (hm : m ≤ 9223372036854775807) (hx : Ints w p n xs) (hy : Ints w q m ys) :
    Calls Tryz.prog 23 #[.slice p n c, .slice q m d] w fun e w' => e = .returned (.int .i64 (dotV xs ys)) ∧ ∃ z, w' = w.drewN z := by
  have hl := Lib.hid hx.len
  have hl2 := Lib.hid hy.len
  cases h1 : isVec xs
  · go_enter Tryz.func23, Tryz.ntmps23
    go_wp2_with (go_at_call 25; (with_reducible refine (implIsVector_any _ _ _ _ _ hx hn).mono ?_); rintro e w' ⟨rfl, rfl⟩)
    go_ret
    exact ⟨ret_int (by simp [dotV, h1]), 0, rfl⟩
  cases h2 : isVec ys
  · go_enter Tryz.func23, Tryz.ntmps23
    go_wp2_with (first | (go_at_call 25; (with_reducible refine (implIsVector_any _ _ _ _ _ hx hn).mono ?_); rintro e w' ⟨rfl, rfl⟩) | (go_at_call 25; (with_reducible refine (implIsVector_any _ _ _ _ _ hy hm).mono ?_); rintro e w' ⟨rfl, rfl⟩))
    go_ret
    exact ⟨ret_int (by simp [dotV, h2]), 0, rfl⟩
  by_cases h3 : n = m
  · subst h3
    go_enter Tryz.func23, Tryz.ntmps23
    go_wp2_with (first | (go_at_call 25; (with_reducible refine (implIsVector_any _ _ _ _ _ hx hn).mono ?_); rintro e w' ⟨rfl, rfl⟩) | (go_at_call 25; (with_reducible refine (implIsVector_any _ _ _ _ _ hy hm).mono ?_); rintro e w' ⟨rfl, rfl⟩) | (go_at_call 54; (with_reducible refine (dot_any _ _ _ _ _ _ _ _ hn hx hy).mono ?_); rintro e w' ⟨rfl, z, rfl⟩))
    go_ret
    exact ⟨ret_int (by simp [dotV, h1, h2, hl.out, hl2.out]), _, rfl⟩
  · go_enter Tryz.func23, Tryz.ntmps23
    go_wp2_with (first | (go_at_call 25; (with_reducible refine (implIsVector_any _ _ _ _ _ hx hn).mono ?_); rintro e w' ⟨rfl, rfl⟩) | (go_at_call 25; (with_reducible refine (implIsVector_any _ _ _ _ _ hy hm).mono ?_); rintro e w' ⟨rfl, rfl⟩))
    go_ret
    exact ⟨ret_int (by simp [dotV, hl.out, hl2.out, h3]), 0, rfl⟩

theorem specDotOf_any (p q : Option Addr) (n m c d : Nat) (xs ys : List Int) (w : World) (hn : n ≤ 9223372036854775807) (hm : m ≤ 9223372036854775807) (hx : Ints w p n xs) (hy : Ints w q m ys) :
    Calls Tryz.prog 24 #[.slice p n c, .slice q m d] w fun e w' => e = .returned (.int .i64 (dotV xs ys)) ∧ ∃ z, w' = w.drewN z := by
  have hl := Lib.hid hx.len
  have hl2 := Lib.hid hy.len
  cases h1 : isVec xs
  · go_enter Tryz.func24, Tryz.ntmps24
    go_wp2_with (go_at_call 26; (with_reducible refine (specIsVector_any _ _ _ _ _ hx hn).mono ?_); rintro e w' ⟨rfl, rfl⟩)
    go_ret
    exact ⟨ret_int (by simp [dotV, h1]), 0, rfl⟩
  cases h2 : isVec ys
  · go_enter Tryz.func24, Tryz.ntmps24
    go_wp2_with (first | (go_at_call 26; (with_reducible refine (specIsVector_any _ _ _ _ _ hx hn).mono ?_); rintro e w' ⟨rfl, rfl⟩) | (go_at_call 26; (with_reducible refine (specIsVector_any _ _ _ _ _ hy hm).mono ?_); rintro e w' ⟨rfl, rfl⟩))
    go_ret
    exact ⟨ret_int (by simp [dotV, h2]), 0, rfl⟩
  by_cases h3 : n = m
  · subst h3
    go_enter Tryz.func24, Tryz.ntmps24
    go_wp2_with (first | (go_at_call 26; (with_reducible refine (specIsVector_any _ _ _ _ _ hx hn).mono ?_); rintro e w' ⟨rfl, rfl⟩) | (go_at_call 26; (with_reducible refine (specIsVector_any _ _ _ _ _ hy hm).mono ?_); rintro e w' ⟨rfl, rfl⟩) | (go_at_call 55; (with_reducible refine (l2Dot_any _ _ _ _ _ _ _ _ hn hx hy).mono ?_); rintro e w' ⟨rfl, z, rfl⟩))
    go_ret
    exact ⟨ret_int (by simp [dotV, h1, h2, hl.out, hl2.out]), _, rfl⟩
  · go_enter Tryz.func24, Tryz.ntmps24
    go_wp2_with (first | (go_at_call 26; (with_reducible refine (specIsVector_any _ _ _ _ _ hx hn).mono ?_); rintro e w' ⟨rfl, rfl⟩) | (go_at_call 26; (with_reducible refine (specIsVector_any _ _ _ _ _ hy hm).mono ?_); rintro e w' ⟨rfl, rfl⟩))
    go_ret
    exact ⟨ret_int (by simp [dotV, hl.out, hl2.out, h3]), 0, rfl⟩

theorem allR_nth {xs : List Int} {lo hi : Int} (h : allR xs lo hi = true) : ∀ k, k < xs.length → lo ≤ nth xs k ∧ nth xs k ≤ hi := by
  intro k hk
  simp only [allR, List.all_eq_true] at h
  rw [nth_eq hk]
  exact inR_true (h _ (List.getElem_mem hk))
theorem isVec_all {xs : List Int} (h : isVec xs = true) : ∀ k, k < xs.length → -1000 ≤ nth xs k ∧ nth xs k ≤ 1000 := by
  simp only [isVec, Bool.and_eq_true] at h
  exact allR_nth h.2
theorem isVec_len {xs : List Int} (h : isVec xs = true) : 1 ≤ xs.length ∧ xs.length ≤ 3 := by
  simp only [isVec, Bool.and_eq_true] at h
  have := inR_true h.1
  omega
theorem isVec_in62 {xs : List Int} (h : isVec xs = true) : ∀ k, k < xs.length → In62 (nth xs k) := fun k hk => by
  have := isVec_all h k hk
  unfold In62; omega

def gcdV (xs : List Int) : Int := if isVec xs = true then gcdL xs else -1

theorem implGcdOf_any (p : Option Addr) (n c : Nat) (xs : List Int) (w : World) (hn : n ≤ 9223372036854775807) (hx : Ints w p n xs) :
    Calls Tryz.prog 6 #[.slice p n c] w fun e w' => e = .returned (.int .i64 (gcdV xs)) ∧ ∃ z, w' = w.drewN z := by
  cases h1 : isVec xs
  · go_enter Tryz.func6, Tryz.ntmps6
    go_wp2_with (go_at_call 25; (with_reducible refine (implIsVector_any _ _ _ _ _ hx hn).mono ?_); rintro e w' ⟨rfl, rfl⟩)
    go_ret
    exact ⟨ret_int (by simp [gcdV, h1]), 0, rfl⟩
  · have hB := Lib.hid (isVec_in62 h1)
    go_enter Tryz.func6, Tryz.ntmps6
    go_wp2_with (first | (go_at_call 25; (with_reducible refine (implIsVector_any _ _ _ _ _ hx hn).mono ?_); rintro e w' ⟨rfl, rfl⟩) | (go_at_call 35; (with_reducible refine (gcdAll_any _ _ _ _ _ hn hx hB.out).mono ?_); rintro e w' ⟨rfl, z, rfl⟩))
    go_ret
    exact ⟨ret_int (by simp [gcdV, h1]), _, rfl⟩

theorem specGcdOf_any (p : Option Addr) (n c : Nat) (xs : List Int) (w : World) (hn : n ≤ 9223372036854775807) (hx : Ints w p n xs) :
    Calls Tryz.prog 19 #[.slice p n c] w fun e w' => e = .returned (.int .i64 (gcdV xs)) ∧ w = w' := by
  cases h1 : isVec xs
  · go_enter Tryz.func19, Tryz.ntmps19
    go_wp2_with (go_at_call 26; (with_reducible refine (specIsVector_any _ _ _ _ _ hx hn).mono ?_); rintro e w' ⟨rfl, rfl⟩)
    go_ret
    exact ⟨ret_int (by simp [gcdV, h1]), rfl⟩
  · have hB := Lib.hid (isVec_in62 h1)
    go_enter Tryz.func19, Tryz.ntmps19
    go_wp2_with (first | (go_at_call 26; (with_reducible refine (specIsVector_any _ _ _ _ _ hx hn).mono ?_); rintro e w' ⟨rfl, rfl⟩) | (go_at_call 51; (with_reducible refine (l2All_any _ _ _ _ _ hn hx hB.out).mono ?_); rintro e w' ⟨rfl, rfl⟩))
    go_ret
    exact ⟨ret_int (by simp [gcdV, h1]), rfl⟩

end Go.Proofs.YteamihmolpaoeaaGreatDoor
