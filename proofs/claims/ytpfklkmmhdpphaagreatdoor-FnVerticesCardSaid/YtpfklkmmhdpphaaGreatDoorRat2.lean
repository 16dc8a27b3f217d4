/- Contracts of both CompareRationals. Conditions: sizes. -/
import Derived.Test.YtpfklkmmhdpphaaGreatDoorRat
namespace Go.Proofs.YtpfklkmmhdpphaaGreatDoor
open Go.RowKit
set_option linter.unusedVariables false
set_option linter.unusedSimpArgs false
set_option maxRecDepth 100000

def cmpRat (xs : List Int) (a : Int) (ys : List Int) (b : Int) : Int := if xs.length = ys.length ∧ ratOk xs a = true ∧ ratOk ys b = true then fracCmp xs a ys b else 0

theorem implCompareRat_any (p q : Option Addr) (n m c d : Nat) (xs ys : List Int) (a b : Int) (w : World) (hn : n ≤ 9223372036854775807) (hm : m ≤ 9223372036854775807) (hx : Ints w p n xs) (hy : Ints w q m ys) :
    Calls Tryz.prog 16 #[.agg #[.slice p n c, .int .i64 a], .agg #[.slice q m d, .int .i64 b]] w (Ret (.int .i64 (cmpRat xs a ys b)) w) := by
  have hl := Lib.hid hx.len
  have hl2 := Lib.hid hy.len
  obtain ⟨k0, k1, k2, k3⟩ := box2c w (.slice p n c) (.int .i64 a) (.slice q m d) (.int .i64 b) 32 32
  have hb0 := boxed2 w (.cells #[.slice p n c, .int .i64 a] 32) (.cells #[.slice q m d, .int .i64 b] 32)
  have hx0 := (hx.alloc (.cells #[.slice p n c, .int .i64 a] 32)).alloc (.cells #[.slice q m d, .int .i64 b] 32)
  have hy0 := (hy.alloc (.cells #[.slice p n c, .int .i64 a] 32)).alloc (.cells #[.slice q m d, .int .i64 b] 32)
  by_cases hnm : n = m
  · subst hnm
    go_enter Tryz.func16, Tryz.ntmps16
    go_wp2_with fail
    generalize (w.alloc (.cells #[.slice p n c, .int .i64 a] 32)).alloc (.cells #[.slice q n d, .int .i64 b] 32) = W at *
    refine (rationalOk_any _ _ _ _ _ _ hn hx0).mono ?_
    rintro e w1 ⟨rfl, hb1⟩
    replace k2 := Below.cells hb1 k2
    replace k3 := Below.cells hb1 k3
    replace k0 := Below.cells hb1 k0
    replace k1 := Below.cells hb1 k1
    cases h1 : ratOk xs a
    · go_wp2
      go_ret
      exact ⟨ret_int (by simp [cmpRat, h1]), Below.step hb0 hb1⟩
    go_wp2_with fail
    refine (rationalOk_any _ _ _ _ _ _ hn (hy0.below hb1)).mono ?_
    rintro e w2 ⟨rfl, hb2⟩
    replace k2 := Below.cells hb2 k2
    replace k3 := Below.cells hb2 k3
    replace k0 := Below.cells hb2 k0
    replace k1 := Below.cells hb2 k1
    cases h2 : ratOk ys b
    · go_wp2
      go_ret
      exact ⟨ret_int (by simp [cmpRat, h2]), Below.step (Below.step hb0 hb1) hb2⟩
    go_wp2_with fail
    refine (compareFractions_any _ _ _ _ _ _ _ _ _ _ hn ((hx0.below hb1).below hb2) ((hy0.below hb1).below hb2)).mono ?_
    rintro e w3 ⟨rfl, hb3⟩
    go_wp2
    go_ret
    exact ⟨ret_int (by simp [cmpRat, h1, h2, hl.out, hl2.out]), Below.step (Below.step (Below.step hb0 hb1) hb2) hb3⟩
  · go_enter Tryz.func16, Tryz.ntmps16
    go_wp2
    go_ret
    exact ⟨ret_int (by simp [cmpRat, hl.out, hl2.out, hnm]), hb0⟩

theorem l1Bit_true (w : World) : Calls Tryz.prog 48 #[.bool true] w fun e w' => e = .returned (.int .i64 1) ∧ w = w' := by
  go_enter Tryz.func48, Tryz.ntmps48
  go_wp2
  go_ret
  exact ⟨rfl, rfl⟩
theorem l1Bit_false (w : World) : Calls Tryz.prog 48 #[.bool false] w fun e w' => e = .returned (.int .i64 0) ∧ w = w' := by
  go_enter Tryz.func48, Tryz.ntmps48
  go_wp2
  go_ret
  exact ⟨rfl, rfl⟩

theorem specCompareRat_any (p q : Option Addr) (n m c d : Nat) (xs ys : List Int) (a b : Int) (w : World) (hn : n ≤ 9223372036854775807) (hm : m ≤ 9223372036854775807) (hx : Ints w p n xs) (hy : Ints w q m ys) :
    Calls Tryz.prog 17 #[.agg #[.slice p n c, .int .i64 a], .agg #[.slice q m d, .int .i64 b]] w (Ret (.int .i64 (cmpRat xs a ys b)) w) := by
  have hl := Lib.hid hx.len
  have hl2 := Lib.hid hy.len
  obtain ⟨k0, k1, k2, k3⟩ := box2c w (.slice p n c) (.int .i64 a) (.slice q m d) (.int .i64 b) 32 32
  have hb0 := boxed2 w (.cells #[.slice p n c, .int .i64 a] 32) (.cells #[.slice q m d, .int .i64 b] 32)
  have hx0 := (hx.alloc (.cells #[.slice p n c, .int .i64 a] 32)).alloc (.cells #[.slice q m d, .int .i64 b] 32)
  have hy0 := (hy.alloc (.cells #[.slice p n c, .int .i64 a] 32)).alloc (.cells #[.slice q m d, .int .i64 b] 32)
  go_enter Tryz.func17, Tryz.ntmps17
  go_wp2_with fail
  generalize (w.alloc (.cells #[.slice p n c, .int .i64 a] 32)).alloc (.cells #[.slice q m d, .int .i64 b] 32) = W at *
  refine (l6Fine_any _ _ _ _ _ _ hn hx0).mono ?_
  rintro e w1 ⟨rfl, hb1⟩
  replace k2 := Below.cells hb1 k2
  replace k3 := Below.cells hb1 k3
  replace k0 := Below.cells hb1 k0
  replace k1 := Below.cells hb1 k1
  cases h1 : ratOk xs a
  · go_wp2
    go_ret
    exact ⟨ret_int (by simp [cmpRat, h1]), Below.step hb0 hb1⟩
  go_wp2_with fail
  refine (l6Fine_any _ _ _ _ _ _ hm (hy0.below hb1)).mono ?_
  rintro e w2 ⟨rfl, hb2⟩
  replace k2 := Below.cells hb2 k2
  replace k3 := Below.cells hb2 k3
  replace k0 := Below.cells hb2 k0
  replace k1 := Below.cells hb2 k1
  have hx2 := (hx0.below hb1).below hb2
  have hy2 := (hy0.below hb1).below hb2
  have hbw := Below.step (Below.step hb0 hb1) hb2
  clear hx0 hy0 hb0 hb1 hb2
  cases h2 : ratOk ys b
  · go_wp2
    go_ret
    exact ⟨ret_int (by simp [cmpRat, h2]), hbw⟩
  by_cases hnm : n = m
  · subst hnm
    have hfin : Hid (cmpRat xs a ys b = fracCmp xs a ys b) := by show _ = _; simp [cmpRat, h1, h2, hl.out, hl2.out]
    go_wp2
    go_loopw [5] (fun i wr => ∃ k : Nat, k ≤ n ∧ i = .int .i64 k ∧ Hid (cmpL ((scaleW xs b).drop k) ((scaleW ys a).drop k) = fracCmp xs a ys b) ∧ Drawn w2 wr) (fun i _ => n - (intOf i).toNat)
    case atStart => exact ⟨0, Nat.zero_le _, rfl, rfl, Drawn.refl _⟩
    case round =>
      obtain ⟨k, hk, rfl, hcm, hD⟩ := hrel
      have k0 := (hD.cell _).trans k0
      have k1 := (hD.cell _).trans k1
      have k2 := (hD.cell _).trans k2
      have k3 := (hD.cell _).trans k3
      by_cases hlt : k < n
      · obtain ⟨b1, o1, rfl, hc⟩ := (hD.ints hx2).cell k hlt
        obtain ⟨b2, o2, rfl, hc2⟩ := (hD.ints hy2).cell k hlt
        have E1 := Lib.hid (scaleW_nth (xs := xs) (q := b) (k := k) (by rw [hl.out]; exact hlt))
        have E2 := Lib.hid (scaleW_nth (xs := ys) (q := a) (k := k) (by rw [hl2.out]; exact hlt))
        by_cases h0 : wrap64 (nth xs k * b) = wrap64 (nth ys k * a)
        · have h0' : (wrap64 (nth xs k * b) != wrap64 (nth ys k * a)) = false := by simp [h0]
          have H0 := Lib.hid (show cmpI (wrap64 (nth xs k * b)) (wrap64 (nth ys k * a)) = 0 by rw [h0]; exact cmpI_self _)
          clear h0
          go_wp2
          go_quiet (fail)
          go_wp2
          go_quiet (fail)
          go_wp2
          go_roundw
          case rel => exact ⟨k + 1, by omega, by go_num, (cmpL_step (by rw [scaleW_length, hl.out]; exact hlt) (by rw [scaleW_length, hl2.out]; exact hlt) (by rw [E1.out, E2.out]; exact H0.out)).symm.trans hcm.out, by first | exact hD.more _ | exact (hD.more _).more _⟩
          case measure => simp [intOf]; omega
        · have h0' : (wrap64 (nth xs k * b) != wrap64 (nth ys k * a)) = true := by simp [h0]
          have H0 : Hid (cmpI (wrap64 (nth xs k * b)) (wrap64 (nth ys k * a)) ≠ 0) := fun h => h0 (cmpI_ne h)
          by_cases hlt2 : wrap64 (nth xs k * b) < wrap64 (nth ys k * a)
          · have hd : decide (wrap64 (nth xs k * b) < wrap64 (nth ys k * a)) = true := by simpa using hlt2
            have V : Hid (cmpI (wrap64 (nth xs k * b)) (wrap64 (nth ys k * a)) = -1) := by show _ = _; unfold cmpI; rw [if_pos hlt2]
            clear h0
            go_wp2
            go_quiet (fail)
            go_wp2
            go_quiet (fail)
            go_wp2_with (go_at_call 48; (with_reducible refine (l1Bit_true _).mono ?_); rintro e w' ⟨rfl, rfl⟩)
            go_ret
            refine ⟨ret_int ?_, Below.trans hbw (((hD.more _).below).mono hbw.size)⟩
            rw [hfin.out, ← hcm.out, cmpL_stop (by rw [scaleW_length, hl.out]; exact hlt) (by rw [scaleW_length, hl2.out]; exact hlt) (by rw [E1.out, E2.out]; exact H0.out), E1.out, E2.out, V.out]
          · have hd : decide (wrap64 (nth xs k * b) < wrap64 (nth ys k * a)) = false := by simpa using hlt2
            have V : Hid (cmpI (wrap64 (nth xs k * b)) (wrap64 (nth ys k * a)) = 1) := by show _ = _; unfold cmpI; rw [if_neg hlt2, if_pos (by omega)]
            clear h0
            go_wp2
            go_quiet (fail)
            go_wp2
            go_quiet (fail)
            go_wp2_with (go_at_call 48; (with_reducible refine (l1Bit_false _).mono ?_); rintro e w' ⟨rfl, rfl⟩)
            go_ret
            refine ⟨ret_int ?_, Below.trans hbw (((hD.more _).below).mono hbw.size)⟩
            rw [hfin.out, ← hcm.out, cmpL_stop (by rw [scaleW_length, hl.out]; exact hlt) (by rw [scaleW_length, hl2.out]; exact hlt) (by rw [E1.out, E2.out]; exact H0.out), E1.out, E2.out, V.out]
      · go_wp2
        go_ret
        refine ⟨ret_int ?_, Below.trans hbw (hD.below.mono hbw.size)⟩
        have := hcm.out
        rw [List.drop_eq_nil_of_le (by rw [scaleW_length, hl.out]; omega), List.drop_eq_nil_of_le (by rw [scaleW_length, hl2.out]; omega)] at this
        rw [hfin.out, ← this]
        rfl
  · go_wp2
    go_ret
    exact ⟨ret_int (by simp [cmpRat, hl.out, hl2.out, hnm]), hbw⟩

end Go.Proofs.YtpfklkmmhdpphaaGreatDoor
