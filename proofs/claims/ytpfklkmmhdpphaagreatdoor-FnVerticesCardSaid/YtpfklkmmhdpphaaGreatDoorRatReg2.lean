/- Contracts of both HasRational. Conditions: sizes. -/
import Derived.Test.YtpfklkmmhdpphaaGreatDoorRatReg
namespace Go.Proofs.YtpfklkmmhdpphaaGreatDoor
open Go.RowKit
set_option linter.unusedVariables false
set_option linter.unusedSimpArgs false
set_option maxRecDepth 100000

theorem implHasRat_any (z : Int) (p q : Option Addr) (n c m d : Nat) (hs : List Pr) (xs : List Int) (a : Int) (w : World) (hn : n ≤ 9223372036854775807) (hm : m ≤ 9223372036854775807) (hx : Prs w p n hs) (hy : Ints w q m xs) :
    Calls Tryz.prog 14 #[.agg #[.int .i64 z, .slice p n c], .agg #[.slice q m d, .int .i64 a]] w (Ret (.bool (hasRat z hs xs a)) w) := by
  have hl := Lib.hid hx.len
  have hl2 := Lib.hid hy.len
  obtain ⟨ka, kb⟩ := boxesRR w z p n c q m d a
  have hT := boxed2 w (.cells #[.int .i64 z, .slice p n c] 26) (.cells #[.slice q m d, .int .i64 a] 32)
  have hx1 := hx.below hT
  have hy1 := hy.below hT
  cases h1 : isReg z hs
  · go_enter Tryz.func14, Tryz.ntmps14
    go_wp2_with fail
    refine (implIsRegion_any _ _ _ _ _ _ hn hx1).mono ?_
    rw [h1]
    rintro e w1 ⟨rfl, hb1⟩
    go_wp2
    go_ret
    exact ⟨ret_bool (by simp [hasRat, h1]), Below.step hT hb1⟩
  cases h2 : ratOk xs a
  · go_enter Tryz.func14, Tryz.ntmps14
    go_wp2_with fail
    refine (implIsRegion_any _ _ _ _ _ _ hn hx1).mono ?_
    rw [h1]
    rintro e w1 ⟨rfl, hb1⟩
    have ka1 := ka.below hb1
    have kb1 := kb.below hb1
    have a0 := ka1.c0
    have a1 := ka1.c1
    have b0 := kb1.c0
    have b1 := kb1.c1
    go_wp2_with fail
    refine (rationalOk_any _ _ _ _ _ _ hm (hy1.below hb1)).mono ?_
    rw [h2]
    rintro e w2 ⟨rfl, hb2⟩
    go_wp2
    go_ret
    exact ⟨ret_bool (by simp [hasRat, h2]), Below.step hT (Below.step hb1 hb2)⟩
  by_cases h3 : (m : Int) = z
  · subst h3
    have Hlen : Hid (∀ k, k < hs.length → (nrm hs k).length = m) := Lib.hid fun k hk => by have := isReg_len h1 k hk; omega
    go_enter Tryz.func14, Tryz.ntmps14
    go_wp2_with fail
    refine (implIsRegion_any _ _ _ _ _ _ hn hx1).mono ?_
    rw [h1]
    rintro e w1 ⟨rfl, hb1⟩
    have ka1 := ka.below hb1
    have kb1 := kb.below hb1
    have a0 := ka1.c0
    have a1 := ka1.c1
    have b0 := kb1.c0
    have b1 := kb1.c1
    go_wp2_with fail
    refine (rationalOk_any _ _ _ _ _ _ hm (hy1.below hb1)).mono ?_
    rw [h2]
    rintro e w2 ⟨rfl, hb2⟩
    have ka2 := ka1.below hb2
    have kb2 := kb1.below hb2
    clear a0 a1 b0 b1
    have a0 := ka2.c0
    have a1 := ka2.c1
    have b0 := kb2.c0
    have b1 := kb2.c1
    go_wp2_with fail
    refine (hasFraction_any _ _ _ _ _ _ _ _ _ _ _ hn hm ((hx1.below hb1).below hb2) ((hy1.below hb1).below hb2) Hlen.out).mono ?_
    rintro e w3 ⟨rfl, hb3⟩
    go_wp2
    go_ret
    exact ⟨ret_bool (by rw [hasRat, h1, h2, hl2.out]; simp), Below.step hT (Below.step hb1 (Below.step hb2 hb3))⟩
  · have h3' : ((m : Int) == z) = false := by simp [h3]
    have H3 := Lib.hid h3
    clear h3
    go_enter Tryz.func14, Tryz.ntmps14
    go_wp2_with fail
    refine (implIsRegion_any _ _ _ _ _ _ hn hx1).mono ?_
    rw [h1]
    rintro e w1 ⟨rfl, hb1⟩
    have ka1 := ka.below hb1
    have kb1 := kb.below hb1
    have a0 := ka1.c0
    have a1 := ka1.c1
    have b0 := kb1.c0
    have b1 := kb1.c1
    go_wp2_with fail
    refine (rationalOk_any _ _ _ _ _ _ hm (hy1.below hb1)).mono ?_
    rw [h2]
    rintro e w2 ⟨rfl, hb2⟩
    have ka2 := ka1.below hb2
    have kb2 := kb1.below hb2
    clear a0 a1 b0 b1
    have a0 := ka2.c0
    have a1 := ka2.c1
    have b0 := kb2.c0
    have b1 := kb2.c1
    go_wp2
    go_ret
    exact ⟨ret_bool (by rw [hasRat, hl2.out, decide_eq_false H3.out]; simp), Below.step hT (Below.step hb1 hb2)⟩

theorem specHasRat_any (z : Int) (p q : Option Addr) (n c m d : Nat) (hs : List Pr) (xs : List Int) (a : Int) (w : World) (hn : n ≤ 9223372036854775807) (hm : m ≤ 9223372036854775807) (hx : Prs w p n hs) (hy : Ints w q m xs) :
    Calls Tryz.prog 15 #[.agg #[.int .i64 z, .slice p n c], .agg #[.slice q m d, .int .i64 a]] w (Ret (.bool (hasRat z hs xs a)) w) := by
  have hl := Lib.hid hx.len
  have hl2 := Lib.hid hy.len
  obtain ⟨ka, kb⟩ := boxesRR w z p n c q m d a
  have hT := boxed2 w (.cells #[.int .i64 z, .slice p n c] 26) (.cells #[.slice q m d, .int .i64 a] 32)
  have hx1 := hx.below hT
  have hy1 := hy.below hT
  cases h1 : isReg z hs
  · go_enter Tryz.func15, Tryz.ntmps15
    go_wp2_with fail
    refine (specIsRegion_any _ _ _ _ _ _ hn hx1).mono ?_
    rw [h1]
    rintro e w1 ⟨rfl, hb1⟩
    go_wp2
    go_ret
    exact ⟨ret_bool (by simp [hasRat, h1]), Below.step hT hb1⟩
  cases h2 : ratOk xs a
  · go_enter Tryz.func15, Tryz.ntmps15
    go_wp2_with fail
    refine (specIsRegion_any _ _ _ _ _ _ hn hx1).mono ?_
    rw [h1]
    rintro e w1 ⟨rfl, hb1⟩
    have ka1 := ka.below hb1
    have kb1 := kb.below hb1
    have a0 := ka1.c0
    have a1 := ka1.c1
    have b0 := kb1.c0
    have b1 := kb1.c1
    go_wp2_with fail
    refine (l6Fine_any _ _ _ _ _ _ hm (hy1.below hb1)).mono ?_
    rw [h2]
    rintro e w2 ⟨rfl, hb2⟩
    go_wp2
    go_ret
    exact ⟨ret_bool (by simp [hasRat, h2]), Below.step hT (Below.step hb1 hb2)⟩
  by_cases h3 : (m : Int) = z
  · subst h3
    have Hlen : Hid (∀ k, k < hs.length → (nrm hs k).length = m) := Lib.hid fun k hk => by have := isReg_len h1 k hk; omega
    go_enter Tryz.func15, Tryz.ntmps15
    go_wp2_with fail
    refine (specIsRegion_any _ _ _ _ _ _ hn hx1).mono ?_
    rw [h1]
    rintro e w1 ⟨rfl, hb1⟩
    have ka1 := ka.below hb1
    have kb1 := kb.below hb1
    have a0 := ka1.c0
    have a1 := ka1.c1
    have b0 := kb1.c0
    have b1 := kb1.c1
    go_wp2_with fail
    refine (l6Fine_any _ _ _ _ _ _ hm (hy1.below hb1)).mono ?_
    rw [h2]
    rintro e w2 ⟨rfl, hb2⟩
    have ka2 := ka1.below hb2
    have kb2 := kb1.below hb2
    clear a0 a1 b0 b1
    have a0 := ka2.c0
    have a1 := ka2.c1
    have b0 := kb2.c0
    have b1 := kb2.c1
    have hx2 := (hx1.below hb1).below hb2
    have hy2 := (hy1.below hb1).below hb2
    have hT2 := Below.step hT (Below.step hb1 hb2)
    go_wp2
    generalize w2 = W at *
    go_loopw [5] (fun i wr => ∃ k : Nat, k ≤ n ∧ i = .int .i64 k ∧ Hid (hasF (hs.take k) xs a = true) ∧ Drawn W wr) (fun i _ => n - (intOf i).toNat)
    case atStart => exact ⟨0, Nat.zero_le _, rfl, rfl, Drawn.refl _⟩
    case round =>
      obtain ⟨k, hk, rfl, hall, hD⟩ := hrel
      have a1 := (hD.cell _).trans a1
      have b0 := (hD.cell _).trans b0
      have b1 := (hD.cell _).trans b1
      by_cases hlt : k < n
      · obtain ⟨b, o, q1, m1, d1, rfl, hc, hcb, hmd, hd, hi⟩ := (hx2.below hD.below).cell k hlt
        have hl' : k < hs.length := by rw [hl.out]; exact hlt
        obtain rfl : m1 = m := by rw [← hi.len]; exact Hlen.out k hl'
        have hy3 := hD.ints hy2
        by_cases hr : dotW (nrm hs k) xs ≤ wrap64 (bnd hs k * a)
        all_goals
          go_wp2
          go_quiet ((go_at_call 47; exact Calls.quiet_of (l2Dot_any _ _ _ _ _ _ _ _ hm (hi.drewN _) (hy3.drewN _))))
        · have hgt : ¬ (wrap64 (bnd hs k * a) < dotW (nrm hs k) xs) := by omega
          go_wp2
          go_roundw
          case rel => exact ⟨k + 1, by omega, by go_num, hasF_step hl' hall.out hr, hD.more _⟩
          case measure => simp [intOf]; omega
        · have hgt : wrap64 (bnd hs k * a) < dotW (nrm hs k) xs := by omega
          go_wp2
          go_ret
          exact ⟨ret_bool (by rw [hasRat, hasF_stop hl' (by omega)]; simp), Below.step hT2 (hD.more _).below⟩
      · go_wp2
        go_ret
        have hkn : k = hs.length := by have := hl.out; omega
        exact ⟨ret_bool (by have := hall.out; rw [hkn, List.take_length] at this; rw [hasRat, this, h1, h2, hl2.out]; simp), Below.step hT2 hD.below⟩
  · have h3' : ((m : Int) != z) = true := by simp [h3]
    have H3 := Lib.hid h3
    clear h3
    go_enter Tryz.func15, Tryz.ntmps15
    go_wp2_with fail
    refine (specIsRegion_any _ _ _ _ _ _ hn hx1).mono ?_
    rw [h1]
    rintro e w1 ⟨rfl, hb1⟩
    have ka1 := ka.below hb1
    have kb1 := kb.below hb1
    have a0 := ka1.c0
    have a1 := ka1.c1
    have b0 := kb1.c0
    have b1 := kb1.c1
    go_wp2_with fail
    refine (l6Fine_any _ _ _ _ _ _ hm (hy1.below hb1)).mono ?_
    rw [h2]
    rintro e w2 ⟨rfl, hb2⟩
    have ka2 := ka1.below hb2
    have kb2 := kb1.below hb2
    clear a0 a1 b0 b1
    have a0 := ka2.c0
    have a1 := ka2.c1
    have b0 := kb2.c0
    have b1 := kb2.c1
    go_wp2
    go_ret
    exact ⟨ret_bool (by rw [hasRat, hl2.out, decide_eq_false H3.out]; simp), Below.step hT (Below.step hb1 hb2)⟩

end Go.Proofs.YtpfklkmmhdpphaaGreatDoor
