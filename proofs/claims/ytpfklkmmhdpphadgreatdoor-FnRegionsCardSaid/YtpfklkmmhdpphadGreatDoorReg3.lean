/- Contracts of both HasPoint. Conditions: sizes. -/
import Derived.Test.YtpfklkmmhdpphadGreatDoorReg2
namespace Go.Proofs.YtpfklkmmhdpphadGreatDoor
open Go.RowKit
set_option linter.unusedVariables false
set_option linter.unusedSimpArgs false
set_option maxRecDepth 100000

/-- A point is in all halves. -/
def hasP (hs : List Pr) (xs : List Int) : Bool := hs.all fun h => decide (dotW h.1 xs ≤ h.2)
def hasPt (z : Int) (hs : List Pr) (xs : List Int) : Bool := isReg z hs && (isVec xs && (decide ((xs.length : Int) = z) && hasP hs xs))
theorem hasP_step {hs : List Pr} {xs : List Int} {k : Nat} (h : k < hs.length) (ha : hasP (hs.take k) xs = true) (hn : dotW (nrm hs k) xs ≤ bnd hs k) : hasP (hs.take (k + 1)) xs = true := by
  rw [take_prAt h]
  simp only [hasP, List.all_append, Bool.and_eq_true, List.all_cons, List.all_nil, Bool.and_true, decide_eq_true_eq] at ha ⊢
  exact ⟨ha, hn⟩
theorem hasP_stop {hs : List Pr} {xs : List Int} {k : Nat} (h : k < hs.length) (hn : ¬ dotW (nrm hs k) xs ≤ bnd hs k) : hasP hs xs = false := by
  simp only [hasP, List.all_eq_false]
  exact ⟨prAt hs k, prAt_mem h, by simpa [nrm, bnd] using hn⟩

/-- The loop over halves, with a box that holds the region. -/
theorem l4Has_any (z : Int) (p q : Option Addr) (n c m d : Nat) (hs : List Pr) (xs : List Int) (w : World) (hn : n ≤ 9223372036854775807) (hm : m ≤ 9223372036854775807) (hx : Prs w p n hs) (hy : Ints w q m xs) (hlen : ∀ k, k < hs.length → (nrm hs k).length = m) :
    Calls Tryz.prog 63 #[.agg #[.int .i64 z, .slice p n c], .slice q m d] w (Ret (.bool (hasP hs xs)) w) := by
  have hl := Lib.hid hx.len
  have Hlen := Lib.hid hlen
  clear hlen
  obtain ⟨k0, k1⟩ := box1c w (.int .i64 z) (.slice p n c) 26
  have hT := boxed w (.cells #[.int .i64 z, .slice p n c] 26)
  have hx1 := hx.below hT
  have hy1 := hy.below hT
  have hsz : w.heap.size < (w.alloc (.cells #[.int .i64 z, .slice p n c] 26)).heap.size := by simp
  go_enter Tryz.func63, Tryz.ntmps63
  go_wp2
  generalize w.alloc (.cells #[.int .i64 z, .slice p n c] 26) = W at *
  go_loopw [5] (fun i wr => ∃ k : Nat, k ≤ n ∧ i = .int .i64 k ∧ Hid (hasP (hs.take k) xs = true) ∧ Drawn W wr) (fun i _ => n - (intOf i).toNat)
  case atStart => exact ⟨0, Nat.zero_le _, rfl, rfl, Drawn.refl _⟩
  case round =>
    obtain ⟨k, hk, rfl, hall, hD⟩ := hrel
    have k0 := (hD.cell _).trans k0
    have k1 := (hD.cell _).trans k1
    by_cases hlt : k < n
    · obtain ⟨b, o, q1, m1, d1, rfl, hc, hcb, hmd, hd, hi⟩ := (hx1.below hD.below).cell k hlt
      have hl' : k < hs.length := by rw [hl.out]; exact hlt
      obtain rfl : m1 = m := by rw [← hi.len]; exact Hlen.out k hl'
      have hy2 := hD.ints hy1
      go_wp2
      go_quiet ((go_at_call 34; exact Calls.quiet_of (l2Dot_any _ _ _ _ _ _ _ _ hm (hi.drewN _) (hy2.drewN _))))
      by_cases hr : dotW (nrm hs k) xs ≤ bnd hs k
      · have hgt : ¬ (bnd hs k < dotW (nrm hs k) xs) := by omega
        go_wp2
        go_roundw
        case rel => exact ⟨k + 1, by omega, by go_num, hasP_step hl' hall.out hr, hD.more _⟩
        case measure => simp [intOf]; omega
      · have hgt : bnd hs k < dotW (nrm hs k) xs := by omega
        go_wp2
        go_ret
        exact ⟨ret_bool (hasP_stop hl' (by omega)).symm, Below.step hT (hD.more _).below⟩
    · go_wp2
      go_ret
      have hkn : k = hs.length := by have := hl.out; omega
      exact ⟨ret_bool (by have := hall.out; rw [hkn, List.take_length] at this; exact this.symm), Below.step hT hD.below⟩

theorem isReg_len {z : Int} {hs : List Pr} (h : isReg z hs = true) : ∀ k, k < hs.length → ((nrm hs k).length : Int) = z := fun k hk =>
  (isHalf_facts ((isReg_facts h).2.2.2 k hk)).1

theorem specHas_any (z : Int) (p q : Option Addr) (n c m d : Nat) (hs : List Pr) (xs : List Int) (w : World) (hn : n ≤ 9223372036854775807) (hm : m ≤ 9223372036854775807) (hx : Prs w p n hs) (hy : Ints w q m xs) :
    Calls Tryz.prog 22 #[.agg #[.int .i64 z, .slice p n c], .slice q m d] w (Ret (.bool (hasPt z hs xs)) w) := by
  have hl := Lib.hid hx.len
  have hl2 := Lib.hid hy.len
  have hx1 := hx.alloc (.cells #[.int .i64 z, .slice p n c] 26)
  have hy1 := hy.alloc (.cells #[.int .i64 z, .slice p n c] 26)
  obtain ⟨k0, k1⟩ := box1c w (.int .i64 z) (.slice p n c) 26
  have hT := boxed w (.cells #[.int .i64 z, .slice p n c] 26)
  cases h1 : isReg z hs
  · go_enter Tryz.func22, Tryz.ntmps22
    go_wp2_with fail
    refine (specIsRegion_any _ _ _ _ _ _ hn hx1).mono ?_
    rw [h1]
    rintro e w1 ⟨rfl, hb1⟩
    go_wp2
    go_ret
    exact ⟨ret_bool (by simp [hasPt, h1]), Below.step hT hb1⟩
  cases h2 : isVec xs
  · go_enter Tryz.func22, Tryz.ntmps22
    go_wp2_with fail
    refine (specIsRegion_any _ _ _ _ _ _ hn hx1).mono ?_
    rw [h1]
    rintro e w1 ⟨rfl, hb1⟩
    go_wp2_with fail
    refine (specIsVector_any _ _ _ _ _ (hy1.below hb1) hm).mono ?_
    rw [h2]
    rintro e w2 ⟨rfl, rfl⟩
    go_wp2
    go_ret
    exact ⟨ret_bool (by simp [hasPt, h2]), Below.step hT hb1⟩
  by_cases h3 : (m : Int) = z
  · subst h3
    have Hlen : Hid (∀ k, k < hs.length → (nrm hs k).length = m) := Lib.hid fun k hk => by have := isReg_len h1 k hk; omega
    go_enter Tryz.func22, Tryz.ntmps22
    go_wp2_with fail
    refine (specIsRegion_any _ _ _ _ _ _ hn hx1).mono ?_
    rw [h1]
    rintro e w1 ⟨rfl, hb1⟩
    replace k0 := Below.cells hb1 k0
    replace k1 := Below.cells hb1 k1
    go_wp2_with fail
    refine (specIsVector_any _ _ _ _ _ (hy1.below hb1) hm).mono ?_
    rw [h2]
    rintro e w2 ⟨rfl, rfl⟩
    go_wp2_with fail
    refine (l4Has_any _ _ _ _ _ _ _ _ _ _ hn hm (hx1.below hb1) (hy1.below hb1) Hlen.out).mono ?_
    rintro e w2 ⟨rfl, hb2⟩
    go_wp2
    go_ret
    exact ⟨ret_bool (by rw [hasPt, h1, h2, hl2.out]; simp), Below.step hT (Below.step hb1 hb2)⟩
  · have h3' : ((m : Int) == z) = false := by simp [h3]
    have H3 := Lib.hid h3
    clear h3
    go_enter Tryz.func22, Tryz.ntmps22
    go_wp2_with fail
    refine (specIsRegion_any _ _ _ _ _ _ hn hx1).mono ?_
    rw [h1]
    rintro e w1 ⟨rfl, hb1⟩
    replace k0 := Below.cells hb1 k0
    replace k1 := Below.cells hb1 k1
    go_wp2_with fail
    refine (specIsVector_any _ _ _ _ _ (hy1.below hb1) hm).mono ?_
    rw [h2]
    rintro e w2 ⟨rfl, rfl⟩
    go_wp2
    go_ret
    exact ⟨ret_bool (by rw [hasPt, hl2.out, decide_eq_false H3.out]; simp), Below.step hT hb1⟩

theorem implHas_any (z : Int) (p q : Option Addr) (n c m d : Nat) (hs : List Pr) (xs : List Int) (w : World) (hn : n ≤ 9223372036854775807) (hm : m ≤ 9223372036854775807) (hx : Prs w p n hs) (hy : Ints w q m xs) :
    Calls Tryz.prog 21 #[.agg #[.int .i64 z, .slice p n c], .slice q m d] w (Ret (.bool (hasPt z hs xs)) w) := by
  have hl := Lib.hid hx.len
  have hl2 := Lib.hid hy.len
  have hx1 := hx.alloc (.cells #[.int .i64 z, .slice p n c] 26)
  have hy1 := hy.alloc (.cells #[.int .i64 z, .slice p n c] 26)
  obtain ⟨k0, k1⟩ := box1c w (.int .i64 z) (.slice p n c) 26
  have hT := boxed w (.cells #[.int .i64 z, .slice p n c] 26)
  have hsz : w.heap.size < (w.alloc (.cells #[.int .i64 z, .slice p n c] 26)).heap.size := by simp
  cases h1 : isReg z hs
  · go_enter Tryz.func21, Tryz.ntmps21
    go_wp2_with fail
    refine (implIsRegion_any _ _ _ _ _ _ hn hx1).mono ?_
    rw [h1]
    rintro e w1 ⟨rfl, hb1⟩
    go_wp2
    go_ret
    exact ⟨ret_bool (by simp [hasPt, h1]), Below.step hT hb1⟩
  cases h2 : isVec xs
  · go_enter Tryz.func21, Tryz.ntmps21
    go_wp2_with fail
    refine (implIsRegion_any _ _ _ _ _ _ hn hx1).mono ?_
    rw [h1]
    rintro e w1 ⟨rfl, hb1⟩
    go_wp2_with fail
    refine (implIsVector_any _ _ _ _ _ (hy1.below hb1) hm).mono ?_
    rw [h2]
    rintro e w2 ⟨rfl, rfl⟩
    go_wp2
    go_ret
    exact ⟨ret_bool (by simp [hasPt, h2]), Below.step hT hb1⟩
  by_cases h3 : (m : Int) = z
  · subst h3
    have Hlen : Hid (∀ k, k < hs.length → (nrm hs k).length = m) := Lib.hid fun k hk => by have := isReg_len h1 k hk; omega
    go_enter Tryz.func21, Tryz.ntmps21
    go_wp2_with fail
    refine (implIsRegion_any _ _ _ _ _ _ hn hx1).mono ?_
    rw [h1]
    rintro e w1 ⟨rfl, hb1⟩
    replace k0 := Below.cells hb1 k0
    replace k1 := Below.cells hb1 k1
    go_wp2_with fail
    refine (implIsVector_any _ _ _ _ _ (hy1.below hb1) hm).mono ?_
    rw [h2]
    rintro e w2 ⟨rfl, rfl⟩
    replace hx1 := hx1.below hb1
    replace hy1 := hy1.below hb1
    go_wp2
    generalize w1 = W at *
    go_loopw [25] (fun i wr => ∃ k : Nat, k ≤ n ∧ i = .int .i64 k ∧ Hid (hasP (hs.take k) xs = true) ∧ Below W.heap.size W wr) (fun i _ => n - (intOf i).toNat)
    case atStart => exact ⟨0, Nat.zero_le _, rfl, rfl, Below.refl _ _⟩
    case round =>
      obtain ⟨k, hk, rfl, hall, hb⟩ := hrel
      by_cases hlt : k < n
      · obtain ⟨b, o, q1, m1, d1, rfl, hc, hcb, hmd, hd, hi⟩ := (hx1.below hb).cell k hlt
        have hl' : k < hs.length := by rw [hl.out]; exact hlt
        obtain rfl : m1 = m := by rw [← hi.len]; exact Hlen.out k hl'
        have hy2 := (hy1.below hb).alloc (.cells #[.slice q1 m1 d1, .int .i64 (bnd hs k)] 36)
        have hi2 := hi.alloc (.cells #[.slice q1 m1 d1, .int .i64 (bnd hs k)] 36)
        go_wp2
        go_quiet ((go_at_call 30; exact Calls.quiet_of (dot_any _ _ _ _ _ _ _ _ hm (hi2.drewN _) (hy2.drewN _))))
        by_cases hr : dotW (nrm hs k) xs ≤ bnd hs k
        · have hgt : ¬ (bnd hs k < dotW (nrm hs k) xs) := by omega
          go_wp2
          go_roundw
          case rel => exact ⟨k + 1, by omega, by go_num, hasP_step hl' hall.out hr, Below.drawn (Below.step hb (boxed _ _)) _⟩
          case measure => simp [intOf]; omega
        · have hgt : bnd hs k < dotW (nrm hs k) xs := by omega
          go_wp2
          go_ret
          exact ⟨ret_bool (by rw [hasPt, hasP_stop hl' (by omega)]; simp), Below.step hT (Below.step hb1 (Below.drawn (Below.step hb (boxed _ _)) _))⟩
      · go_wp2
        go_ret
        have hkn : k = hs.length := by have := hl.out; omega
        exact ⟨ret_bool (by have := hall.out; rw [hkn, List.take_length] at this; rw [hasPt, this, h1, h2, hl2.out]; simp), Below.step hT (Below.step hb1 hb)⟩
  · have h3' : ((m : Int) != z) = true := by simp [h3]
    have H3 := Lib.hid h3
    clear h3
    go_enter Tryz.func21, Tryz.ntmps21
    go_wp2_with fail
    refine (implIsRegion_any _ _ _ _ _ _ hn hx1).mono ?_
    rw [h1]
    rintro e w1 ⟨rfl, hb1⟩
    replace k0 := Below.cells hb1 k0
    replace k1 := Below.cells hb1 k1
    go_wp2_with fail
    refine (implIsVector_any _ _ _ _ _ (hy1.below hb1) hm).mono ?_
    rw [h2]
    rintro e w2 ⟨rfl, rfl⟩
    go_wp2
    go_ret
    exact ⟨ret_bool (by rw [hasPt, hl2.out, decide_eq_false H3.out]; simp), Below.step hT hb1⟩

end Go.Proofs.YtpfklkmmhdpphadGreatDoor
