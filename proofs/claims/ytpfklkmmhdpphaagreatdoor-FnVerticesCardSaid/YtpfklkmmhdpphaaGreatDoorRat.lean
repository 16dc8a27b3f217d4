/- Contracts of both CompareRationals. Conditions: sizes. -/
import Derived.Test.YtpfklkmmhdpphaaGreatDoorHalf
namespace Go.Proofs.YtpfklkmmhdpphaaGreatDoor
open Go.RowKit
set_option linter.unusedVariables false
set_option linter.unusedSimpArgs false
set_option maxRecDepth 100000

def ratOk (xs : List Int) (a : Int) : Bool := inR a 1 100000 && allR xs (-10000000) 10000000

theorem l6Fine_any (p : Option Addr) (n c : Nat) (xs : List Int) (a : Int) (w : World) (hn : n ≤ 9223372036854775807) (hx : Ints w p n xs) :
    Calls Tryz.prog 46 #[.agg #[.slice p n c, .int .i64 a]] w (Ret (.bool (ratOk xs a)) w) := by
  have hx1 := hx.alloc (.cells #[.slice p n c, .int .i64 a] 32)
  cases h1 : inR a 1 100000
  all_goals
    go_enter Tryz.func46, Tryz.ntmps46
    go_wp2_with (first | (go_at_call 54; (with_reducible refine (l1In_any _ _ _ _).mono ?_); rintro e w' ⟨rfl, rfl⟩) | (go_at_call 55; (with_reducible refine (l2Small_any _ _ _ _ _ _ hx1 hn (by decide) (by decide)).mono ?_); rintro e w' ⟨rfl, rfl⟩))
    go_ret
    exact ⟨ret_bool (by simp [ratOk, h1]), boxed _ _⟩
theorem rationalOk_any (p : Option Addr) (n c : Nat) (xs : List Int) (a : Int) (w : World) (hn : n ≤ 9223372036854775807) (hx : Ints w p n xs) :
    Calls Tryz.prog 45 #[.agg #[.slice p n c, .int .i64 a]] w (Ret (.bool (ratOk xs a)) w) := by
  have hx1 := hx.alloc (.cells #[.slice p n c, .int .i64 a] 32)
  cases h1 : inR a 1 100000
  all_goals
    go_enter Tryz.func45, Tryz.ntmps45
    go_wp2_with (first | (go_at_call 58; (with_reducible refine (within_any _ _ _ _).mono ?_); rintro e w' ⟨rfl, rfl⟩) | (go_at_call 71; (with_reducible refine (allWithin_any _ _ _ _ _ _ _ hx1 hn).mono ?_); rintro e w' ⟨rfl, rfl⟩))
    go_ret
    exact ⟨ret_bool (by simp [ratOk, h1]), boxed _ _⟩

/-- The order of two fractions: numerators times the other's denominator. -/
def fracCmp (xs : List Int) (a : Int) (ys : List Int) (b : Int) : Int := cmpL (scaleW xs b) (scaleW ys a)

theorem qs {P : Program} {f : FuncId} {a : Array Value} {w : World} {v : Value} (h : Calls P f a w fun e w' => e = .returned v ∧ w = w') : Calls P f a w fun e w' => e = .returned v ∧ ∃ z, w' = w.drewN z :=
  h.mono fun e w' ⟨he, hw⟩ => ⟨he, 0, hw.symm⟩

theorem box2c (w : World) (v0 v1 u0 u1 : Value) (T U : TypeId) :
    ((w.alloc (.cells #[v0, v1] T)).alloc (.cells #[u0, u1] U)).cell? ⟨w.heap.size, 0, none⟩ = some v0 ∧ ((w.alloc (.cells #[v0, v1] T)).alloc (.cells #[u0, u1] U)).cell? ⟨w.heap.size, 1, none⟩ = some v1 ∧
    ((w.alloc (.cells #[v0, v1] T)).alloc (.cells #[u0, u1] U)).cell? ⟨w.heap.size + 1, 0, none⟩ = some u0 ∧ ((w.alloc (.cells #[v0, v1] T)).alloc (.cells #[u0, u1] U)).cell? ⟨w.heap.size + 1, 1, none⟩ = some u1 := by
  refine ⟨?_, ?_, ?_, ?_⟩ <;> simp [go_sem]

theorem compareFractions_any (p q : Option Addr) (n c d : Nat) (xs ys : List Int) (a b : Int) (w : World) (hn : n ≤ 9223372036854775807) (hx : Ints w p n xs) (hy : Ints w q n ys) :
    Calls Tryz.prog 33 #[.agg #[.slice p n c, .int .i64 a], .agg #[.slice q n d, .int .i64 b]] w (Ret (.int .i64 (fracCmp xs a ys b)) w) := by
  have hl := Lib.hid hx.len
  have hl2 := Lib.hid hy.len
  obtain ⟨k0, k1, k2, k3⟩ := box2c w (.slice p n c) (.int .i64 a) (.slice q n d) (.int .i64 b) 32 32
  have hb0 := boxed2 w (.cells #[.slice p n c, .int .i64 a] 32) (.cells #[.slice q n d, .int .i64 b] 32)
  have hx0 := (hx.alloc (.cells #[.slice p n c, .int .i64 a] 32)).alloc (.cells #[.slice q n d, .int .i64 b] 32)
  have hy0 := (hy.alloc (.cells #[.slice p n c, .int .i64 a] 32)).alloc (.cells #[.slice q n d, .int .i64 b] 32)
  go_enter Tryz.func33, Tryz.ntmps33
  go_wp2
  generalize (w.alloc (.cells #[.slice p n c, .int .i64 a] 32)).alloc (.cells #[.slice q n d, .int .i64 b] 32) = W at *
  go_loopw [10] (fun i wr => ∃ k : Nat, k ≤ n ∧ i = .int .i64 k ∧ Hid (cmpL ((scaleW xs b).drop k) ((scaleW ys a).drop k) = fracCmp xs a ys b) ∧ Drawn W wr) (fun i _ => n - (intOf i).toNat)
  case atStart => exact ⟨0, Nat.zero_le _, rfl, rfl, Drawn.refl _⟩
  case round =>
    obtain ⟨k, hk, rfl, hcm, hD⟩ := hrel
    have k0 := (hD.cell _).trans k0
    have k1 := (hD.cell _).trans k1
    have k2 := (hD.cell _).trans k2
    have k3 := (hD.cell _).trans k3
    by_cases hlt : k < n
    · obtain ⟨b1, o1, rfl, hc⟩ := (hD.ints hx0).cell k hlt
      obtain ⟨b2, o2, rfl, hc2⟩ := (hD.ints hy0).cell k hlt
      have e1 := scaleW_nth (xs := xs) (q := b) (k := k) (by rw [hl.out]; exact hlt)
      have e2 := scaleW_nth (xs := ys) (q := a) (k := k) (by rw [hl2.out]; exact hlt)
      by_cases h0 : cmpI (wrap64 (nth xs k * b)) (wrap64 (nth ys k * a)) = 0
      · have h0' : (cmpI (wrap64 (nth xs k * b)) (wrap64 (nth ys k * a)) != 0) = false := by simp [h0]
        have H0 := Lib.hid h0
        have E1 := Lib.hid e1
        have E2 := Lib.hid e2
        clear h0 e1 e2
        go_wp2
        go_quiet ((go_at_call 65; rw [wrapEq, wrapEq]; exact Calls.quiet_of (qs (cmpCompare_any _ _ _))))
        go_wp2
        go_roundw
        case rel => exact ⟨k + 1, by omega, by go_num, (cmpL_step (by rw [scaleW_length, hl.out]; exact hlt) (by rw [scaleW_length, hl2.out]; exact hlt) (by rw [E1.out, E2.out]; exact H0.out)).symm.trans hcm.out, hD.more _⟩
        case measure => simp [intOf]; omega
      · have h0' : (cmpI (wrap64 (nth xs k * b)) (wrap64 (nth ys k * a)) != 0) = true := by simp [h0]
        have H0 := Lib.hid h0
        have E1 := Lib.hid e1
        have E2 := Lib.hid e2
        clear h0 e1 e2
        go_wp2
        go_quiet ((go_at_call 65; rw [wrapEq, wrapEq]; exact Calls.quiet_of (qs (cmpCompare_any _ _ _))))
        go_wp2
        go_ret
        refine ⟨ret_int ?_, Below.trans hb0 ((hD.more _).below.mono hb0.size)⟩
        rw [← hcm.out, cmpL_stop (by rw [scaleW_length, hl.out]; exact hlt) (by rw [scaleW_length, hl2.out]; exact hlt) (by rw [E1.out, E2.out]; exact H0.out), E1.out, E2.out]
    · go_wp2
      go_ret
      refine ⟨ret_int ?_, Below.trans hb0 (hD.below.mono hb0.size)⟩
      have := hcm.out
      rw [List.drop_eq_nil_of_le (by rw [scaleW_length, hl.out]; omega), List.drop_eq_nil_of_le (by rw [scaleW_length, hl2.out]; omega)] at this
      exact this

end Go.Proofs.YtpfklkmmhdpphaaGreatDoor
