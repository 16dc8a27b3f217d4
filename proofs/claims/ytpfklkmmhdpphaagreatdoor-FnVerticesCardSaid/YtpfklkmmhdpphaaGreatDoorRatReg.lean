/- Contracts of both HasRational. Conditions: sizes. -/
import Derived.Test.YtpfklkmmhdpphaaGreatDoorEqReg2
import Derived.Test.YtpfklkmmhdpphaaGreatDoorRat
namespace Go.Proofs.YtpfklkmmhdpphaaGreatDoor
open Go.RowKit
set_option linter.unusedVariables false
set_option linter.unusedSimpArgs false
set_option maxRecDepth 100000

def hasF (hs : List Pr) (xs : List Int) (a : Int) : Bool := hs.all fun h => decide (dotW h.1 xs ≤ wrap64 (h.2 * a))
def hasRat (z : Int) (hs : List Pr) (xs : List Int) (a : Int) : Bool := isReg z hs && (ratOk xs a && (decide ((xs.length : Int) = z) && hasF hs xs a))
theorem hasF_step {hs : List Pr} {xs : List Int} {a : Int} {k : Nat} (h : k < hs.length) (ha : hasF (hs.take k) xs a = true) (hn : dotW (nrm hs k) xs ≤ wrap64 (bnd hs k * a)) : hasF (hs.take (k + 1)) xs a = true := by
  rw [take_prAt h]
  simp only [hasF, List.all_append, Bool.and_eq_true, List.all_cons, List.all_nil, Bool.and_true, decide_eq_true_eq] at ha ⊢
  exact ⟨ha, hn⟩
theorem hasF_stop {hs : List Pr} {xs : List Int} {a : Int} {k : Nat} (h : k < hs.length) (hn : ¬ dotW (nrm hs k) xs ≤ wrap64 (bnd hs k * a)) : hasF hs xs a = false := by
  simp only [hasF, List.all_eq_false]
  exact ⟨prAt hs k, prAt_mem h, by simpa [nrm, bnd] using hn⟩

/-- A region and a rational point, each in a box of its own. -/
theorem boxesRR (w : World) (z : Int) (p : Option Addr) (n c : Nat) (q : Option Addr) (m d : Nat) (a : Int) :
    Box2 ((w.alloc (.cells #[.int .i64 z, .slice p n c] 26)).alloc (.cells #[.slice q m d, .int .i64 a] 32)) w.heap.size (.int .i64 z) (.slice p n c) 26 ∧
    Box2 ((w.alloc (.cells #[.int .i64 z, .slice p n c] 26)).alloc (.cells #[.slice q m d, .int .i64 a] 32)) (w.heap.size + 1) (.slice q m d) (.int .i64 a) 32 := by
  refine ⟨(Box2.new w _ _ _).alloc _, ?_⟩
  have h := Box2.new (w.alloc (.cells #[.int .i64 z, .slice p n c] 26)) (.slice q m d) (.int .i64 a) 32
  rwa [World.size_alloc] at h

theorem hasFraction_any (z : Int) (p q : Option Addr) (n c m d : Nat) (hs : List Pr) (xs : List Int) (a : Int) (w : World) (hn : n ≤ 9223372036854775807) (hm : m ≤ 9223372036854775807) (hx : Prs w p n hs) (hy : Ints w q m xs) (hlen : ∀ k, k < hs.length → (nrm hs k).length = m) :
    Calls Tryz.prog 31 #[.agg #[.int .i64 z, .slice p n c], .agg #[.slice q m d, .int .i64 a]] w (Ret (.bool (hasF hs xs a)) w) := by
  have hl := Lib.hid hx.len
  have Hlen := Lib.hid hlen
  clear hlen
  obtain ⟨_, kb⟩ := boxesRR w z p n c q m d a
  have hT := boxed2 w (.cells #[.int .i64 z, .slice p n c] 26) (.cells #[.slice q m d, .int .i64 a] 32)
  have hx1 := hx.below hT
  have hy1 := hy.below hT
  go_enter Tryz.func31, Tryz.ntmps31
  go_wp2
  generalize ((w.alloc (.cells #[.int .i64 z, .slice p n c] 26)).alloc (.cells #[.slice q m d, .int .i64 a] 32)) = W at *
  go_loopw [10] (fun i wr => ∃ k : Nat, k ≤ n ∧ i = .int .i64 k ∧ Hid (hasF (hs.take k) xs a = true) ∧ Below W.heap.size W wr) (fun i _ => n - (intOf i).toNat)
  case atStart => exact ⟨0, Nat.zero_le _, rfl, rfl, Below.refl _ _⟩
  case round =>
    obtain ⟨k, hk, rfl, hall, hb⟩ := hrel
    by_cases hlt : k < n
    · obtain ⟨b, o, q1, m1, d1, rfl, hc, hcb, hmd, hd, hi⟩ := (hx1.below hb).cell k hlt
      have hl' : k < hs.length := by rw [hl.out]; exact hlt
      obtain rfl : m1 = m := by rw [← hi.len]; exact Hlen.out k hl'
      have bx := boxed wr (.cells #[.slice q1 m1 d1, .int .i64 (bnd hs k)] 47)
      have hi2 := hi.below bx
      have hy2 := (hy1.below hb).below bx
      have kb2 := (kb.below hb).below bx
      have kb20 := kb2.c0
      have kb21 := kb2.c1
      have hb2 := Below.step hb bx
      by_cases hr : dotW (nrm hs k) xs ≤ wrap64 (bnd hs k * a)
      all_goals
        go_wp2
        go_quiet ((go_at_call 29; exact Calls.quiet_of (dot_any _ _ _ _ _ _ _ _ hm (hi2.drewN _) (hy2.drewN _))))
      · have hgt : ¬ (wrap64 (bnd hs k * a) < dotW (nrm hs k) xs) := by omega
        go_wp2
        go_roundw
        case rel => exact ⟨k + 1, by omega, by go_num, hasF_step hl' hall.out hr, Below.drawn hb2 _⟩
        case measure => simp [intOf]; omega
      · have hgt : wrap64 (bnd hs k * a) < dotW (nrm hs k) xs := by omega
        go_wp2
        go_ret
        exact ⟨ret_bool (hasF_stop hl' (by omega)).symm, Below.step hT (Below.drawn hb2 _)⟩
    · go_wp2
      go_ret
      have hkn : k = hs.length := by have := hl.out; omega
      exact ⟨ret_bool (by have := hall.out; rw [hkn, List.take_length] at this; exact this.symm), Below.step hT hb⟩

end Go.Proofs.YtpfklkmmhdpphaaGreatDoor
