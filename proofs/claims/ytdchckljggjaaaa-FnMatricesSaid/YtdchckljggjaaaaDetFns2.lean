/- Contracts of determinants. Conditions: sizes. -/
import Derived.Test.YtdchckljggjaaaaDetFns
namespace Go.Proofs.Ytdchckljggjaaaa
open Go.RowKit
set_option linter.unusedVariables false
set_option linter.unusedSimpArgs false
set_option maxRecDepth 100000

theorem det_any (N : Nat) : ∀ (p : Option Addr) (n c : Nat) (xss : List (List Int)) (w : World), N ≤ 3 → Intss w p n xss → Sq N xss →
    Calls Try.prog 102 #[.slice p n c] w (Ret (.int .i64 (detF N xss)) w) := by
  induction N with
  | zero =>
    intro p n c xss w _ hx hs
    obtain rfl : n = 0 := by rw [← hx.len]; exact hs.1
    go_enter Try.func102, Try.ntmps102
    go_wp2_with fail
    go_ret
    exact Ret.same
  | succ N ih =>
    intro p n c xss w hN hx hs
    obtain rfl : n = N + 1 := by rw [← hx.len]; exact hs.1
    obtain ⟨b, o, q, m, d, rfl, hc, hmd, hd, hi⟩ := hx.cellc 0 (by omega)
    obtain rfl : m = N + 1 := by rw [← hi.len]; exact hs.2 0 (by omega)
    rw [Nat.add_zero] at hc
    have Hs := Lib.hid hs
    have Ih := Lib.hid ih
    clear hs ih
    have hne : ((N : Int) + 1 == 0) = false := by simp; omega
    go_enter Try.func102, Try.ntmps102
    go_wp2_with fail
    go_loopw [3, 4, 14] (fun a s t wr => ∃ k : Nat, k ≤ N + 1 ∧ t = .int .i64 k ∧ a = .int .i64 (detTo (detF N) xss k) ∧ s = .int .i64 (sgn k) ∧ Below w.heap.size w wr) (fun _ _ t _ => N + 1 - (intOf t).toNat)
    case atStart => exact ⟨0, Nat.zero_le _, rfl, rfl, rfl, Below.refl _ _⟩
    case round =>
      obtain ⟨k, hk, rfl, rfl, rfl, hb⟩ := hrel
      have hsg := sgn_or k
      have hsg1 : -1 ≤ sgn k ∧ sgn k ≤ 1 := by omega
      obtain ⟨hsg2, hsg3⟩ := hsg1
      clear hsg
      by_cases hlt : k < N + 1
      · obtain ⟨b2, o2, rfl, hc2⟩ := (hi.below hb).cell k hlt
        by_cases h0 : nth (nthR xss 0) k = 0
        · have h0' : (nth (nthR xss 0) k != 0) = false := by simp [h0]
          have Hstep : Hid (detTo (detF N) xss (k + 1) = detTo (detF N) xss k) := by show _ = _; rw [detTo, if_pos h0]
          clear h0
          go_wp2_with fail
          go_roundw
          case rel => exact ⟨k + 1, by omega, by go_num, by rw [Hstep.out], rfl, hb⟩
          case measure => simp [intOf]; omega
        · have h0' : (nth (nthR xss 0) k != 0) = true := by simp [h0]
          have Hstep : Hid (detTo (detF N) xss (k + 1) = wrap64 (detTo (detF N) xss k + wrap64 (wrap64 (sgn k * nth (nthR xss 0) k) * detF N (minorL xss 0 k)))) := by show _ = _; rw [detTo, if_neg h0]
          clear h0
          go_wp2_with fail
          refine (minor0_any _ _ _ _ _ N _ (hx.below hb) (by omega) Hs.out hlt).mono ?_
          rintro e w1 ⟨q1, m1, d1, rfl, ho1, hb1⟩
          go_wp2_with fail
          refine (Ih.out _ _ _ _ _ (by omega) ho1.rd (Hs.out.minor (by omega) hlt)).mono ?_
          rintro e w2 ⟨rfl, hb2⟩
          go_wp2_with fail
          go_roundw
          case rel => exact ⟨k + 1, by omega, by go_num, by rw [Hstep.out], rfl, hb.trans ((hb1.mono hb.size).trans (hb2.mono (Nat.le_trans hb.size hb1.size)))⟩
          case measure => simp [intOf]; omega
      · go_wp2_with fail
        go_ret
        obtain rfl : k = N + 1 := by omega
        exact ⟨rfl, hb⟩

def s3 (xss : List (List Int)) : Nat → Int
  | 0 => 0
  | k + 1 => wrap64 (s3 xss k + wrap64 (nth (nthR xss 0) k * wrap64 (wrap64 (nth (nthR xss 1) ((k + 1) % 3) * nth (nthR xss 2) ((k + 2) % 3)) - wrap64 (nth (nthR xss 1) ((k + 2) % 3) * nth (nthR xss 2) ((k + 1) % 3)))))

theorem l3Det_one (p : Option Addr) (c : Nat) (xss : List (List Int)) (w : World) (hx : Intss w p 1 xss) (hs : Sq 1 xss) :
    Calls Try.prog 93 #[.slice p 1 c] w (Ret (.int .i64 (detS xss)) w) := by
  obtain ⟨b, o, q, m, d, rfl, hc, hmd, hd, hi⟩ := hx.cellc 0 (by omega)
  obtain rfl : m = 1 := by rw [← hi.len]; exact hs.2 0 (by omega)
  obtain ⟨b2, o2, rfl, hc2⟩ := hi.cell 0 (by omega)
  rw [Nat.add_zero] at hc hc2
  obtain ⟨a, rfl⟩ := hs.one
  go_enter Try.func93, Try.ntmps93
  go_wp2_with fail
  go_ret
  exact ⟨rfl, Below.refl _ _⟩

theorem l3Det_two (p : Option Addr) (c : Nat) (xss : List (List Int)) (w : World) (hx : Intss w p 2 xss) (hs : Sq 2 xss) :
    Calls Try.prog 93 #[.slice p 2 c] w (Ret (.int .i64 (detS xss)) w) := by
  obtain ⟨b, o, q, m, d, rfl, hc, hmd, hd, hi⟩ := hx.cellc 0 (by omega)
  obtain ⟨b', o', q', m', d', hp, hc', hmd', hd', hi'⟩ := hx.cellc 1 (by omega)
  injection hp with hp
  injection hp with e1 e2
  subst e1; subst e2
  obtain rfl : m = 2 := by rw [← hi.len]; exact hs.2 0 (by omega)
  obtain rfl : m' = 2 := by rw [← hi'.len]; exact hs.2 1 (by omega)
  obtain ⟨b2, o2, rfl, k0⟩ := hi.cell 0 (by omega)
  obtain ⟨_, _, h1, k1⟩ := hi.cell 1 (by omega)
  injection h1 with h1
  injection h1 with e1 e2
  subst e1; subst e2
  obtain ⟨b3, o3, rfl, k2⟩ := hi'.cell 0 (by omega)
  obtain ⟨_, _, h1, k3⟩ := hi'.cell 1 (by omega)
  injection h1 with h1
  injection h1 with e1 e2
  subst e1; subst e2
  rw [Nat.add_zero] at hc k0 k2
  obtain ⟨x, y, z, t, rfl⟩ := hs.two
  simp only [nthR, nth, List.getD_cons_zero, List.getD_cons_succ] at k0 k1 k2 k3
  go_enter Try.func93, Try.ntmps93
  go_wp2_with fail
  go_quiet (fail)
  go_wp2_with fail
  go_ret
  exact ⟨rfl, Below.drawn (Below.refl _ _) _⟩

end Go.Proofs.Ytdchckljggjaaaa
