/- Contracts of the reference's determinant at three rows, and of both DetOf. Conditions: sizes. -/
import Derived.Test.YtdchckljggjaaaaDetFns2
namespace Go.Proofs.Ytdchckljggjaaaa
open Go.RowKit
set_option linter.unusedVariables false
set_option linter.unusedSimpArgs false
set_option maxRecDepth 100000

theorem Ints.three {w : World} {q : Option Addr} {xs : List Int} (h : Ints w q 3 xs) : ∃ b o, q = some ⟨b, o, none⟩ ∧ w.cell? ⟨b, o, none⟩ = some (.int .i64 (nth xs 0)) ∧ w.cell? ⟨b, o + 1, none⟩ = some (.int .i64 (nth xs 1)) ∧ w.cell? ⟨b, o + 2, none⟩ = some (.int .i64 (nth xs 2)) := by
  obtain ⟨b, o, hq, h0⟩ := h.cell 0 (by omega)
  obtain ⟨b1, o1, hq1, h1⟩ := h.cell 1 (by omega)
  obtain ⟨b2, o2, hq2, h2⟩ := h.cell 2 (by omega)
  rw [hq] at hq1 hq2
  injection hq1 with hq1
  injection hq1 with e1 e2
  injection hq2 with hq2
  injection hq2 with e3 e4
  subst e1; subst e2; subst e3; subst e4
  exact ⟨b, o, hq, h0, h1, h2⟩
theorem Intss.three {w : World} {p : Option Addr} {xss : List (List Int)} (h : Intss w p 3 xss) (hs : Sq 3 xss) :
    ∃ b o q0 d0 q1 d1 q2 d2, p = some ⟨b, o, none⟩ ∧ w.cell? ⟨b, o, none⟩ = some (.slice q0 3 d0) ∧ w.cell? ⟨b, o + 1, none⟩ = some (.slice q1 3 d1) ∧ w.cell? ⟨b, o + 2, none⟩ = some (.slice q2 3 d2) ∧
      Ints w q0 3 (nthR xss 0) ∧ Ints w q1 3 (nthR xss 1) ∧ Ints w q2 3 (nthR xss 2) := by
  obtain ⟨b, o, q0, m0, d0, hq, h0, _, _, i0⟩ := h.cellc 0 (by omega)
  obtain ⟨b1, o1, q1, m1, d1, hq1, h1, _, _, i1⟩ := h.cellc 1 (by omega)
  obtain ⟨b2, o2, q2, m2, d2, hq2, h2, _, _, i2⟩ := h.cellc 2 (by omega)
  rw [hq] at hq1 hq2
  injection hq1 with hq1
  injection hq1 with e1 e2
  injection hq2 with hq2
  injection hq2 with e3 e4
  subst e1; subst e2; subst e3; subst e4
  obtain rfl : m0 = 3 := by rw [← i0.len]; exact hs.2 0 (by omega)
  obtain rfl : m1 = 3 := by rw [← i1.len]; exact hs.2 1 (by omega)
  obtain rfl : m2 = 3 := by rw [← i2.len]; exact hs.2 2 (by omega)
  exact ⟨b, o, q0, d0, q1, d1, q2, d2, hq, h0, h1, h2, i0, i1, i2⟩

theorem s3_detS {xss : List (List Int)} (hs : Sq 3 xss) : s3 xss 3 = detS xss := by
  obtain ⟨a, b, c, d, e, f, g, h, i, rfl⟩ := hs.three
  rfl

theorem l3Det_three (p : Option Addr) (c : Nat) (xss : List (List Int)) (w : World) (hx : Intss w p 3 xss) (hs : Sq 3 xss) :
    Calls Try.prog 93 #[.slice p 3 c] w (Ret (.int .i64 (detS xss)) w) := by
  obtain ⟨b, o, q0, d0, q1, d1, q2, d2, rfl, h0, h1, h2, i0, i1, i2⟩ := hx.three hs
  obtain ⟨b0, o0, rfl, a0, a1, a2⟩ := i0.three
  obtain ⟨b1, o1, rfl, e0, e1, e2⟩ := i1.three
  obtain ⟨b2, o2, rfl, g0, g1, g2⟩ := i2.three
  have Hs := Lib.hid (s3_detS hs)
  go_enter Try.func93, Try.ntmps93
  go_wp2_with fail
  go_loopw [3, 4] (fun a t wr => ∃ k : Nat, k ≤ 3 ∧ t = .int .i64 k ∧ a = .int .i64 (s3 xss k) ∧ Drawn w wr) (fun _ t _ => 3 - (intOf t).toNat)
  case atStart => exact ⟨0, by omega, rfl, rfl, Drawn.refl _⟩
  case round =>
    obtain ⟨k, hk, rfl, rfl, hD⟩ := hrel
    have h0 := (hD.cell _).trans h0
    have h1 := (hD.cell _).trans h1
    have h2 := (hD.cell _).trans h2
    have a0 := (hD.cell _).trans a0
    have a1 := (hD.cell _).trans a1
    have a2 := (hD.cell _).trans a2
    have e0 := (hD.cell _).trans e0
    have e1 := (hD.cell _).trans e1
    have e2 := (hD.cell _).trans e2
    have g0 := (hD.cell _).trans g0
    have g1 := (hD.cell _).trans g1
    have g2 := (hD.cell _).trans g2
    match k, hk with
    | 0, _ =>
      go_wp2_with fail
      go_quiet (fail)
      go_wp2_with fail
      go_roundw
      case rel => exact ⟨1, by omega, rfl, rfl, hD.more _⟩
      case measure => simp [intOf]
    | 1, _ =>
      go_wp2_with fail
      go_quiet (fail)
      go_wp2_with fail
      go_roundw
      case rel => exact ⟨2, by omega, rfl, rfl, hD.more _⟩
      case measure => simp [intOf]
    | 2, _ =>
      go_wp2_with fail
      go_quiet (fail)
      go_wp2_with fail
      go_roundw
      case rel => exact ⟨3, by omega, rfl, rfl, hD.more _⟩
      case measure => simp [intOf]
    | 3, _ =>
      go_wp2_with fail
      go_ret
      exact ⟨ret_int Hs.out, hD.below⟩

end Go.Proofs.Ytdchckljggjaaaa
