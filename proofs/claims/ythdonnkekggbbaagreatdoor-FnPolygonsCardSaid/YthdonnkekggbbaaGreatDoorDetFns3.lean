/- Contracts of the reference's determinant at three rows, and of both DetOf. Conditions: sizes. -/
import Derived.Test.YthdonnkekggbbaaGreatDoorDetFns2
namespace Go.Proofs.YthdonnkekggbbaaGreatDoor
open Go.RowKit
set_option linter.unusedVariables false
set_option linter.unusedSimpArgs false
set_option maxRecDepth 100000

theorem Ints.three {w : World} {q : Option Addr} {xs : List Int} (h : Ints w q 3 xs) : ∃ b o, q = some ⟨b, o, none⟩ ∧ w.cell? ⟨b, o, none⟩ = some (.int .i64 (nth xs 0)) ∧ w.cell? ⟨b, o + 1, none⟩ = some (.int .i64 (nth xs 1)) ∧ w.cell? ⟨b, o + 2, none⟩ = some (.int .i64 (nth xs 2)) := by
  obtain ⟨b, o, hq, h0⟩ := h.cell 0 (by omega)
  obtain ⟨b1, o1, hq1, h1⟩ := h.cell 1 (by omega)
  obtain ⟨b2, o2, hq2, h2⟩ := h.cell 2 (by omega)
  rw [hq] at hq1 hq2
  injection hq1 with hq1
  injection hq1 with e1 e2
  injection hq2 with hq2
  injection hq2 with e3 e4
  subst e1; subst e2; subst e3; subst e4
  exact ⟨b, o, hq, h0, h1, h2⟩
theorem Intss.three {w : World} {p : Option Addr} {xss : List (List Int)} (h : Intss w p 3 xss) (hs : Sq 3 xss) :
    ∃ b o q0 d0 q1 d1 q2 d2, p = some ⟨b, o, none⟩ ∧ w.cell? ⟨b, o, none⟩ = some (.slice q0 3 d0) ∧ w.cell? ⟨b, o + 1, none⟩ = some (.slice q1 3 d1) ∧ w.cell? ⟨b, o + 2, none⟩ = some (.slice q2 3 d2) ∧
      Ints w q0 3 (nthR xss 0) ∧ Ints w q1 3 (nthR xss 1) ∧ Ints w q2 3 (nthR xss 2) := by
  obtain ⟨b, o, q0, m0, d0, hq, h0, _, _, i0⟩ := h.cellc 0 (by omega)
  obtain ⟨b1, o1, q1, m1, d1, hq1, h1, _, _, i1⟩ := h.cellc 1 (by omega)
  obtain ⟨b2, o2, q2, m2, d2, hq2, h2, _, _, i2⟩ := h.cellc 2 (by omega)
  rw [hq] at hq1 hq2
  injection hq1 with hq1
  injection hq1 with e1 e2
  injection hq2 with hq2
  injection hq2 with e3 e4
  subst e1; subst e2; subst e3; subst e4
  obtain rfl : m0 = 3 := by rw [← i0.len]; exact hs.2 0 (by omega)
  obtain rfl : m1 = 3 := by rw [← i1.len]; exact hs.2 1 (by omega)
  obtain rfl : m2 = 3 := by rw [← i2.len]; exact hs.2 2 (by omega)
  exact ⟨b, o, q0, d0, q1, d1, q2, d2, hq, h0, h1, h2, i0, i1, i2⟩

theorem s3_detS {xss : List (List Int)} (hs : Sq 3 xss) : s3 xss 3 = detS xss := by
  obtain ⟨a, b, c, d, e, f, g, h, i, rfl⟩ := hs.three
  rfl

end Go.Proofs.YthdonnkekggbbaaGreatDoor
