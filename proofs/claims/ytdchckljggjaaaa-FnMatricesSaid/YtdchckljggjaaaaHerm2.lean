/- Plain laws of the Hermite form: row steps keep the determinant modulo 2 to the 64, up to its sign. Conditions: at most three rows. -/
import Derived.Test.YtdchckljggjaaaaHerm
namespace Go.Proofs.Ytdchckljggjaaaa
open Go.RowKit
set_option linter.unusedVariables false
set_option linter.unusedSimpArgs false
set_option maxRecDepth 100000

theorem dp_step_201 {M : List (List Int)} (hG : Good 2 M) : wrap64 (dp 2 (stepH 0 1 M)) = wrap64 (-dp 2 M) := by
  have e00 : ent (stepH 0 1 M) 0 0 = (ent M 1 0) := by rw [ent_stepH hG.sq (by omega) (by omega) (by omega)]; rfl
  have e01 : ent (stepH 0 1 M) 0 1 = (ent M 1 1) := by rw [ent_stepH hG.sq (by omega) (by omega) (by omega)]; rfl
  have e10 : ent (stepH 0 1 M) 1 0 = wrap64 ((ent M 0 0) - wrap64 (qOf (ent M 0 0) (ent M 1 0) * (ent M 1 0))) := by rw [ent_stepH hG.sq (by omega) (by omega) (by omega)]; rfl
  have e11 : ent (stepH 0 1 M) 1 1 = wrap64 ((ent M 0 1) - wrap64 (qOf (ent M 0 0) (ent M 1 0) * (ent M 1 1))) := by rw [ent_stepH hG.sq (by omega) (by omega) (by omega)]; rfl
  obtain ⟨k0, h0⟩ := cong_row (ent M 0 0) (qOf (ent M 0 0) (ent M 1 0)) (ent M 1 0)
  rw [h0] at e10
  obtain ⟨k1, h1⟩ := cong_row (ent M 0 1) (qOf (ent M 0 0) (ent M 1 0)) (ent M 1 1)
  rw [h1] at e11
  refine wrap64_congr ⟨(ent M 1 0) * k1 - (ent M 1 1) * k0, ?_⟩
  unfold dp
  simp only [e00, e01, e10, e11, show ((2 : Nat) = 1) = False by simp, show ((2 : Nat) = 2) = True by simp, if_true, if_false]
  clear e00 e01 e10 e11 h0 h1
  generalize qOf (ent M 0 0) (ent M 1 0) = Q
  grind

theorem dp_red_210 {M : List (List Int)} (hG : Good 2 M) : wrap64 (dp 2 (redH 1 0 M)) = wrap64 (dp 2 M) := by
  have e00 : ent (redH 1 0 M) 0 0 = wrap64 ((ent M 0 0) - wrap64 (floorW (ent M 0 1) (ent M 1 1) * (ent M 1 0))) := by rw [ent_redH hG.sq (by omega) (by omega)]; rfl
  have e01 : ent (redH 1 0 M) 0 1 = wrap64 ((ent M 0 1) - wrap64 (floorW (ent M 0 1) (ent M 1 1) * (ent M 1 1))) := by rw [ent_redH hG.sq (by omega) (by omega)]; rfl
  have e10 : ent (redH 1 0 M) 1 0 = (ent M 1 0) := by rw [ent_redH hG.sq (by omega) (by omega)]; rfl
  have e11 : ent (redH 1 0 M) 1 1 = (ent M 1 1) := by rw [ent_redH hG.sq (by omega) (by omega)]; rfl
  obtain ⟨k0, h0⟩ := cong_row (ent M 0 0) (floorW (ent M 0 1) (ent M 1 1)) (ent M 1 0)
  rw [h0] at e00
  obtain ⟨k1, h1⟩ := cong_row (ent M 0 1) (floorW (ent M 0 1) (ent M 1 1)) (ent M 1 1)
  rw [h1] at e01
  refine wrap64_congr ⟨k0 * (ent M 1 1) - k1 * (ent M 1 0), ?_⟩
  unfold dp
  simp only [e00, e01, e10, e11, show ((2 : Nat) = 1) = False by simp, show ((2 : Nat) = 2) = True by simp, if_true, if_false]
  clear e00 e01 e10 e11 h0 h1
  generalize floorW (ent M 0 1) (ent M 1 1) = Q
  grind

theorem dp_step_301 {M : List (List Int)} (hG : Good 3 M) : wrap64 (dp 3 (stepH 0 1 M)) = wrap64 (-dp 3 M) := by
  have e00 : ent (stepH 0 1 M) 0 0 = (ent M 1 0) := by rw [ent_stepH hG.sq (by omega) (by omega) (by omega)]; rfl
  have e01 : ent (stepH 0 1 M) 0 1 = (ent M 1 1) := by rw [ent_stepH hG.sq (by omega) (by omega) (by omega)]; rfl
  have e02 : ent (stepH 0 1 M) 0 2 = (ent M 1 2) := by rw [ent_stepH hG.sq (by omega) (by omega) (by omega)]; rfl
  have e10 : ent (stepH 0 1 M) 1 0 = wrap64 ((ent M 0 0) - wrap64 (qOf (ent M 0 0) (ent M 1 0) * (ent M 1 0))) := by rw [ent_stepH hG.sq (by omega) (by omega) (by omega)]; rfl
  have e11 : ent (stepH 0 1 M) 1 1 = wrap64 ((ent M 0 1) - wrap64 (qOf (ent M 0 0) (ent M 1 0) * (ent M 1 1))) := by rw [ent_stepH hG.sq (by omega) (by omega) (by omega)]; rfl
  have e12 : ent (stepH 0 1 M) 1 2 = wrap64 ((ent M 0 2) - wrap64 (qOf (ent M 0 0) (ent M 1 0) * (ent M 1 2))) := by rw [ent_stepH hG.sq (by omega) (by omega) (by omega)]; rfl
  have e20 : ent (stepH 0 1 M) 2 0 = (ent M 2 0) := by rw [ent_stepH hG.sq (by omega) (by omega) (by omega)]; rfl
  have e21 : ent (stepH 0 1 M) 2 1 = (ent M 2 1) := by rw [ent_stepH hG.sq (by omega) (by omega) (by omega)]; rfl
  have e22 : ent (stepH 0 1 M) 2 2 = (ent M 2 2) := by rw [ent_stepH hG.sq (by omega) (by omega) (by omega)]; rfl
  obtain ⟨k0, h0⟩ := cong_row (ent M 0 0) (qOf (ent M 0 0) (ent M 1 0)) (ent M 1 0)
  rw [h0] at e10
  obtain ⟨k1, h1⟩ := cong_row (ent M 0 1) (qOf (ent M 0 0) (ent M 1 0)) (ent M 1 1)
  rw [h1] at e11
  obtain ⟨k2, h2⟩ := cong_row (ent M 0 2) (qOf (ent M 0 0) (ent M 1 0)) (ent M 1 2)
  rw [h2] at e12
  refine wrap64_congr ⟨(ent M 1 0) * (k1 * (ent M 2 2) - k2 * (ent M 2 1)) - (ent M 1 1) * (k0 * (ent M 2 2) - k2 * (ent M 2 0)) + (ent M 1 2) * (k0 * (ent M 2 1) - k1 * (ent M 2 0)), ?_⟩
  unfold dp
  simp only [e00, e01, e02, e10, e11, e12, e20, e21, e22, show ((3 : Nat) = 1) = False by simp, show ((3 : Nat) = 2) = False by simp, if_true, if_false]
  clear e00 e01 e02 e10 e11 e12 e20 e21 e22 h0 h1 h2
  generalize qOf (ent M 0 0) (ent M 1 0) = Q
  grind

theorem dp_step_302 {M : List (List Int)} (hG : Good 3 M) : wrap64 (dp 3 (stepH 0 2 M)) = wrap64 (-dp 3 M) := by
  have e00 : ent (stepH 0 2 M) 0 0 = (ent M 2 0) := by rw [ent_stepH hG.sq (by omega) (by omega) (by omega)]; rfl
  have e01 : ent (stepH 0 2 M) 0 1 = (ent M 2 1) := by rw [ent_stepH hG.sq (by omega) (by omega) (by omega)]; rfl
  have e02 : ent (stepH 0 2 M) 0 2 = (ent M 2 2) := by rw [ent_stepH hG.sq (by omega) (by omega) (by omega)]; rfl
  have e10 : ent (stepH 0 2 M) 1 0 = (ent M 1 0) := by rw [ent_stepH hG.sq (by omega) (by omega) (by omega)]; rfl
  have e11 : ent (stepH 0 2 M) 1 1 = (ent M 1 1) := by rw [ent_stepH hG.sq (by omega) (by omega) (by omega)]; rfl
  have e12 : ent (stepH 0 2 M) 1 2 = (ent M 1 2) := by rw [ent_stepH hG.sq (by omega) (by omega) (by omega)]; rfl
  have e20 : ent (stepH 0 2 M) 2 0 = wrap64 ((ent M 0 0) - wrap64 (qOf (ent M 0 0) (ent M 2 0) * (ent M 2 0))) := by rw [ent_stepH hG.sq (by omega) (by omega) (by omega)]; rfl
  have e21 : ent (stepH 0 2 M) 2 1 = wrap64 ((ent M 0 1) - wrap64 (qOf (ent M 0 0) (ent M 2 0) * (ent M 2 1))) := by rw [ent_stepH hG.sq (by omega) (by omega) (by omega)]; rfl
  have e22 : ent (stepH 0 2 M) 2 2 = wrap64 ((ent M 0 2) - wrap64 (qOf (ent M 0 0) (ent M 2 0) * (ent M 2 2))) := by rw [ent_stepH hG.sq (by omega) (by omega) (by omega)]; rfl
  obtain ⟨k0, h0⟩ := cong_row (ent M 0 0) (qOf (ent M 0 0) (ent M 2 0)) (ent M 2 0)
  rw [h0] at e20
  obtain ⟨k1, h1⟩ := cong_row (ent M 0 1) (qOf (ent M 0 0) (ent M 2 0)) (ent M 2 1)
  rw [h1] at e21
  obtain ⟨k2, h2⟩ := cong_row (ent M 0 2) (qOf (ent M 0 0) (ent M 2 0)) (ent M 2 2)
  rw [h2] at e22
  refine wrap64_congr ⟨(ent M 2 0) * ((ent M 1 1) * k2 - (ent M 1 2) * k1) - (ent M 2 1) * ((ent M 1 0) * k2 - (ent M 1 2) * k0) + (ent M 2 2) * ((ent M 1 0) * k1 - (ent M 1 1) * k0), ?_⟩
  unfold dp
  simp only [e00, e01, e02, e10, e11, e12, e20, e21, e22, show ((3 : Nat) = 1) = False by simp, show ((3 : Nat) = 2) = False by simp, if_true, if_false]
  clear e00 e01 e02 e10 e11 e12 e20 e21 e22 h0 h1 h2
  generalize qOf (ent M 0 0) (ent M 2 0) = Q
  grind

theorem dp_step_312 {M : List (List Int)} (hG : Good 3 M) : wrap64 (dp 3 (stepH 1 2 M)) = wrap64 (-dp 3 M) := by
  have e00 : ent (stepH 1 2 M) 0 0 = (ent M 0 0) := by rw [ent_stepH hG.sq (by omega) (by omega) (by omega)]; rfl
  have e01 : ent (stepH 1 2 M) 0 1 = (ent M 0 1) := by rw [ent_stepH hG.sq (by omega) (by omega) (by omega)]; rfl
  have e02 : ent (stepH 1 2 M) 0 2 = (ent M 0 2) := by rw [ent_stepH hG.sq (by omega) (by omega) (by omega)]; rfl
  have e10 : ent (stepH 1 2 M) 1 0 = (ent M 2 0) := by rw [ent_stepH hG.sq (by omega) (by omega) (by omega)]; rfl
  have e11 : ent (stepH 1 2 M) 1 1 = (ent M 2 1) := by rw [ent_stepH hG.sq (by omega) (by omega) (by omega)]; rfl
  have e12 : ent (stepH 1 2 M) 1 2 = (ent M 2 2) := by rw [ent_stepH hG.sq (by omega) (by omega) (by omega)]; rfl
  have e20 : ent (stepH 1 2 M) 2 0 = wrap64 ((ent M 1 0) - wrap64 (qOf (ent M 1 1) (ent M 2 1) * (ent M 2 0))) := by rw [ent_stepH hG.sq (by omega) (by omega) (by omega)]; rfl
  have e21 : ent (stepH 1 2 M) 2 1 = wrap64 ((ent M 1 1) - wrap64 (qOf (ent M 1 1) (ent M 2 1) * (ent M 2 1))) := by rw [ent_stepH hG.sq (by omega) (by omega) (by omega)]; rfl
  have e22 : ent (stepH 1 2 M) 2 2 = wrap64 ((ent M 1 2) - wrap64 (qOf (ent M 1 1) (ent M 2 1) * (ent M 2 2))) := by rw [ent_stepH hG.sq (by omega) (by omega) (by omega)]; rfl
  obtain ⟨k0, h0⟩ := cong_row (ent M 1 0) (qOf (ent M 1 1) (ent M 2 1)) (ent M 2 0)
  rw [h0] at e20
  obtain ⟨k1, h1⟩ := cong_row (ent M 1 1) (qOf (ent M 1 1) (ent M 2 1)) (ent M 2 1)
  rw [h1] at e21
  obtain ⟨k2, h2⟩ := cong_row (ent M 1 2) (qOf (ent M 1 1) (ent M 2 1)) (ent M 2 2)
  rw [h2] at e22
  refine wrap64_congr ⟨(ent M 0 0) * ((ent M 2 1) * k2 - (ent M 2 2) * k1) - (ent M 0 1) * ((ent M 2 0) * k2 - (ent M 2 2) * k0) + (ent M 0 2) * ((ent M 2 0) * k1 - (ent M 2 1) * k0), ?_⟩
  unfold dp
  simp only [e00, e01, e02, e10, e11, e12, e20, e21, e22, show ((3 : Nat) = 1) = False by simp, show ((3 : Nat) = 2) = False by simp, if_true, if_false]
  clear e00 e01 e02 e10 e11 e12 e20 e21 e22 h0 h1 h2
  generalize qOf (ent M 1 1) (ent M 2 1) = Q
  grind

theorem dp_red_310 {M : List (List Int)} (hG : Good 3 M) : wrap64 (dp 3 (redH 1 0 M)) = wrap64 (dp 3 M) := by
  have e00 : ent (redH 1 0 M) 0 0 = wrap64 ((ent M 0 0) - wrap64 (floorW (ent M 0 1) (ent M 1 1) * (ent M 1 0))) := by rw [ent_redH hG.sq (by omega) (by omega)]; rfl
  have e01 : ent (redH 1 0 M) 0 1 = wrap64 ((ent M 0 1) - wrap64 (floorW (ent M 0 1) (ent M 1 1) * (ent M 1 1))) := by rw [ent_redH hG.sq (by omega) (by omega)]; rfl
  have e02 : ent (redH 1 0 M) 0 2 = wrap64 ((ent M 0 2) - wrap64 (floorW (ent M 0 1) (ent M 1 1) * (ent M 1 2))) := by rw [ent_redH hG.sq (by omega) (by omega)]; rfl
  have e10 : ent (redH 1 0 M) 1 0 = (ent M 1 0) := by rw [ent_redH hG.sq (by omega) (by omega)]; rfl
  have e11 : ent (redH 1 0 M) 1 1 = (ent M 1 1) := by rw [ent_redH hG.sq (by omega) (by omega)]; rfl
  have e12 : ent (redH 1 0 M) 1 2 = (ent M 1 2) := by rw [ent_redH hG.sq (by omega) (by omega)]; rfl
  have e20 : ent (redH 1 0 M) 2 0 = (ent M 2 0) := by rw [ent_redH hG.sq (by omega) (by omega)]; rfl
  have e21 : ent (redH 1 0 M) 2 1 = (ent M 2 1) := by rw [ent_redH hG.sq (by omega) (by omega)]; rfl
  have e22 : ent (redH 1 0 M) 2 2 = (ent M 2 2) := by rw [ent_redH hG.sq (by omega) (by omega)]; rfl
  obtain ⟨k0, h0⟩ := cong_row (ent M 0 0) (floorW (ent M 0 1) (ent M 1 1)) (ent M 1 0)
  rw [h0] at e00
  obtain ⟨k1, h1⟩ := cong_row (ent M 0 1) (floorW (ent M 0 1) (ent M 1 1)) (ent M 1 1)
  rw [h1] at e01
  obtain ⟨k2, h2⟩ := cong_row (ent M 0 2) (floorW (ent M 0 1) (ent M 1 1)) (ent M 1 2)
  rw [h2] at e02
  refine wrap64_congr ⟨k0 * ((ent M 1 1) * (ent M 2 2) - (ent M 1 2) * (ent M 2 1)) - k1 * ((ent M 1 0) * (ent M 2 2) - (ent M 1 2) * (ent M 2 0)) + k2 * ((ent M 1 0) * (ent M 2 1) - (ent M 1 1) * (ent M 2 0)), ?_⟩
  unfold dp
  simp only [e00, e01, e02, e10, e11, e12, e20, e21, e22, show ((3 : Nat) = 1) = False by simp, show ((3 : Nat) = 2) = False by simp, if_true, if_false]
  clear e00 e01 e02 e10 e11 e12 e20 e21 e22 h0 h1 h2
  generalize floorW (ent M 0 1) (ent M 1 1) = Q
  grind

theorem dp_red_320 {M : List (List Int)} (hG : Good 3 M) : wrap64 (dp 3 (redH 2 0 M)) = wrap64 (dp 3 M) := by
  have e00 : ent (redH 2 0 M) 0 0 = wrap64 ((ent M 0 0) - wrap64 (floorW (ent M 0 2) (ent M 2 2) * (ent M 2 0))) := by rw [ent_redH hG.sq (by omega) (by omega)]; rfl
  have e01 : ent (redH 2 0 M) 0 1 = wrap64 ((ent M 0 1) - wrap64 (floorW (ent M 0 2) (ent M 2 2) * (ent M 2 1))) := by rw [ent_redH hG.sq (by omega) (by omega)]; rfl
  have e02 : ent (redH 2 0 M) 0 2 = wrap64 ((ent M 0 2) - wrap64 (floorW (ent M 0 2) (ent M 2 2) * (ent M 2 2))) := by rw [ent_redH hG.sq (by omega) (by omega)]; rfl
  have e10 : ent (redH 2 0 M) 1 0 = (ent M 1 0) := by rw [ent_redH hG.sq (by omega) (by omega)]; rfl
  have e11 : ent (redH 2 0 M) 1 1 = (ent M 1 1) := by rw [ent_redH hG.sq (by omega) (by omega)]; rfl
  have e12 : ent (redH 2 0 M) 1 2 = (ent M 1 2) := by rw [ent_redH hG.sq (by omega) (by omega)]; rfl
  have e20 : ent (redH 2 0 M) 2 0 = (ent M 2 0) := by rw [ent_redH hG.sq (by omega) (by omega)]; rfl
  have e21 : ent (redH 2 0 M) 2 1 = (ent M 2 1) := by rw [ent_redH hG.sq (by omega) (by omega)]; rfl
  have e22 : ent (redH 2 0 M) 2 2 = (ent M 2 2) := by rw [ent_redH hG.sq (by omega) (by omega)]; rfl
  obtain ⟨k0, h0⟩ := cong_row (ent M 0 0) (floorW (ent M 0 2) (ent M 2 2)) (ent M 2 0)
  rw [h0] at e00
  obtain ⟨k1, h1⟩ := cong_row (ent M 0 1) (floorW (ent M 0 2) (ent M 2 2)) (ent M 2 1)
  rw [h1] at e01
  obtain ⟨k2, h2⟩ := cong_row (ent M 0 2) (floorW (ent M 0 2) (ent M 2 2)) (ent M 2 2)
  rw [h2] at e02
  refine wrap64_congr ⟨k0 * ((ent M 1 1) * (ent M 2 2) - (ent M 1 2) * (ent M 2 1)) - k1 * ((ent M 1 0) * (ent M 2 2) - (ent M 1 2) * (ent M 2 0)) + k2 * ((ent M 1 0) * (ent M 2 1) - (ent M 1 1) * (ent M 2 0)), ?_⟩
  unfold dp
  simp only [e00, e01, e02, e10, e11, e12, e20, e21, e22, show ((3 : Nat) = 1) = False by simp, show ((3 : Nat) = 2) = False by simp, if_true, if_false]
  clear e00 e01 e02 e10 e11 e12 e20 e21 e22 h0 h1 h2
  generalize floorW (ent M 0 2) (ent M 2 2) = Q
  grind

theorem dp_red_321 {M : List (List Int)} (hG : Good 3 M) : wrap64 (dp 3 (redH 2 1 M)) = wrap64 (dp 3 M) := by
  have e00 : ent (redH 2 1 M) 0 0 = (ent M 0 0) := by rw [ent_redH hG.sq (by omega) (by omega)]; rfl
  have e01 : ent (redH 2 1 M) 0 1 = (ent M 0 1) := by rw [ent_redH hG.sq (by omega) (by omega)]; rfl
  have e02 : ent (redH 2 1 M) 0 2 = (ent M 0 2) := by rw [ent_redH hG.sq (by omega) (by omega)]; rfl
  have e10 : ent (redH 2 1 M) 1 0 = wrap64 ((ent M 1 0) - wrap64 (floorW (ent M 1 2) (ent M 2 2) * (ent M 2 0))) := by rw [ent_redH hG.sq (by omega) (by omega)]; rfl
  have e11 : ent (redH 2 1 M) 1 1 = wrap64 ((ent M 1 1) - wrap64 (floorW (ent M 1 2) (ent M 2 2) * (ent M 2 1))) := by rw [ent_redH hG.sq (by omega) (by omega)]; rfl
  have e12 : ent (redH 2 1 M) 1 2 = wrap64 ((ent M 1 2) - wrap64 (floorW (ent M 1 2) (ent M 2 2) * (ent M 2 2))) := by rw [ent_redH hG.sq (by omega) (by omega)]; rfl
  have e20 : ent (redH 2 1 M) 2 0 = (ent M 2 0) := by rw [ent_redH hG.sq (by omega) (by omega)]; rfl
  have e21 : ent (redH 2 1 M) 2 1 = (ent M 2 1) := by rw [ent_redH hG.sq (by omega) (by omega)]; rfl
  have e22 : ent (redH 2 1 M) 2 2 = (ent M 2 2) := by rw [ent_redH hG.sq (by omega) (by omega)]; rfl
  obtain ⟨k0, h0⟩ := cong_row (ent M 1 0) (floorW (ent M 1 2) (ent M 2 2)) (ent M 2 0)
  rw [h0] at e10
  obtain ⟨k1, h1⟩ := cong_row (ent M 1 1) (floorW (ent M 1 2) (ent M 2 2)) (ent M 2 1)
  rw [h1] at e11
  obtain ⟨k2, h2⟩ := cong_row (ent M 1 2) (floorW (ent M 1 2) (ent M 2 2)) (ent M 2 2)
  rw [h2] at e12
  refine wrap64_congr ⟨(ent M 0 0) * (k1 * (ent M 2 2) - k2 * (ent M 2 1)) - (ent M 0 1) * (k0 * (ent M 2 2) - k2 * (ent M 2 0)) + (ent M 0 2) * (k0 * (ent M 2 1) - k1 * (ent M 2 0)), ?_⟩
  unfold dp
  simp only [e00, e01, e02, e10, e11, e12, e20, e21, e22, show ((3 : Nat) = 1) = False by simp, show ((3 : Nat) = 2) = False by simp, if_true, if_false]
  clear e00 e01 e02 e10 e11 e12 e20 e21 e22 h0 h1 h2
  generalize floorW (ent M 1 2) (ent M 2 2) = Q
  grind

theorem dp_neg_10 {M : List (List Int)} (hG : Good 1 M) : wrap64 (dp 1 (negH 0 M)) = wrap64 (-dp 1 M) := by
  have e00 : ent (negH 0 M) 0 0 = wrap64 ((ent M 0 0) - wrap64 (2 * (ent M 0 0))) := by rw [ent_negH hG.sq (by omega) (by omega)]; rfl
  obtain ⟨k0, h0⟩ := cong_row (ent M 0 0) (2) (ent M 0 0)
  rw [h0] at e00
  refine wrap64_congr ⟨k0, ?_⟩
  unfold dp
  simp only [e00, if_true]
  clear e00 h0
  grind

theorem dp_neg_20 {M : List (List Int)} (hG : Good 2 M) : wrap64 (dp 2 (negH 0 M)) = wrap64 (-dp 2 M) := by
  have e00 : ent (negH 0 M) 0 0 = wrap64 ((ent M 0 0) - wrap64 (2 * (ent M 0 0))) := by rw [ent_negH hG.sq (by omega) (by omega)]; rfl
  have e01 : ent (negH 0 M) 0 1 = wrap64 ((ent M 0 1) - wrap64 (2 * (ent M 0 1))) := by rw [ent_negH hG.sq (by omega) (by omega)]; rfl
  have e10 : ent (negH 0 M) 1 0 = (ent M 1 0) := by rw [ent_negH hG.sq (by omega) (by omega)]; rfl
  have e11 : ent (negH 0 M) 1 1 = (ent M 1 1) := by rw [ent_negH hG.sq (by omega) (by omega)]; rfl
  obtain ⟨k0, h0⟩ := cong_row (ent M 0 0) (2) (ent M 0 0)
  rw [h0] at e00
  obtain ⟨k1, h1⟩ := cong_row (ent M 0 1) (2) (ent M 0 1)
  rw [h1] at e01
  refine wrap64_congr ⟨k0 * (ent M 1 1) - k1 * (ent M 1 0), ?_⟩
  unfold dp
  simp only [e00, e01, e10, e11, show ((2 : Nat) = 1) = False by simp, show ((2 : Nat) = 2) = True by simp, if_true, if_false]
  clear e00 e01 e10 e11 h0 h1
  grind

theorem dp_neg_21 {M : List (List Int)} (hG : Good 2 M) : wrap64 (dp 2 (negH 1 M)) = wrap64 (-dp 2 M) := by
  have e00 : ent (negH 1 M) 0 0 = (ent M 0 0) := by rw [ent_negH hG.sq (by omega) (by omega)]; rfl
  have e01 : ent (negH 1 M) 0 1 = (ent M 0 1) := by rw [ent_negH hG.sq (by omega) (by omega)]; rfl
  have e10 : ent (negH 1 M) 1 0 = wrap64 ((ent M 1 0) - wrap64 (2 * (ent M 1 0))) := by rw [ent_negH hG.sq (by omega) (by omega)]; rfl
  have e11 : ent (negH 1 M) 1 1 = wrap64 ((ent M 1 1) - wrap64 (2 * (ent M 1 1))) := by rw [ent_negH hG.sq (by omega) (by omega)]; rfl
  obtain ⟨k0, h0⟩ := cong_row (ent M 1 0) (2) (ent M 1 0)
  rw [h0] at e10
  obtain ⟨k1, h1⟩ := cong_row (ent M 1 1) (2) (ent M 1 1)
  rw [h1] at e11
  refine wrap64_congr ⟨(ent M 0 0) * k1 - (ent M 0 1) * k0, ?_⟩
  unfold dp
  simp only [e00, e01, e10, e11, show ((2 : Nat) = 1) = False by simp, show ((2 : Nat) = 2) = True by simp, if_true, if_false]
  clear e00 e01 e10 e11 h0 h1
  grind

theorem dp_neg_30 {M : List (List Int)} (hG : Good 3 M) : wrap64 (dp 3 (negH 0 M)) = wrap64 (-dp 3 M) := by
  have e00 : ent (negH 0 M) 0 0 = wrap64 ((ent M 0 0) - wrap64 (2 * (ent M 0 0))) := by rw [ent_negH hG.sq (by omega) (by omega)]; rfl
  have e01 : ent (negH 0 M) 0 1 = wrap64 ((ent M 0 1) - wrap64 (2 * (ent M 0 1))) := by rw [ent_negH hG.sq (by omega) (by omega)]; rfl
  have e02 : ent (negH 0 M) 0 2 = wrap64 ((ent M 0 2) - wrap64 (2 * (ent M 0 2))) := by rw [ent_negH hG.sq (by omega) (by omega)]; rfl
  have e10 : ent (negH 0 M) 1 0 = (ent M 1 0) := by rw [ent_negH hG.sq (by omega) (by omega)]; rfl
  have e11 : ent (negH 0 M) 1 1 = (ent M 1 1) := by rw [ent_negH hG.sq (by omega) (by omega)]; rfl
  have e12 : ent (negH 0 M) 1 2 = (ent M 1 2) := by rw [ent_negH hG.sq (by omega) (by omega)]; rfl
  have e20 : ent (negH 0 M) 2 0 = (ent M 2 0) := by rw [ent_negH hG.sq (by omega) (by omega)]; rfl
  have e21 : ent (negH 0 M) 2 1 = (ent M 2 1) := by rw [ent_negH hG.sq (by omega) (by omega)]; rfl
  have e22 : ent (negH 0 M) 2 2 = (ent M 2 2) := by rw [ent_negH hG.sq (by omega) (by omega)]; rfl
  obtain ⟨k0, h0⟩ := cong_row (ent M 0 0) (2) (ent M 0 0)
  rw [h0] at e00
  obtain ⟨k1, h1⟩ := cong_row (ent M 0 1) (2) (ent M 0 1)
  rw [h1] at e01
  obtain ⟨k2, h2⟩ := cong_row (ent M 0 2) (2) (ent M 0 2)
  rw [h2] at e02
  refine wrap64_congr ⟨k0 * ((ent M 1 1) * (ent M 2 2) - (ent M 1 2) * (ent M 2 1)) - k1 * ((ent M 1 0) * (ent M 2 2) - (ent M 1 2) * (ent M 2 0)) + k2 * ((ent M 1 0) * (ent M 2 1) - (ent M 1 1) * (ent M 2 0)), ?_⟩
  unfold dp
  simp only [e00, e01, e02, e10, e11, e12, e20, e21, e22, show ((3 : Nat) = 1) = False by simp, show ((3 : Nat) = 2) = False by simp, if_true, if_false]
  clear e00 e01 e02 e10 e11 e12 e20 e21 e22 h0 h1 h2
  grind

theorem dp_neg_31 {M : List (List Int)} (hG : Good 3 M) : wrap64 (dp 3 (negH 1 M)) = wrap64 (-dp 3 M) := by
  have e00 : ent (negH 1 M) 0 0 = (ent M 0 0) := by rw [ent_negH hG.sq (by omega) (by omega)]; rfl
  have e01 : ent (negH 1 M) 0 1 = (ent M 0 1) := by rw [ent_negH hG.sq (by omega) (by omega)]; rfl
  have e02 : ent (negH 1 M) 0 2 = (ent M 0 2) := by rw [ent_negH hG.sq (by omega) (by omega)]; rfl
  have e10 : ent (negH 1 M) 1 0 = wrap64 ((ent M 1 0) - wrap64 (2 * (ent M 1 0))) := by rw [ent_negH hG.sq (by omega) (by omega)]; rfl
  have e11 : ent (negH 1 M) 1 1 = wrap64 ((ent M 1 1) - wrap64 (2 * (ent M 1 1))) := by rw [ent_negH hG.sq (by omega) (by omega)]; rfl
  have e12 : ent (negH 1 M) 1 2 = wrap64 ((ent M 1 2) - wrap64 (2 * (ent M 1 2))) := by rw [ent_negH hG.sq (by omega) (by omega)]; rfl
  have e20 : ent (negH 1 M) 2 0 = (ent M 2 0) := by rw [ent_negH hG.sq (by omega) (by omega)]; rfl
  have e21 : ent (negH 1 M) 2 1 = (ent M 2 1) := by rw [ent_negH hG.sq (by omega) (by omega)]; rfl
  have e22 : ent (negH 1 M) 2 2 = (ent M 2 2) := by rw [ent_negH hG.sq (by omega) (by omega)]; rfl
  obtain ⟨k0, h0⟩ := cong_row (ent M 1 0) (2) (ent M 1 0)
  rw [h0] at e10
  obtain ⟨k1, h1⟩ := cong_row (ent M 1 1) (2) (ent M 1 1)
  rw [h1] at e11
  obtain ⟨k2, h2⟩ := cong_row (ent M 1 2) (2) (ent M 1 2)
  rw [h2] at e12
  refine wrap64_congr ⟨(ent M 0 0) * (k1 * (ent M 2 2) - k2 * (ent M 2 1)) - (ent M 0 1) * (k0 * (ent M 2 2) - k2 * (ent M 2 0)) + (ent M 0 2) * (k0 * (ent M 2 1) - k1 * (ent M 2 0)), ?_⟩
  unfold dp
  simp only [e00, e01, e02, e10, e11, e12, e20, e21, e22, show ((3 : Nat) = 1) = False by simp, show ((3 : Nat) = 2) = False by simp, if_true, if_false]
  clear e00 e01 e02 e10 e11 e12 e20 e21 e22 h0 h1 h2
  grind

theorem dp_neg_32 {M : List (List Int)} (hG : Good 3 M) : wrap64 (dp 3 (negH 2 M)) = wrap64 (-dp 3 M) := by
  have e00 : ent (negH 2 M) 0 0 = (ent M 0 0) := by rw [ent_negH hG.sq (by omega) (by omega)]; rfl
  have e01 : ent (negH 2 M) 0 1 = (ent M 0 1) := by rw [ent_negH hG.sq (by omega) (by omega)]; rfl
  have e02 : ent (negH 2 M) 0 2 = (ent M 0 2) := by rw [ent_negH hG.sq (by omega) (by omega)]; rfl
  have e10 : ent (negH 2 M) 1 0 = (ent M 1 0) := by rw [ent_negH hG.sq (by omega) (by omega)]; rfl
  have e11 : ent (negH 2 M) 1 1 = (ent M 1 1) := by rw [ent_negH hG.sq (by omega) (by omega)]; rfl
  have e12 : ent (negH 2 M) 1 2 = (ent M 1 2) := by rw [ent_negH hG.sq (by omega) (by omega)]; rfl
  have e20 : ent (negH 2 M) 2 0 = wrap64 ((ent M 2 0) - wrap64 (2 * (ent M 2 0))) := by rw [ent_negH hG.sq (by omega) (by omega)]; rfl
  have e21 : ent (negH 2 M) 2 1 = wrap64 ((ent M 2 1) - wrap64 (2 * (ent M 2 1))) := by rw [ent_negH hG.sq (by omega) (by omega)]; rfl
  have e22 : ent (negH 2 M) 2 2 = wrap64 ((ent M 2 2) - wrap64 (2 * (ent M 2 2))) := by rw [ent_negH hG.sq (by omega) (by omega)]; rfl
  obtain ⟨k0, h0⟩ := cong_row (ent M 2 0) (2) (ent M 2 0)
  rw [h0] at e20
  obtain ⟨k1, h1⟩ := cong_row (ent M 2 1) (2) (ent M 2 1)
  rw [h1] at e21
  obtain ⟨k2, h2⟩ := cong_row (ent M 2 2) (2) (ent M 2 2)
  rw [h2] at e22
  refine wrap64_congr ⟨(ent M 0 0) * ((ent M 1 1) * k2 - (ent M 1 2) * k1) - (ent M 0 1) * ((ent M 1 0) * k2 - (ent M 1 2) * k0) + (ent M 0 2) * ((ent M 1 0) * k1 - (ent M 1 1) * k0), ?_⟩
  unfold dp
  simp only [e00, e01, e02, e10, e11, e12, e20, e21, e22, show ((3 : Nat) = 1) = False by simp, show ((3 : Nat) = 2) = False by simp, if_true, if_false]
  clear e00 e01 e02 e10 e11 e12 e20 e21 e22 h0 h1 h2
  grind

theorem dp_step {n c r : Nat} {M : List (List Int)} (h3 : n ≤ 3) (hG : Good n M) (hcr : c < r) (hr : r < n) : wrap64 (dp n (stepH c r M)) = wrap64 (-dp n M) := by
  have hh : (n = 2 ∧ c = 0 ∧ r = 1) ∨ (n = 3 ∧ c = 0 ∧ r = 1) ∨ (n = 3 ∧ c = 0 ∧ r = 2) ∨ (n = 3 ∧ c = 1 ∧ r = 2) := by omega
  rcases hh with ⟨rfl, rfl, rfl⟩ | ⟨rfl, rfl, rfl⟩ | ⟨rfl, rfl, rfl⟩ | ⟨rfl, rfl, rfl⟩
  · exact dp_step_201 hG
  · exact dp_step_301 hG
  · exact dp_step_302 hG
  · exact dp_step_312 hG
theorem dp_red {n c t : Nat} {M : List (List Int)} (h3 : n ≤ 3) (hG : Good n M) (hct : t < c) (hc : c < n) : wrap64 (dp n (redH c t M)) = wrap64 (dp n M) := by
  have hh : (n = 2 ∧ c = 1 ∧ t = 0) ∨ (n = 3 ∧ c = 1 ∧ t = 0) ∨ (n = 3 ∧ c = 2 ∧ t = 0) ∨ (n = 3 ∧ c = 2 ∧ t = 1) := by omega
  rcases hh with ⟨rfl, rfl, rfl⟩ | ⟨rfl, rfl, rfl⟩ | ⟨rfl, rfl, rfl⟩ | ⟨rfl, rfl, rfl⟩
  · exact dp_red_210 hG
  · exact dp_red_310 hG
  · exact dp_red_320 hG
  · exact dp_red_321 hG
theorem dp_neg {n c : Nat} {M : List (List Int)} (h3 : n ≤ 3) (hG : Good n M) (hc : c < n) : wrap64 (dp n (negH c M)) = wrap64 (-dp n M) := by
  have hh : (n = 1 ∧ c = 0) ∨ (n = 2 ∧ c = 0) ∨ (n = 2 ∧ c = 1) ∨ (n = 3 ∧ c = 0) ∨ (n = 3 ∧ c = 1) ∨ (n = 3 ∧ c = 2) := by omega
  rcases hh with ⟨rfl, rfl⟩ | ⟨rfl, rfl⟩ | ⟨rfl, rfl⟩ | ⟨rfl, rfl⟩ | ⟨rfl, rfl⟩ | ⟨rfl, rfl⟩
  · exact dp_neg_10 hG
  · exact dp_neg_20 hG
  · exact dp_neg_21 hG
  · exact dp_neg_30 hG
  · exact dp_neg_31 hG
  · exact dp_neg_32 hG

/-- Zeros below the diagonal in the first c columns. -/
def ZZ (n c : Nat) (M : List (List Int)) : Prop := ∀ c' r, c' < c → c' < r → r < n → ent M r c' = 0
/-- Zeros below the diagonal in column c in the rows ahead of r. -/
def ZC (c r : Nat) (M : List (List Int)) : Prop := ∀ r', c < r' → r' < r → ent M r' c = 0
structure Inv (n c : Nat) (M : List (List Int)) : Prop where
  good : Good n M
  det : wrap64 (dp n M) ≠ 0
  zero : ZZ n c M

theorem wrap64_neg_ne {x : Int} (h : wrap64 x ≠ 0) : wrap64 (-x) ≠ 0 := fun h1 => h (by
  have h2 : wrap64 (-wrap64 (-x)) = wrap64 x := by rw [wrap64_neg, Int.neg_neg]
  rw [h1] at h2
  rw [← h2]; simp [wrap64])

theorem Inv.step {n c r : Nat} {M : List (List Int)} (h3 : n ≤ 3) (h : Inv n c M) (hcr : c < r) (hr : r < n) : Inv n c (stepH c r M) := by
  refine ⟨h.good.stepH (by omega) hr, by rw [dp_step h3 h.good hcr hr]; exact wrap64_neg_ne h.det, fun c' r' h1 h2 h4 => ?_⟩
  rw [ent_stepH h.good.sq (by omega) hr (by omega), h.zero c' c h1 h1 (by omega), h.zero c' r h1 (by omega) hr]
  split
  · simp [wrap64]
  · split
    · rfl
    · exact h.zero c' r' h1 h2 h4
theorem ZC.step {n c r : Nat} {M : List (List Int)} (hG : Good n M) (h : ZC c r M) (hcr : c < r) (hr : r < n) : ZC c r (stepH c r M) := fun r' h1 h2 => by
  rw [ent_stepH hG.sq (by omega) hr (by omega), if_neg (by omega), if_neg (by omega)]
  exact h r' h1 h2
theorem Inv.neg {n c : Nat} {M : List (List Int)} (h3 : n ≤ 3) (h : Inv n c M) (hc : c < n) : Inv n c (negH c M) := by
  refine ⟨h.good.negH hc, by rw [dp_neg h3 h.good hc]; exact wrap64_neg_ne h.det, fun c' r' h1 h2 h4 => ?_⟩
  rw [ent_negH h.good.sq hc (by omega), h.zero c' c h1 h1 hc]
  split
  · simp [wrap64]
  · exact h.zero c' r' h1 h2 h4
theorem ZC.neg {n c : Nat} {M : List (List Int)} (hG : Good n M) (h : ZC c n M) (hc : c < n) : ZC c n (negH c M) := fun r' h1 h2 => by
  rw [ent_negH hG.sq hc hc, if_neg (by omega)]
  exact h r' h1 h2
theorem Inv.red {n c t : Nat} {M : List (List Int)} (h3 : n ≤ 3) (h : Inv n c M) (htc : t < c) (hc : c < n) : Inv n c (redH c t M) := by
  refine ⟨h.good.redH (by omega), by rw [dp_red h3 h.good htc hc]; exact h.det, fun c' r' h1 h2 h4 => ?_⟩
  rw [ent_redH h.good.sq (by omega) (by omega)]
  split
  · rename_i e
    rw [h.zero c' c h1 h1 hc, h.zero c' t h1 (by omega) (by omega)]
    simp [wrap64]
  · exact h.zero c' r' h1 h2 h4
theorem ZC.red {n c t : Nat} {M : List (List Int)} (hG : Good n M) (h : ZC c n M) (htc : t < c) (hc : c < n) : ZC c n (redH c t M) := fun r' h1 h2 => by
  rw [ent_redH hG.sq (by omega) hc, if_neg (by omega)]
  exact h r' h1 h2
theorem Inv.next {n c : Nat} {M : List (List Int)} (h : Inv n c M) (hz : ZC c n M) : Inv n (c + 1) M :=
  ⟨h.good, h.det, fun c' r h1 h2 h4 => by
    by_cases e : c' = c
    · subst e; exact hz r h2 h4
    · exact h.zero c' r (by omega) h2 h4⟩

/-- On the diagonal stands no zero. -/
theorem Inv.diag {n c : Nat} {M : List (List Int)} (h3 : n ≤ 3) (h : Inv n c M) (hz : ZC c n M) (hc : c < n) : ent M c c ≠ 0 := by
  intro h0
  apply h.det
  have hd : dp n M = 0 := by
    have hh : (n = 1 ∧ c = 0) ∨ (n = 2 ∧ c = 0) ∨ (n = 2 ∧ c = 1) ∨ (n = 3 ∧ c = 0) ∨ (n = 3 ∧ c = 1) ∨ (n = 3 ∧ c = 2) := by omega
    rcases hh with ⟨rfl, rfl⟩ | ⟨rfl, rfl⟩ | ⟨rfl, rfl⟩ | ⟨rfl, rfl⟩ | ⟨rfl, rfl⟩ | ⟨rfl, rfl⟩
    · simp [dp, h0]
    · simp [dp, h0, hz 1 (by omega) (by omega)]
    · simp [dp, h0, h.zero 0 1 (by omega) (by omega) (by omega)]
    · simp [dp, h0, hz 1 (by omega) (by omega), hz 2 (by omega) (by omega)]
    · simp [dp, h0, hz 2 (by omega) (by omega), h.zero 0 1 (by omega) (by omega) (by omega), h.zero 0 2 (by omega) (by omega) (by omega)]
    · simp [dp, h0, h.zero 0 1 (by omega) (by omega) (by omega), h.zero 0 2 (by omega) (by omega) (by omega), h.zero 1 2 (by omega) (by omega) (by omega)]
  rw [hd]; simp [wrap64]

/-- A matrix with a determinant begins so. -/
theorem Inv.start {n : Nat} {M : List (List Int)} (hs : Sq n M) (h1 : 1 ≤ n) (h3 : n ≤ 3) (hr : ∀ r ∈ M, ∀ x ∈ r, -100 ≤ x ∧ x ≤ 100) (hd : detS M ≠ 0) : Inv n 0 M := by
  have hrng : ∀ r c, r < n → c < n → In64 (ent M r c) := fun r c hr1 hc1 => by
    have hx := hr (nthR M r) (nthR_mem (by rw [hs.1]; exact hr1)) (ent M r c) (by
      rw [ent, nth_eq (by rw [hs.2 r hr1]; exact hc1)]; exact List.getElem_mem _)
    unfold In64; omega
  refine ⟨⟨hs, hrng⟩, fun h0 => hd ?_, fun c' r h _ _ => absurd h (by omega)⟩
  have hh : n = 1 ∨ n = 2 ∨ n = 3 := by omega
  rcases hh with rfl | rfl | rfl
  · obtain ⟨a, rfl⟩ := hs.one
    have := (hrng 0 0 (by omega) (by omega)).id
    rw [← h0]; exact this.symm
  · obtain ⟨a, b, c, d, rfl⟩ := hs.two
    rw [detS_two, ← h0]; rfl
  · obtain ⟨a, b, c, d, e, f, g, h, i, rfl⟩ := hs.three
    rw [detS_three, ← h0]; rfl

end Go.Proofs.Ytdchckljggjaaaa
