/- The law FnRegions: the walk: for every input it returns true and writes nothing that was there. Conditions: the library's variables hold what their initialisers lay. -/
import Derived.Test.YtpfklkmmhdpphadGreatDoorRLaw
import Derived.Test.YtpfklkmmhdpphadGreatDoorRDraw7
import Derived.Test.YtpfklkmmhdpphadGreatDoorPlusR
import Derived.Test.YtpfklkmmhdpphadGreatDoorJnOps2
import Derived.Test.YtpfklkmmhdpphadGreatDoorMeet2
import Derived.Test.YtpfklkmmhdpphadGreatDoorEqReg2
import Derived.Deep.DeepCutAuto
import Derived.Deep.RegionHeld3
namespace Go.Proofs.YtpfklkmmhdpphadGreatDoor
open Go.RowKit
set_option linter.unusedVariables false
set_option linter.unusedSimpArgs false
set_option maxRecDepth 100000

attribute [local go_sem ↓] Go.wp_at_zero Go.wp_at_succ

theorem eqReg_self (z : Int) (hs : List Pr) : eqRegV z hs z hs = true := by simp [eqRegV, beqH]

theorem abs4 {xs : List Int} {n : Nat} (hl : xs.length = n) (h : ∀ j, j < n → -4 ≤ nth xs j ∧ nth xs j ≤ 4) (j : Nat) : Abs 4 (nth xs j) := by
  unfold Abs
  by_cases hj : j < n
  · exact h j hj
  · have : nth xs j = 0 := by unfold nth; rw [List.getD_eq_getElem?_getD, List.getElem?_eq_none (by omega)]; rfl
    rw [this]; omega

set_option maxHeartbeats 16000000 in
theorem lawFnRegions_walk (q0 : Option Addr) (n0 c0 : Nat) (x0 : List Int) (w : World) (fm0 : n0 ≤ 9223372036854775807) (fr0 : BytesZ w q0 n0 x0) (h_tab : TabW w) (h_err : ErrW w) (h_max : MaxW w) :
    Calls Tryz.prog 3 #[.slice q0 n0 c0] w fun e w' => e = .returned (.bool true) ∧ Below w.heap.size w w' := by
  by_cases hbig : 1048576 < n0
  · have hd : decide (1048576 < n0) = true := by simpa using hbig
    go_enter Tryz.func3, Tryz.ntmps3
    go_wp2_with (go_at_call 4; (with_reducible refine (big_any _ _ _ _).mono ?_); rintro e w' ⟨rfl, rfl⟩)
    go_ret
    exact ⟨rfl, Below.refl _ _⟩
  · have hd : decide (1048576 < n0) = false := by simpa using hbig
    go_enter Tryz.func3, Tryz.ntmps3
    go_wp2_with (go_at_call 4; (with_reducible refine (big_any _ _ _ _).mono ?_); rintro e w' ⟨rfl, rfl⟩)
    refine (drawMove_any _ _ _ _ _ (by omega) fr0).mono ?_
    rintro e w' ⟨zr, qr, kr, dr, rs, qv, nv, dv, xv, rfl, ho, zr0, zr4, kr6, lnr, hov, hnv, hv4, hb⟩
    have hr := ho.rd
    have hv := hov.ints
    have htr := Lib.hid (tot_small ho.len kr6 lnr.out)
    clear ho hov lnr
    have hT := hb
    clear hb
    have hBx := boxed w' (.cells #[.int .i64 zr, .slice qr kr dr] 26)
    have kR := Box2.new w' (.int .i64 zr) (.slice qr kr dr) 26
    have kRx := kR.c0
    have kRy := kR.c1
    replace hr := hr.below hBx
    replace hv := hv.below hBx
    replace hT := Below.step hT hBx
    clear hBx
    go_wp2_with fail
    generalize (w'.alloc (.cells #[.int .i64 zr, .slice qr kr dr] 26)) = V1 at *
    generalize w'.heap.size = bR at *
    refine (implMove_any _ _ _ _ _ _ _ _ _ _ (by omega) (by omega) hr hv htr.out).mono ?_
    rintro e w' ⟨qm, nm, dm, rfl, ho, hb⟩
    obtain ⟨PM, hPM⟩ : ∃ P, P = moveV zr rs xv := ⟨_, rfl⟩
    have HPM := Lib.hid hPM
    rw [← hPM] at ho ⊢
    clear hPM
    obtain ⟨⟨zm, ms⟩, okm⟩ := PM
    dsimp only at ho ⊢
    replace hr := hr.below hb
    replace hv := hv.below hb
    replace kR := kR.below hb
    replace kRx := kR.c0
    replace kRy := kR.c1
    replace hT := Below.step hT hb
    have hm := ho.rd
    have shm := ho.small
    clear ho hb
    have hBx := boxed w' (.cells #[.int .i64 zm, .slice qm nm dm] 26)
    have kM := Box2.new w' (.int .i64 zm) (.slice qm nm dm) 26
    have kMx := kM.c0
    have kMy := kM.c1
    replace hr := hr.below hBx
    replace hv := hv.below hBx
    replace hm := hm.below hBx
    replace kR := kR.below hBx
    replace kRx := kR.c0
    replace kRy := kR.c1
    replace hT := Below.step hT hBx
    clear hBx
    go_wp2_with fail
    generalize (w'.alloc (.cells #[.int .i64 zm, .slice qm nm dm] 26)) = V2 at *
    generalize w'.heap.size = bM at *
    refine (specMove_any _ _ _ _ _ _ _ _ _ _ (by omega) (by omega) hr hv htr.out).mono ?_
    rintro e w' ⟨qw, nw, dw, rfl, ho, hb⟩
    rw [← HPM.out] at ho ⊢
    dsimp only at ho ⊢
    replace hr := hr.below hb
    replace hv := hv.below hb
    replace hm := hm.below hb
    replace kR := kR.below hb
    replace kM := kM.below hb
    replace kRx := kR.c0
    replace kRy := kR.c1
    replace kMx := kM.c0
    replace kMy := kM.c1
    replace hT := Below.step hT hb
    have hw_ := ho.rd
    have shw_ := ho.small
    clear ho hb
    have hBx := boxed w' (.cells #[.int .i64 zm, .slice qw nw dw] 26)
    have kW := Box2.new w' (.int .i64 zm) (.slice qw nw dw) 26
    have kWx := kW.c0
    have kWy := kW.c1
    replace hr := hr.below hBx
    replace hv := hv.below hBx
    replace hm := hm.below hBx
    replace hw_ := hw_.below hBx
    replace kR := kR.below hBx
    replace kM := kM.below hBx
    replace kRx := kR.c0
    replace kRy := kR.c1
    replace kMx := kM.c0
    replace kMy := kM.c1
    replace hT := Below.step hT hBx
    clear hBx
    go_wp2_with fail
    generalize (w'.alloc (.cells #[.int .i64 zm, .slice qw nw dw] 26)) = V3 at *
    generalize w'.heap.size = bW at *
    refine (drawMeet_any _ _ _ _ _ (by omega) (fr0.below hT)).mono ?_
    rintro e w' ⟨za, qa, ka, da, as_, zb, qb, kb, db, bs, rfl, ha, ka6, hb_, kb6, hb⟩
    replace hr := hr.below hb
    replace hv := hv.below hb
    replace hm := hm.below hb
    replace hw_ := hw_.below hb
    replace kR := kR.below hb
    replace kM := kM.below hb
    replace kW := kW.below hb
    replace kRx := kR.c0
    replace kRy := kR.c1
    replace kMx := kM.c0
    replace kMy := kM.c1
    replace kWx := kW.c0
    replace kWy := kW.c1
    replace hT := Below.step hT hb
    clear hb
    have hBx := boxed w' (.cells #[.int .i64 za, .slice qa ka da] 26)
    have kA := Box2.new w' (.int .i64 za) (.slice qa ka da) 26
    have kAx := kA.c0
    have kAy := kA.c1
    replace hr := hr.below hBx
    replace hv := hv.below hBx
    replace hm := hm.below hBx
    replace hw_ := hw_.below hBx
    replace ha := ha.below hBx
    replace hb_ := hb_.below hBx
    replace kR := kR.below hBx
    replace kM := kM.below hBx
    replace kW := kW.below hBx
    replace kRx := kR.c0
    replace kRy := kR.c1
    replace kMx := kM.c0
    replace kMy := kM.c1
    replace kWx := kW.c0
    replace kWy := kW.c1
    replace hT := Below.step hT hBx
    clear hBx
    have hBx := boxed (w'.alloc (.cells #[.int .i64 za, .slice qa ka da] 26)) (.cells #[.int .i64 zb, .slice qb kb db] 26)
    have kB := Box2.new (w'.alloc (.cells #[.int .i64 za, .slice qa ka da] 26)) (.int .i64 zb) (.slice qb kb db) 26
    have kBx := kB.c0
    have kBy := kB.c1
    replace hr := hr.below hBx
    replace hv := hv.below hBx
    replace hm := hm.below hBx
    replace hw_ := hw_.below hBx
    replace ha := ha.below hBx
    replace hb_ := hb_.below hBx
    replace kR := kR.below hBx
    replace kM := kM.below hBx
    replace kW := kW.below hBx
    replace kA := kA.below hBx
    replace kRx := kR.c0
    replace kRy := kR.c1
    replace kMx := kM.c0
    replace kMy := kM.c1
    replace kWx := kW.c0
    replace kWy := kW.c1
    replace kAx := kA.c0
    replace kAy := kA.c1
    replace hT := Below.step hT hBx
    clear hBx
    rw [show ((w'.alloc (.cells #[.int .i64 za, .slice qa ka da] 26))).heap.size = w'.heap.size + 1 by simp] at kB
    replace kBx := kB.c0
    replace kBy := kB.c1
    go_wp2_with fail
    generalize ((w'.alloc (.cells #[.int .i64 za, .slice qa ka da] 26)).alloc (.cells #[.int .i64 zb, .slice qb kb db] 26)) = V4 at *
    generalize w'.heap.size = bA at *
    refine (implMeet_any _ _ _ _ _ _ _ _ _ _ _ (by omega) (by omega) ha hb_).mono ?_
    rintro e w' ⟨qc, nc, dc, rfl, ho, hb⟩
    obtain ⟨PC, hPC⟩ : ∃ P, P = meetV za as_ zb bs := ⟨_, rfl⟩
    have HPC := Lib.hid hPC
    rw [← hPC] at ho ⊢
    clear hPC
    obtain ⟨⟨zc, cs⟩, one⟩ := PC
    dsimp only at ho ⊢
    replace hr := hr.below hb
    replace hv := hv.below hb
    replace hm := hm.below hb
    replace hw_ := hw_.below hb
    replace ha := ha.below hb
    replace hb_ := hb_.below hb
    replace kR := kR.below hb
    replace kM := kM.below hb
    replace kW := kW.below hb
    replace kA := kA.below hb
    replace kB := kB.below hb
    replace kRx := kR.c0
    replace kRy := kR.c1
    replace kMx := kM.c0
    replace kMy := kM.c1
    replace kWx := kW.c0
    replace kWy := kW.c1
    replace kAx := kA.c0
    replace kAy := kA.c1
    replace kBx := kB.c0
    replace kBy := kB.c1
    replace hT := Below.step hT hb
    have hc_ := ho.rd
    have shc_ := ho.small
    clear ho hb
    have hBx := boxed w' (.cells #[.int .i64 zc, .slice qc nc dc] 26)
    have kC := Box2.new w' (.int .i64 zc) (.slice qc nc dc) 26
    have kCx := kC.c0
    have kCy := kC.c1
    replace hr := hr.below hBx
    replace hv := hv.below hBx
    replace hm := hm.below hBx
    replace hw_ := hw_.below hBx
    replace ha := ha.below hBx
    replace hb_ := hb_.below hBx
    replace hc_ := hc_.below hBx
    replace kR := kR.below hBx
    replace kM := kM.below hBx
    replace kW := kW.below hBx
    replace kA := kA.below hBx
    replace kB := kB.below hBx
    replace kRx := kR.c0
    replace kRy := kR.c1
    replace kMx := kM.c0
    replace kMy := kM.c1
    replace kWx := kW.c0
    replace kWy := kW.c1
    replace kAx := kA.c0
    replace kAy := kA.c1
    replace kBx := kB.c0
    replace kBy := kB.c1
    replace hT := Below.step hT hBx
    clear hBx
    go_wp2_with fail
    generalize (w'.alloc (.cells #[.int .i64 zc, .slice qc nc dc] 26)) = V5 at *
    generalize w'.heap.size = bC at *
    refine (specMeet_any _ _ _ _ _ _ _ _ _ _ _ (by omega) (by omega) ha hb_).mono ?_
    rintro e w' ⟨qd, nd, dd, rfl, ho, hb⟩
    rw [← HPC.out] at ho ⊢
    dsimp only at ho ⊢
    replace hr := hr.below hb
    replace hv := hv.below hb
    replace hm := hm.below hb
    replace hw_ := hw_.below hb
    replace ha := ha.below hb
    replace hb_ := hb_.below hb
    replace hc_ := hc_.below hb
    replace kR := kR.below hb
    replace kM := kM.below hb
    replace kW := kW.below hb
    replace kA := kA.below hb
    replace kB := kB.below hb
    replace kC := kC.below hb
    replace kRx := kR.c0
    replace kRy := kR.c1
    replace kMx := kM.c0
    replace kMy := kM.c1
    replace kWx := kW.c0
    replace kWy := kW.c1
    replace kAx := kA.c0
    replace kAy := kA.c1
    replace kBx := kB.c0
    replace kBy := kB.c1
    replace kCx := kC.c0
    replace kCy := kC.c1
    replace hT := Below.step hT hb
    have hd_ := ho.rd
    have shd_ := ho.small
    clear ho hb
    have hBx := boxed w' (.cells #[.int .i64 zc, .slice qd nd dd] 26)
    have kD := Box2.new w' (.int .i64 zc) (.slice qd nd dd) 26
    have kDx := kD.c0
    have kDy := kD.c1
    replace hr := hr.below hBx
    replace hv := hv.below hBx
    replace hm := hm.below hBx
    replace hw_ := hw_.below hBx
    replace ha := ha.below hBx
    replace hb_ := hb_.below hBx
    replace hc_ := hc_.below hBx
    replace hd_ := hd_.below hBx
    replace kR := kR.below hBx
    replace kM := kM.below hBx
    replace kW := kW.below hBx
    replace kA := kA.below hBx
    replace kB := kB.below hBx
    replace kC := kC.below hBx
    replace kRx := kR.c0
    replace kRy := kR.c1
    replace kMx := kM.c0
    replace kMy := kM.c1
    replace kWx := kW.c0
    replace kWy := kW.c1
    replace kAx := kA.c0
    replace kAy := kA.c1
    replace kBx := kB.c0
    replace kBy := kB.c1
    replace kCx := kC.c0
    replace kCy := kC.c1
    replace hT := Below.step hT hBx
    clear hBx
    go_wp2_with fail
    generalize (w'.alloc (.cells #[.int .i64 zc, .slice qd nd dd] 26)) = V6 at *
    generalize w'.heap.size = bD at *
    refine (drawEqual_any _ _ _ _ _ (by omega) (fr0.below hT)).mono ?_
    rintro e w' ⟨ze, qe, ke, de, es, zf, qf, kf, df, fs, rfl, he_, ke6, hf_, kf6, hb⟩
    replace hr := hr.below hb
    replace hv := hv.below hb
    replace hm := hm.below hb
    replace hw_ := hw_.below hb
    replace ha := ha.below hb
    replace hb_ := hb_.below hb
    replace hc_ := hc_.below hb
    replace hd_ := hd_.below hb
    replace kR := kR.below hb
    replace kM := kM.below hb
    replace kW := kW.below hb
    replace kA := kA.below hb
    replace kB := kB.below hb
    replace kC := kC.below hb
    replace kD := kD.below hb
    replace kRx := kR.c0
    replace kRy := kR.c1
    replace kMx := kM.c0
    replace kMy := kM.c1
    replace kWx := kW.c0
    replace kWy := kW.c1
    replace kAx := kA.c0
    replace kAy := kA.c1
    replace kBx := kB.c0
    replace kBy := kB.c1
    replace kCx := kC.c0
    replace kCy := kC.c1
    replace kDx := kD.c0
    replace kDy := kD.c1
    replace hT := Below.step hT hb
    clear hb
    have hBx := boxed w' (.cells #[.int .i64 ze, .slice qe ke de] 26)
    have kE := Box2.new w' (.int .i64 ze) (.slice qe ke de) 26
    have kEx := kE.c0
    have kEy := kE.c1
    replace hr := hr.below hBx
    replace hv := hv.below hBx
    replace hm := hm.below hBx
    replace hw_ := hw_.below hBx
    replace ha := ha.below hBx
    replace hb_ := hb_.below hBx
    replace hc_ := hc_.below hBx
    replace hd_ := hd_.below hBx
    replace he_ := he_.below hBx
    replace hf_ := hf_.below hBx
    replace kR := kR.below hBx
    replace kM := kM.below hBx
    replace kW := kW.below hBx
    replace kA := kA.below hBx
    replace kB := kB.below hBx
    replace kC := kC.below hBx
    replace kD := kD.below hBx
    replace kRx := kR.c0
    replace kRy := kR.c1
    replace kMx := kM.c0
    replace kMy := kM.c1
    replace kWx := kW.c0
    replace kWy := kW.c1
    replace kAx := kA.c0
    replace kAy := kA.c1
    replace kBx := kB.c0
    replace kBy := kB.c1
    replace kCx := kC.c0
    replace kCy := kC.c1
    replace kDx := kD.c0
    replace kDy := kD.c1
    replace hT := Below.step hT hBx
    clear hBx
    have hBx := boxed (w'.alloc (.cells #[.int .i64 ze, .slice qe ke de] 26)) (.cells #[.int .i64 zf, .slice qf kf df] 26)
    have kF := Box2.new (w'.alloc (.cells #[.int .i64 ze, .slice qe ke de] 26)) (.int .i64 zf) (.slice qf kf df) 26
    have kFx := kF.c0
    have kFy := kF.c1
    replace hr := hr.below hBx
    replace hv := hv.below hBx
    replace hm := hm.below hBx
    replace hw_ := hw_.below hBx
    replace ha := ha.below hBx
    replace hb_ := hb_.below hBx
    replace hc_ := hc_.below hBx
    replace hd_ := hd_.below hBx
    replace he_ := he_.below hBx
    replace hf_ := hf_.below hBx
    replace kR := kR.below hBx
    replace kM := kM.below hBx
    replace kW := kW.below hBx
    replace kA := kA.below hBx
    replace kB := kB.below hBx
    replace kC := kC.below hBx
    replace kD := kD.below hBx
    replace kE := kE.below hBx
    replace kRx := kR.c0
    replace kRy := kR.c1
    replace kMx := kM.c0
    replace kMy := kM.c1
    replace kWx := kW.c0
    replace kWy := kW.c1
    replace kAx := kA.c0
    replace kAy := kA.c1
    replace kBx := kB.c0
    replace kBy := kB.c1
    replace kCx := kC.c0
    replace kCy := kC.c1
    replace kDx := kD.c0
    replace kDy := kD.c1
    replace kEx := kE.c0
    replace kEy := kE.c1
    replace hT := Below.step hT hBx
    clear hBx
    rw [show ((w'.alloc (.cells #[.int .i64 ze, .slice qe ke de] 26))).heap.size = w'.heap.size + 1 by simp] at kF
    replace kFx := kF.c0
    replace kFy := kF.c1
    go_wp2_with fail
    generalize ((w'.alloc (.cells #[.int .i64 ze, .slice qe ke de] 26)).alloc (.cells #[.int .i64 zf, .slice qf kf df] 26)) = V7 at *
    generalize w'.heap.size = bE at *
    refine (drawIsHalf_any _ _ _ _ _ (by omega) (fr0.below hT)).mono ?_
    rintro e w' ⟨zn, qh, nh, dh, xh, bh, rfl, hh, nh9, hb⟩
    replace hr := hr.below hb
    replace hv := hv.below hb
    replace hm := hm.below hb
    replace hw_ := hw_.below hb
    replace ha := ha.below hb
    replace hb_ := hb_.below hb
    replace hc_ := hc_.below hb
    replace hd_ := hd_.below hb
    replace he_ := he_.below hb
    replace hf_ := hf_.below hb
    replace kR := kR.below hb
    replace kM := kM.below hb
    replace kW := kW.below hb
    replace kA := kA.below hb
    replace kB := kB.below hb
    replace kC := kC.below hb
    replace kD := kD.below hb
    replace kE := kE.below hb
    replace kF := kF.below hb
    replace kRx := kR.c0
    replace kRy := kR.c1
    replace kMx := kM.c0
    replace kMy := kM.c1
    replace kWx := kW.c0
    replace kWy := kW.c1
    replace kAx := kA.c0
    replace kAy := kA.c1
    replace kBx := kB.c0
    replace kBy := kB.c1
    replace kCx := kC.c0
    replace kCy := kC.c1
    replace kDx := kD.c0
    replace kDy := kD.c1
    replace kEx := kE.c0
    replace kEy := kE.c1
    replace kFx := kF.c0
    replace kFy := kF.c1
    replace hT := Below.step hT hb
    clear hb
    have hBx := boxed w' (.cells #[.slice qh nh dh, .int .i64 bh] 36)
    have kH := Box2.new w' (.slice qh nh dh) (.int .i64 bh) 36
    have kHx := kH.c0
    have kHy := kH.c1
    replace hr := hr.below hBx
    replace hv := hv.below hBx
    replace hm := hm.below hBx
    replace hw_ := hw_.below hBx
    replace ha := ha.below hBx
    replace hb_ := hb_.below hBx
    replace hc_ := hc_.below hBx
    replace hd_ := hd_.below hBx
    replace he_ := he_.below hBx
    replace hf_ := hf_.below hBx
    replace hh := hh.below hBx
    replace kR := kR.below hBx
    replace kM := kM.below hBx
    replace kW := kW.below hBx
    replace kA := kA.below hBx
    replace kB := kB.below hBx
    replace kC := kC.below hBx
    replace kD := kD.below hBx
    replace kE := kE.below hBx
    replace kF := kF.below hBx
    replace kRx := kR.c0
    replace kRy := kR.c1
    replace kMx := kM.c0
    replace kMy := kM.c1
    replace kWx := kW.c0
    replace kWy := kW.c1
    replace kAx := kA.c0
    replace kAy := kA.c1
    replace kBx := kB.c0
    replace kBy := kB.c1
    replace kCx := kC.c0
    replace kCy := kC.c1
    replace kDx := kD.c0
    replace kDy := kD.c1
    replace kEx := kE.c0
    replace kEy := kE.c1
    replace kFx := kF.c0
    replace kFy := kF.c1
    replace hT := Below.step hT hBx
    clear hBx
    go_wp2_with fail
    generalize (w'.alloc (.cells #[.slice qh nh dh, .int .i64 bh] 36)) = V8 at *
    generalize w'.heap.size = bH at *
    refine (drawPReg_any _ _ _ _ _ (by omega) (fr0.below hT)).mono ?_
    rintro e w' ⟨tx, rfl, htl, hb⟩
    replace hr := hr.below hb
    replace hv := hv.below hb
    replace hm := hm.below hb
    replace hw_ := hw_.below hb
    replace ha := ha.below hb
    replace hb_ := hb_.below hb
    replace hc_ := hc_.below hb
    replace hd_ := hd_.below hb
    replace he_ := he_.below hb
    replace hf_ := hf_.below hb
    replace hh := hh.below hb
    replace kR := kR.below hb
    replace kM := kM.below hb
    replace kW := kW.below hb
    replace kA := kA.below hb
    replace kB := kB.below hb
    replace kC := kC.below hb
    replace kD := kD.below hb
    replace kE := kE.below hb
    replace kF := kF.below hb
    replace kH := kH.below hb
    replace kRx := kR.c0
    replace kRy := kR.c1
    replace kMx := kM.c0
    replace kMy := kM.c1
    replace kWx := kW.c0
    replace kWy := kW.c1
    replace kAx := kA.c0
    replace kAy := kA.c1
    replace kBx := kB.c0
    replace kBy := kB.c1
    replace kCx := kC.c0
    replace kCy := kC.c1
    replace kDx := kD.c0
    replace kDy := kD.c1
    replace kEx := kE.c0
    replace kEy := kE.c1
    replace kFx := kF.c0
    replace kFy := kF.c1
    replace kHx := kH.c0
    replace kHy := kH.c1
    replace hT := Below.step hT hb
    clear hb
    go_wp2_with fail
    refine (implPReg_any _ _ htl (h_tab.below hT) (h_err.below hT) (h_max.below hT)).mono ?_
    rintro e w' ⟨qu, nu, du, rfl, ho, hb⟩
    obtain ⟨PU, hPU⟩ : ∃ P, P = pregV tx := ⟨_, rfl⟩
    have HPU := Lib.hid hPU
    rw [← hPU] at ho ⊢
    clear hPU
    obtain ⟨⟨zu, us⟩, read⟩ := PU
    dsimp only at ho ⊢
    replace hr := hr.below hb
    replace hv := hv.below hb
    replace hm := hm.below hb
    replace hw_ := hw_.below hb
    replace ha := ha.below hb
    replace hb_ := hb_.below hb
    replace hc_ := hc_.below hb
    replace hd_ := hd_.below hb
    replace he_ := he_.below hb
    replace hf_ := hf_.below hb
    replace hh := hh.below hb
    replace kR := kR.below hb
    replace kM := kM.below hb
    replace kW := kW.below hb
    replace kA := kA.below hb
    replace kB := kB.below hb
    replace kC := kC.below hb
    replace kD := kD.below hb
    replace kE := kE.below hb
    replace kF := kF.below hb
    replace kH := kH.below hb
    replace kRx := kR.c0
    replace kRy := kR.c1
    replace kMx := kM.c0
    replace kMy := kM.c1
    replace kWx := kW.c0
    replace kWy := kW.c1
    replace kAx := kA.c0
    replace kAy := kA.c1
    replace kBx := kB.c0
    replace kBy := kB.c1
    replace kCx := kC.c0
    replace kCy := kC.c1
    replace kDx := kD.c0
    replace kDy := kD.c1
    replace kEx := kE.c0
    replace kEy := kE.c1
    replace kFx := kF.c0
    replace kFy := kF.c1
    replace kHx := kH.c0
    replace kHy := kH.c1
    replace hT := Below.step hT hb
    have hu_ := ho.rd
    have shu_ := ho.small
    clear ho hb
    have hBx := boxed w' (.cells #[.int .i64 zu, .slice qu nu du] 26)
    have kU := Box2.new w' (.int .i64 zu) (.slice qu nu du) 26
    have kUx := kU.c0
    have kUy := kU.c1
    replace hr := hr.below hBx
    replace hv := hv.below hBx
    replace hm := hm.below hBx
    replace hw_ := hw_.below hBx
    replace ha := ha.below hBx
    replace hb_ := hb_.below hBx
    replace hc_ := hc_.below hBx
    replace hd_ := hd_.below hBx
    replace he_ := he_.below hBx
    replace hf_ := hf_.below hBx
    replace hh := hh.below hBx
    replace hu_ := hu_.below hBx
    replace kR := kR.below hBx
    replace kM := kM.below hBx
    replace kW := kW.below hBx
    replace kA := kA.below hBx
    replace kB := kB.below hBx
    replace kC := kC.below hBx
    replace kD := kD.below hBx
    replace kE := kE.below hBx
    replace kF := kF.below hBx
    replace kH := kH.below hBx
    replace kRx := kR.c0
    replace kRy := kR.c1
    replace kMx := kM.c0
    replace kMy := kM.c1
    replace kWx := kW.c0
    replace kWy := kW.c1
    replace kAx := kA.c0
    replace kAy := kA.c1
    replace kBx := kB.c0
    replace kBy := kB.c1
    replace kCx := kC.c0
    replace kCy := kC.c1
    replace kDx := kD.c0
    replace kDy := kD.c1
    replace kEx := kE.c0
    replace kEy := kE.c1
    replace kFx := kF.c0
    replace kFy := kF.c1
    replace kHx := kH.c0
    replace kHy := kH.c1
    replace hT := Below.step hT hBx
    clear hBx
    go_wp2_with fail
    generalize (w'.alloc (.cells #[.int .i64 zu, .slice qu nu du] 26)) = V9 at *
    generalize w'.heap.size = bU at *
    refine (specPReg_any _ _ htl).mono ?_
    rintro e w' ⟨qy, ny, dy, rfl, ho, hb⟩
    rw [← HPU.out] at ho ⊢
    dsimp only at ho ⊢
    replace hr := hr.below hb
    replace hv := hv.below hb
    replace hm := hm.below hb
    replace hw_ := hw_.below hb
    replace ha := ha.below hb
    replace hb_ := hb_.below hb
    replace hc_ := hc_.below hb
    replace hd_ := hd_.below hb
    replace he_ := he_.below hb
    replace hf_ := hf_.below hb
    replace hh := hh.below hb
    replace hu_ := hu_.below hb
    replace kR := kR.below hb
    replace kM := kM.below hb
    replace kW := kW.below hb
    replace kA := kA.below hb
    replace kB := kB.below hb
    replace kC := kC.below hb
    replace kD := kD.below hb
    replace kE := kE.below hb
    replace kF := kF.below hb
    replace kH := kH.below hb
    replace kU := kU.below hb
    replace kRx := kR.c0
    replace kRy := kR.c1
    replace kMx := kM.c0
    replace kMy := kM.c1
    replace kWx := kW.c0
    replace kWy := kW.c1
    replace kAx := kA.c0
    replace kAy := kA.c1
    replace kBx := kB.c0
    replace kBy := kB.c1
    replace kCx := kC.c0
    replace kCy := kC.c1
    replace kDx := kD.c0
    replace kDy := kD.c1
    replace kEx := kE.c0
    replace kEy := kE.c1
    replace kFx := kF.c0
    replace kFy := kF.c1
    replace kHx := kH.c0
    replace kHy := kH.c1
    replace kUx := kU.c0
    replace kUy := kU.c1
    replace hT := Below.step hT hb
    have hy_ := ho.rd
    have shy_ := ho.small
    clear ho hb
    have hBx := boxed w' (.cells #[.int .i64 zu, .slice qy ny dy] 26)
    have kY := Box2.new w' (.int .i64 zu) (.slice qy ny dy) 26
    have kYx := kY.c0
    have kYy := kY.c1
    replace hr := hr.below hBx
    replace hv := hv.below hBx
    replace hm := hm.below hBx
    replace hw_ := hw_.below hBx
    replace ha := ha.below hBx
    replace hb_ := hb_.below hBx
    replace hc_ := hc_.below hBx
    replace hd_ := hd_.below hBx
    replace he_ := he_.below hBx
    replace hf_ := hf_.below hBx
    replace hh := hh.below hBx
    replace hu_ := hu_.below hBx
    replace hy_ := hy_.below hBx
    replace kR := kR.below hBx
    replace kM := kM.below hBx
    replace kW := kW.below hBx
    replace kA := kA.below hBx
    replace kB := kB.below hBx
    replace kC := kC.below hBx
    replace kD := kD.below hBx
    replace kE := kE.below hBx
    replace kF := kF.below hBx
    replace kH := kH.below hBx
    replace kU := kU.below hBx
    replace kRx := kR.c0
    replace kRy := kR.c1
    replace kMx := kM.c0
    replace kMy := kM.c1
    replace kWx := kW.c0
    replace kWy := kW.c1
    replace kAx := kA.c0
    replace kAy := kA.c1
    replace kBx := kB.c0
    replace kBy := kB.c1
    replace kCx := kC.c0
    replace kCy := kC.c1
    replace kDx := kD.c0
    replace kDy := kD.c1
    replace kEx := kE.c0
    replace kEy := kE.c1
    replace kFx := kF.c0
    replace kFy := kF.c1
    replace kHx := kH.c0
    replace kHy := kH.c1
    replace kUx := kU.c0
    replace kUy := kU.c1
    replace hT := Below.step hT hBx
    clear hBx
    go_wp2_with fail
    generalize (w'.alloc (.cells #[.int .i64 zu, .slice qy ny dy] 26)) = V10 at *
    generalize w'.heap.size = bY at *
    refine (drawHas4_any _ _ _ _ _ (by omega) (fr0.below hT)).mono ?_
    rintro e w' ⟨zg, qg, kg, dg, gs, qx, nx, dx, xx, rfl, ho, zg0, zg4, kg6, lng, hox, hnx, hx4, hb⟩
    replace hr := hr.below hb
    replace hv := hv.below hb
    replace hm := hm.below hb
    replace hw_ := hw_.below hb
    replace ha := ha.below hb
    replace hb_ := hb_.below hb
    replace hc_ := hc_.below hb
    replace hd_ := hd_.below hb
    replace he_ := he_.below hb
    replace hf_ := hf_.below hb
    replace hh := hh.below hb
    replace hu_ := hu_.below hb
    replace hy_ := hy_.below hb
    replace kR := kR.below hb
    replace kM := kM.below hb
    replace kW := kW.below hb
    replace kA := kA.below hb
    replace kB := kB.below hb
    replace kC := kC.below hb
    replace kD := kD.below hb
    replace kE := kE.below hb
    replace kF := kF.below hb
    replace kH := kH.below hb
    replace kU := kU.below hb
    replace kY := kY.below hb
    replace kRx := kR.c0
    replace kRy := kR.c1
    replace kMx := kM.c0
    replace kMy := kM.c1
    replace kWx := kW.c0
    replace kWy := kW.c1
    replace kAx := kA.c0
    replace kAy := kA.c1
    replace kBx := kB.c0
    replace kBy := kB.c1
    replace kCx := kC.c0
    replace kCy := kC.c1
    replace kDx := kD.c0
    replace kDy := kD.c1
    replace kEx := kE.c0
    replace kEy := kE.c1
    replace kFx := kF.c0
    replace kFy := kF.c1
    replace kHx := kH.c0
    replace kHy := kH.c1
    replace kUx := kU.c0
    replace kUy := kU.c1
    replace kYx := kY.c0
    replace kYy := kY.c1
    replace hT := Below.step hT hb
    have hg_ := ho.rd
    have hx_ := hox.ints
    clear ho hox hb lng hx4
    have hBx := boxed w' (.cells #[.int .i64 zg, .slice qg kg dg] 26)
    have kG := Box2.new w' (.int .i64 zg) (.slice qg kg dg) 26
    have kGx := kG.c0
    have kGy := kG.c1
    replace hr := hr.below hBx
    replace hv := hv.below hBx
    replace hm := hm.below hBx
    replace hw_ := hw_.below hBx
    replace ha := ha.below hBx
    replace hb_ := hb_.below hBx
    replace hc_ := hc_.below hBx
    replace hd_ := hd_.below hBx
    replace he_ := he_.below hBx
    replace hf_ := hf_.below hBx
    replace hh := hh.below hBx
    replace hu_ := hu_.below hBx
    replace hy_ := hy_.below hBx
    replace hg_ := hg_.below hBx
    replace hx_ := hx_.below hBx
    replace kR := kR.below hBx
    replace kM := kM.below hBx
    replace kW := kW.below hBx
    replace kA := kA.below hBx
    replace kB := kB.below hBx
    replace kC := kC.below hBx
    replace kD := kD.below hBx
    replace kE := kE.below hBx
    replace kF := kF.below hBx
    replace kH := kH.below hBx
    replace kU := kU.below hBx
    replace kY := kY.below hBx
    replace kRx := kR.c0
    replace kRy := kR.c1
    replace kMx := kM.c0
    replace kMy := kM.c1
    replace kWx := kW.c0
    replace kWy := kW.c1
    replace kAx := kA.c0
    replace kAy := kA.c1
    replace kBx := kB.c0
    replace kBy := kB.c1
    replace kCx := kC.c0
    replace kCy := kC.c1
    replace kDx := kD.c0
    replace kDy := kD.c1
    replace kEx := kE.c0
    replace kEy := kE.c1
    replace kFx := kF.c0
    replace kFy := kF.c1
    replace kHx := kH.c0
    replace kHy := kH.c1
    replace kUx := kU.c0
    replace kUy := kU.c1
    replace kYx := kY.c0
    replace kYy := kY.c1
    replace hT := Below.step hT hBx
    clear hBx
    go_upto_region 15 with fail
    generalize (w'.alloc (.cells #[.int .i64 zg, .slice qg kg dg] 26)) = U at *
    generalize w'.heap.size = bG at *
    have htab := h_tab.below hT
    have herr := h_err.below hT
    have hmax := h_max.below hT
    clear fr0 h_tab h_err h_max
    have hE1 := Lib.hid (eqReg_self zm ms)
    have hE2 := Lib.hid (eqReg_self zc cs)
    have hE3 := Lib.hid (eqReg_self zu us)
    obtain rfl : nw = nm := by rw [← hw_.len, ← hm.len]
    obtain rfl : nd = nc := by rw [← hd_.len, ← hc_.len]
    obtain rfl : ny = nu := by rw [← hy_.len, ← hu_.len]
    go_cut [156] (fun v wx => v = .bool false ∧ Below U.heap.size U wx)
    case first =>
      as_aux_lemma =>
        have hc := Below.refl U.heap.size U
        have hb := drewBelow U
        replace hr := hr.below hb
        replace hm := hm.below hb
        replace hw_ := hw_.below hb
        replace hc_ := hc_.below hb
        replace hd_ := hd_.below hb
        replace he_ := he_.below hb
        replace hf_ := hf_.below hb
        replace hh := hh.below hb
        replace hu_ := hu_.below hb
        replace hy_ := hy_.below hb
        replace hg_ := hg_.below hb
        replace hx_ := hx_.below hb
        replace kM := kM.below hb
        replace kW := kW.below hb
        replace kC := kC.below hb
        replace kD := kD.below hb
        replace kE := kE.below hb
        replace kF := kF.below hb
        replace kH := kH.below hb
        replace kU := kU.below hb
        replace kY := kY.below hb
        replace kG := kG.below hb
        replace kR := kR.below hb
        replace kMx := kM.c0
        replace kMy := kM.c1
        replace kWx := kW.c0
        replace kWy := kW.c1
        replace kCx := kC.c0
        replace kCy := kC.c1
        replace kDx := kD.c0
        replace kDy := kD.c1
        replace kEx := kE.c0
        replace kEy := kE.c1
        replace kFx := kF.c0
        replace kFy := kF.c1
        replace kHx := kH.c0
        replace kHy := kH.c1
        replace kUx := kU.c0
        replace kUy := kU.c1
        replace kYx := kY.c0
        replace kYy := kY.c1
        replace kGx := kG.c0
        replace kGy := kG.c1
        replace kRx := kR.c0
        replace kRy := kR.c1
        replace hc := Below.step hc hb
        simp only [List.append_eq, List.cons_append, List.nil_append]
        go_region_held3 (fun w' => w'.cell? ⟨bM, 0, none⟩ = some (.int .i64 zm) ∧ w'.cell? ⟨bM, 1, none⟩ = some (.slice qm nw dm) ∧ w'.cell? ⟨bW, 0, none⟩ = some (.int .i64 zm) ∧ w'.cell? ⟨bW, 1, none⟩ = some (.slice qw nw dw) ∧ w'.cell? ⟨bC, 0, none⟩ = some (.int .i64 zc) ∧ w'.cell? ⟨bC, 1, none⟩ = some (.slice qc nd dc) ∧ w'.cell? ⟨bD, 0, none⟩ = some (.int .i64 zc) ∧ w'.cell? ⟨bD, 1, none⟩ = some (.slice qd nd dd) ∧ w'.cell? ⟨bE, 0, none⟩ = some (.int .i64 ze) ∧ w'.cell? ⟨bE, 1, none⟩ = some (.slice qe ke de) ∧ w'.cell? ⟨bE + 1, 0, none⟩ = some (.int .i64 zf) ∧ w'.cell? ⟨bE + 1, 1, none⟩ = some (.slice qf kf df) ∧ w'.cell? ⟨bH, 0, none⟩ = some (.slice qh nh dh) ∧ w'.cell? ⟨bH, 1, none⟩ = some (.int .i64 bh) ∧ w'.cell? ⟨bU, 0, none⟩ = some (.int .i64 zu) ∧ w'.cell? ⟨bU, 1, none⟩ = some (.slice qu ny du) ∧ w'.cell? ⟨bY, 0, none⟩ = some (.int .i64 zu) ∧ w'.cell? ⟨bY, 1, none⟩ = some (.slice qy ny dy) ∧ w'.cell? ⟨bG, 0, none⟩ = some (.int .i64 zg) ∧ w'.cell? ⟨bG, 1, none⟩ = some (.slice qg kg dg) ∧ w'.cell? ⟨bR, 0, none⟩ = some (.int .i64 zr) ∧ w'.cell? ⟨bR, 1, none⟩ = some (.slice qr kr dr)) (first | exact ⟨kMx, kMy, kWx, kWy, kCx, kCy, kDx, kDy, kEx, kEy, kFx, kFy, kHx, kHy, kUx, kUy, kYx, kYy, kGx, kGy, kRx, kRy⟩) (first | (go_simp; go_at_call 17; (with_reducible refine (specEqReg_any _ _ _ _ _ _ _ _ _ _ _ hm hw_ (by omega) (by omega)).mono ?_); rw [hE1.out]; rintro e w' ⟨rfl, hb⟩; replace hr := hr.below hb; replace hm := hm.below hb; replace hw_ := hw_.below hb; replace hc_ := hc_.below hb; replace hd_ := hd_.below hb; replace he_ := he_.below hb; replace hf_ := hf_.below hb; replace hh := hh.below hb; replace hu_ := hu_.below hb; replace hy_ := hy_.below hb; replace hg_ := hg_.below hb; replace hx_ := hx_.below hb; replace kM := kM.below hb; replace kW := kW.below hb; replace kC := kC.below hb; replace kD := kD.below hb; replace kE := kE.below hb; replace kF := kF.below hb; replace kH := kH.below hb; replace kU := kU.below hb; replace kY := kY.below hb; replace kG := kG.below hb; replace kR := kR.below hb; replace kMx := kM.c0; replace kMy := kM.c1; replace kWx := kW.c0; replace kWy := kW.c1; replace kCx := kC.c0; replace kCy := kC.c1; replace kDx := kD.c0; replace kDy := kD.c1; replace kEx := kE.c0; replace kEy := kE.c1; replace kFx := kF.c0; replace kFy := kF.c1; replace kHx := kH.c0; replace kHy := kH.c1; replace kUx := kU.c0; replace kUy := kU.c1; replace kYx := kY.c0; replace kYy := kY.c1; replace kGx := kG.c0; replace kGy := kG.c1; replace kRx := kR.c0; replace kRy := kR.c1; replace hc := Below.step hc hb) | (go_simp; go_at_call 17; (with_reducible refine (specEqReg_any _ _ _ _ _ _ _ _ _ _ _ hc_ hd_ (by omega) (by omega)).mono ?_); rw [hE2.out]; rintro e w' ⟨rfl, hb⟩; replace hr := hr.below hb; replace hm := hm.below hb; replace hw_ := hw_.below hb; replace hc_ := hc_.below hb; replace hd_ := hd_.below hb; replace he_ := he_.below hb; replace hf_ := hf_.below hb; replace hh := hh.below hb; replace hu_ := hu_.below hb; replace hy_ := hy_.below hb; replace hg_ := hg_.below hb; replace hx_ := hx_.below hb; replace kM := kM.below hb; replace kW := kW.below hb; replace kC := kC.below hb; replace kD := kD.below hb; replace kE := kE.below hb; replace kF := kF.below hb; replace kH := kH.below hb; replace kU := kU.below hb; replace kY := kY.below hb; replace kG := kG.below hb; replace kR := kR.below hb; replace kMx := kM.c0; replace kMy := kM.c1; replace kWx := kW.c0; replace kWy := kW.c1; replace kCx := kC.c0; replace kCy := kC.c1; replace kDx := kD.c0; replace kDy := kD.c1; replace kEx := kE.c0; replace kEy := kE.c1; replace kFx := kF.c0; replace kFy := kF.c1; replace kHx := kH.c0; replace kHy := kH.c1; replace kUx := kU.c0; replace kUy := kU.c1; replace kYx := kY.c0; replace kYy := kY.c1; replace kGx := kG.c0; replace kGy := kG.c1; replace kRx := kR.c0; replace kRy := kR.c1; replace hc := Below.step hc hb) | (go_simp; go_at_call 17; (with_reducible refine (specEqReg_any _ _ _ _ _ _ _ _ _ _ _ hu_ hy_ (by omega) (by omega)).mono ?_); rw [hE3.out]; rintro e w' ⟨rfl, hb⟩; replace hr := hr.below hb; replace hm := hm.below hb; replace hw_ := hw_.below hb; replace hc_ := hc_.below hb; replace hd_ := hd_.below hb; replace he_ := he_.below hb; replace hf_ := hf_.below hb; replace hh := hh.below hb; replace hu_ := hu_.below hb; replace hy_ := hy_.below hb; replace hg_ := hg_.below hb; replace hx_ := hx_.below hb; replace kM := kM.below hb; replace kW := kW.below hb; replace kC := kC.below hb; replace kD := kD.below hb; replace kE := kE.below hb; replace kF := kF.below hb; replace kH := kH.below hb; replace kU := kU.below hb; replace kY := kY.below hb; replace kG := kG.below hb; replace kR := kR.below hb; replace kMx := kM.c0; replace kMy := kM.c1; replace kWx := kW.c0; replace kWy := kW.c1; replace kCx := kC.c0; replace kCy := kC.c1; replace kDx := kD.c0; replace kDy := kD.c1; replace kEx := kE.c0; replace kEy := kE.c1; replace kFx := kF.c0; replace kFy := kF.c1; replace kHx := kH.c0; replace kHy := kH.c1; replace kUx := kU.c0; replace kUy := kU.c1; replace kYx := kY.c0; replace kYy := kY.c1; replace kGx := kG.c0; replace kGy := kG.c1; replace kRx := kR.c0; replace kRy := kR.c1; replace hc := Below.step hc hb) | (go_simp; go_at_call 17; (with_reducible refine (specEqReg_any _ _ _ _ _ _ _ _ _ _ _ he_ hf_ (by omega) (by omega)).mono ?_); rintro e w' ⟨rfl, hb⟩; replace hr := hr.below hb; replace hm := hm.below hb; replace hw_ := hw_.below hb; replace hc_ := hc_.below hb; replace hd_ := hd_.below hb; replace he_ := he_.below hb; replace hf_ := hf_.below hb; replace hh := hh.below hb; replace hu_ := hu_.below hb; replace hy_ := hy_.below hb; replace hg_ := hg_.below hb; replace hx_ := hx_.below hb; replace kM := kM.below hb; replace kW := kW.below hb; replace kC := kC.below hb; replace kD := kD.below hb; replace kE := kE.below hb; replace kF := kF.below hb; replace kH := kH.below hb; replace kU := kU.below hb; replace kY := kY.below hb; replace kG := kG.below hb; replace kR := kR.below hb; replace kMx := kM.c0; replace kMy := kM.c1; replace kWx := kW.c0; replace kWy := kW.c1; replace kCx := kC.c0; replace kCy := kC.c1; replace kDx := kD.c0; replace kDy := kD.c1; replace kEx := kE.c0; replace kEy := kE.c1; replace kFx := kF.c0; replace kFy := kF.c1; replace kHx := kH.c0; replace kHy := kH.c1; replace kUx := kU.c0; replace kUy := kU.c1; replace kYx := kY.c0; replace kYy := kY.c1; replace kGx := kG.c0; replace kGy := kG.c1; replace kRx := kR.c0; replace kRy := kR.c1; replace hc := Below.step hc hb) | (go_simp; go_at_call 18; (with_reducible refine (implEqReg_any _ _ _ _ _ _ _ _ _ _ _ he_ hf_ (by omega) (by omega)).mono ?_); rintro e w' ⟨rfl, hb⟩; replace hr := hr.below hb; replace hm := hm.below hb; replace hw_ := hw_.below hb; replace hc_ := hc_.below hb; replace hd_ := hd_.below hb; replace he_ := he_.below hb; replace hf_ := hf_.below hb; replace hh := hh.below hb; replace hu_ := hu_.below hb; replace hy_ := hy_.below hb; replace hg_ := hg_.below hb; replace hx_ := hx_.below hb; replace kM := kM.below hb; replace kW := kW.below hb; replace kC := kC.below hb; replace kD := kD.below hb; replace kE := kE.below hb; replace kF := kF.below hb; replace kH := kH.below hb; replace kU := kU.below hb; replace kY := kY.below hb; replace kG := kG.below hb; replace kR := kR.below hb; replace kMx := kM.c0; replace kMy := kM.c1; replace kWx := kW.c0; replace kWy := kW.c1; replace kCx := kC.c0; replace kCy := kC.c1; replace kDx := kD.c0; replace kDy := kD.c1; replace kEx := kE.c0; replace kEy := kE.c1; replace kFx := kF.c0; replace kFy := kF.c1; replace kHx := kH.c0; replace kHy := kH.c1; replace kUx := kU.c0; replace kUy := kU.c1; replace kYx := kY.c0; replace kYy := kY.c1; replace kGx := kG.c0; replace kGy := kG.c1; replace kRx := kR.c0; replace kRy := kR.c1; replace hc := Below.step hc hb) | (go_simp; go_at_call 19; (with_reducible refine (implIsHalf_any _ _ _ _ _ _ _ nh9 hh).mono ?_); rintro e w' ⟨rfl, hb⟩; replace hr := hr.below hb; replace hm := hm.below hb; replace hw_ := hw_.below hb; replace hc_ := hc_.below hb; replace hd_ := hd_.below hb; replace he_ := he_.below hb; replace hf_ := hf_.below hb; replace hh := hh.below hb; replace hu_ := hu_.below hb; replace hy_ := hy_.below hb; replace hg_ := hg_.below hb; replace hx_ := hx_.below hb; replace kM := kM.below hb; replace kW := kW.below hb; replace kC := kC.below hb; replace kD := kD.below hb; replace kE := kE.below hb; replace kF := kF.below hb; replace kH := kH.below hb; replace kU := kU.below hb; replace kY := kY.below hb; replace kG := kG.below hb; replace kR := kR.below hb; replace kMx := kM.c0; replace kMy := kM.c1; replace kWx := kW.c0; replace kWy := kW.c1; replace kCx := kC.c0; replace kCy := kC.c1; replace kDx := kD.c0; replace kDy := kD.c1; replace kEx := kE.c0; replace kEy := kE.c1; replace kFx := kF.c0; replace kFy := kF.c1; replace kHx := kH.c0; replace kHy := kH.c1; replace kUx := kU.c0; replace kUy := kU.c1; replace kYx := kY.c0; replace kYy := kY.c1; replace kGx := kG.c0; replace kGy := kG.c1; replace kRx := kR.c0; replace kRy := kR.c1; replace hc := Below.step hc hb) | (go_simp; go_at_call 20; (with_reducible refine (specIsHalf_any _ _ _ _ _ _ _ nh9 hh).mono ?_); rintro e w' ⟨rfl, hb⟩; replace hr := hr.below hb; replace hm := hm.below hb; replace hw_ := hw_.below hb; replace hc_ := hc_.below hb; replace hd_ := hd_.below hb; replace he_ := he_.below hb; replace hf_ := hf_.below hb; replace hh := hh.below hb; replace hu_ := hu_.below hb; replace hy_ := hy_.below hb; replace hg_ := hg_.below hb; replace hx_ := hx_.below hb; replace kM := kM.below hb; replace kW := kW.below hb; replace kC := kC.below hb; replace kD := kD.below hb; replace kE := kE.below hb; replace kF := kF.below hb; replace kH := kH.below hb; replace kU := kU.below hb; replace kY := kY.below hb; replace kG := kG.below hb; replace kR := kR.below hb; replace kMx := kM.c0; replace kMy := kM.c1; replace kWx := kW.c0; replace kWy := kW.c1; replace kCx := kC.c0; replace kCy := kC.c1; replace kDx := kD.c0; replace kDy := kD.c1; replace kEx := kE.c0; replace kEy := kE.c1; replace kFx := kF.c0; replace kFy := kF.c1; replace kHx := kH.c0; replace kHy := kH.c1; replace kUx := kU.c0; replace kUy := kU.c1; replace kYx := kY.c0; replace kYy := kY.c1; replace kGx := kG.c0; replace kGy := kG.c1; replace kRx := kR.c0; replace kRy := kR.c1; replace hc := Below.step hc hb) | (go_simp; go_at_call 21; (with_reducible refine (implHas_any _ _ _ _ _ _ _ _ _ _ (by omega) (by omega) hg_ hx_).mono ?_); rintro e w' ⟨rfl, hb⟩; replace hr := hr.below hb; replace hm := hm.below hb; replace hw_ := hw_.below hb; replace hc_ := hc_.below hb; replace hd_ := hd_.below hb; replace he_ := he_.below hb; replace hf_ := hf_.below hb; replace hh := hh.below hb; replace hu_ := hu_.below hb; replace hy_ := hy_.below hb; replace hg_ := hg_.below hb; replace hx_ := hx_.below hb; replace kM := kM.below hb; replace kW := kW.below hb; replace kC := kC.below hb; replace kD := kD.below hb; replace kE := kE.below hb; replace kF := kF.below hb; replace kH := kH.below hb; replace kU := kU.below hb; replace kY := kY.below hb; replace kG := kG.below hb; replace kR := kR.below hb; replace kMx := kM.c0; replace kMy := kM.c1; replace kWx := kW.c0; replace kWy := kW.c1; replace kCx := kC.c0; replace kCy := kC.c1; replace kDx := kD.c0; replace kDy := kD.c1; replace kEx := kE.c0; replace kEy := kE.c1; replace kFx := kF.c0; replace kFy := kF.c1; replace kHx := kH.c0; replace kHy := kH.c1; replace kUx := kU.c0; replace kUy := kU.c1; replace kYx := kY.c0; replace kYy := kY.c1; replace kGx := kG.c0; replace kGy := kG.c1; replace kRx := kR.c0; replace kRy := kR.c1; replace hc := Below.step hc hb) | (go_simp; go_at_call 22; (with_reducible refine (specHas_any _ _ _ _ _ _ _ _ _ _ (by omega) (by omega) hg_ hx_).mono ?_); rintro e w' ⟨rfl, hb⟩; replace hr := hr.below hb; replace hm := hm.below hb; replace hw_ := hw_.below hb; replace hc_ := hc_.below hb; replace hd_ := hd_.below hb; replace he_ := he_.below hb; replace hf_ := hf_.below hb; replace hh := hh.below hb; replace hu_ := hu_.below hb; replace hy_ := hy_.below hb; replace hg_ := hg_.below hb; replace hx_ := hx_.below hb; replace kM := kM.below hb; replace kW := kW.below hb; replace kC := kC.below hb; replace kD := kD.below hb; replace kE := kE.below hb; replace kF := kF.below hb; replace kH := kH.below hb; replace kU := kU.below hb; replace kY := kY.below hb; replace kG := kG.below hb; replace kR := kR.below hb; replace kMx := kM.c0; replace kMy := kM.c1; replace kWx := kW.c0; replace kWy := kW.c1; replace kCx := kC.c0; replace kCy := kC.c1; replace kDx := kD.c0; replace kDy := kD.c1; replace kEx := kE.c0; replace kEy := kE.c1; replace kFx := kF.c0; replace kFy := kF.c1; replace kHx := kH.c0; replace kHy := kH.c1; replace kUx := kU.c0; replace kUy := kU.c1; replace kYx := kY.c0; replace kYy := kY.c1; replace kGx := kG.c0; replace kGy := kG.c1; replace kRx := kR.c0; replace kRy := kR.c1; replace hc := Below.step hc hb) | (go_simp; go_at_call 23; (with_reducible refine (implIsRegion_any _ _ _ _ _ _ (by omega) hr).mono ?_); rintro e w' ⟨rfl, hb⟩; replace hr := hr.below hb; replace hm := hm.below hb; replace hw_ := hw_.below hb; replace hc_ := hc_.below hb; replace hd_ := hd_.below hb; replace he_ := he_.below hb; replace hf_ := hf_.below hb; replace hh := hh.below hb; replace hu_ := hu_.below hb; replace hy_ := hy_.below hb; replace hg_ := hg_.below hb; replace hx_ := hx_.below hb; replace kM := kM.below hb; replace kW := kW.below hb; replace kC := kC.below hb; replace kD := kD.below hb; replace kE := kE.below hb; replace kF := kF.below hb; replace kH := kH.below hb; replace kU := kU.below hb; replace kY := kY.below hb; replace kG := kG.below hb; replace kR := kR.below hb; replace kMx := kM.c0; replace kMy := kM.c1; replace kWx := kW.c0; replace kWy := kW.c1; replace kCx := kC.c0; replace kCy := kC.c1; replace kDx := kD.c0; replace kDy := kD.c1; replace kEx := kE.c0; replace kEy := kE.c1; replace kFx := kF.c0; replace kFy := kF.c1; replace kHx := kH.c0; replace kHy := kH.c1; replace kUx := kU.c0; replace kUy := kU.c1; replace kYx := kY.c0; replace kYy := kY.c1; replace kGx := kG.c0; replace kGy := kG.c1; replace kRx := kR.c0; replace kRy := kR.c1; replace hc := Below.step hc hb) | (go_simp; go_at_call 24; (with_reducible refine (specIsRegion_any _ _ _ _ _ _ (by omega) hr).mono ?_); rintro e w' ⟨rfl, hb⟩; replace hr := hr.below hb; replace hm := hm.below hb; replace hw_ := hw_.below hb; replace hc_ := hc_.below hb; replace hd_ := hd_.below hb; replace he_ := he_.below hb; replace hf_ := hf_.below hb; replace hh := hh.below hb; replace hu_ := hu_.below hb; replace hy_ := hy_.below hb; replace hg_ := hg_.below hb; replace hx_ := hx_.below hb; replace kM := kM.below hb; replace kW := kW.below hb; replace kC := kC.below hb; replace kD := kD.below hb; replace kE := kE.below hb; replace kF := kF.below hb; replace kH := kH.below hb; replace kU := kU.below hb; replace kY := kY.below hb; replace kG := kG.below hb; replace kR := kR.below hb; replace kMx := kM.c0; replace kMy := kM.c1; replace kWx := kW.c0; replace kWy := kW.c1; replace kCx := kC.c0; replace kCy := kC.c1; replace kDx := kD.c0; replace kDy := kD.c1; replace kEx := kE.c0; replace kEy := kE.c1; replace kFx := kF.c0; replace kFy := kF.c1; replace kHx := kH.c0; replace kHy := kH.c1; replace kUx := kU.c0; replace kUy := kU.c1; replace kYx := kY.c0; replace kYy := kY.c1; replace kGx := kG.c0; replace kGy := kG.c1; replace kRx := kR.c0; replace kRy := kR.c1; replace hc := Below.step hc hb))
        all_goals
          go_wp2_with fail
          go_meet
          exact ⟨rfl, hc⟩
    obtain ⟨rfl, hb⟩ := hcut
    clear hw_ hd_ he_ hf_ hh hu_ hy_ hg_ kW kWx kWy kD kDx kDy kE kEx kEy kF kFx kFy kH kHx kHy kU kUx kUy kY kYx kYy kG kGx kGy hE1 hE2 hE3
    replace hr := hr.below hb
    replace hv := hv.below hb
    replace hm := hm.below hb
    replace ha := ha.below hb
    replace hb_ := hb_.below hb
    replace hc_ := hc_.below hb
    replace hx_ := hx_.below hb
    replace kR := kR.below hb
    replace kM := kM.below hb
    replace kA := kA.below hb
    replace kB := kB.below hb
    replace kC := kC.below hb
    replace kRx := kR.c0
    replace kRy := kR.c1
    replace kMx := kM.c0
    replace kMy := kM.c1
    replace kAx := kA.c0
    replace kAy := kA.c1
    replace kBx := kB.c0
    replace kBy := kB.c1
    replace kCx := kC.c0
    replace kCy := kC.c1
    replace hT := Below.step hT hb
    replace htab := htab.below hb
    replace herr := herr.below hb
    replace hmax := hmax.below hb
    clear hb
    generalize wc = U2 at *
    go_wp2_with fail
    refine (implRegText_any _ _ _ _ _ _ (by omega) hr htab).mono ?_
    rintro e w' ⟨rfl, hb⟩
    replace hr := hr.below hb
    replace hv := hv.below hb
    replace hm := hm.below hb
    replace ha := ha.below hb
    replace hb_ := hb_.below hb
    replace hc_ := hc_.below hb
    replace hx_ := hx_.below hb
    replace kR := kR.below hb
    replace kM := kM.below hb
    replace kA := kA.below hb
    replace kB := kB.below hb
    replace kC := kC.below hb
    replace kRx := kR.c0
    replace kRy := kR.c1
    replace kMx := kM.c0
    replace kMy := kM.c1
    replace kAx := kA.c0
    replace kAy := kA.c1
    replace kBx := kB.c0
    replace kBy := kB.c1
    replace kCx := kC.c0
    replace kCy := kC.c1
    replace hT := Below.step hT hb
    replace htab := htab.below hb
    replace herr := herr.below hb
    replace hmax := hmax.below hb
    clear hb
    have htl2 := regT_length zr rs
    obtain ⟨PZ, hPZ⟩ : ∃ P, P = pregV (regT zr rs) := ⟨_, rfl⟩
    have hPZ2 : PZ = if isReg zr rs = true then ((zr, rs), true) else ((0, []), false) := by
      rw [hPZ]
      cases hreg : isReg zr rs
      · rw [preg_none hreg]; rfl
      · rw [preg_text hreg]; rfl
    have HPZ := Lib.hid hPZ
    clear hPZ
    go_wp2_with fail
    refine (implPReg_any _ _ (by omega) htab herr hmax).mono ?_
    rw [← HPZ.out]
    rintro e w' ⟨qz, nz, dz, rfl, ho, hb⟩
    obtain ⟨⟨zz, zs⟩, bk⟩ := PZ
    dsimp only at ho ⊢
    replace hr := hr.below hb
    replace hv := hv.below hb
    replace hm := hm.below hb
    replace ha := ha.below hb
    replace hb_ := hb_.below hb
    replace hc_ := hc_.below hb
    replace hx_ := hx_.below hb
    replace kR := kR.below hb
    replace kM := kM.below hb
    replace kA := kA.below hb
    replace kB := kB.below hb
    replace kC := kC.below hb
    replace kRx := kR.c0
    replace kRy := kR.c1
    replace kMx := kM.c0
    replace kMy := kM.c1
    replace kAx := kA.c0
    replace kAy := kA.c1
    replace kBx := kB.c0
    replace kBy := kB.c1
    replace kCx := kC.c0
    replace kCy := kC.c1
    replace hT := Below.step hT hb
    have hz_ := ho.rd
    have shz_ := ho.small
    clear ho hb
    have hBx := boxed w' (.cells #[.int .i64 zz, .slice qz nz dz] 26)
    have kZ := Box2.new w' (.int .i64 zz) (.slice qz nz dz) 26
    have kZx := kZ.c0
    have kZy := kZ.c1
    replace hr := hr.below hBx
    replace hv := hv.below hBx
    replace hm := hm.below hBx
    replace ha := ha.below hBx
    replace hb_ := hb_.below hBx
    replace hc_ := hc_.below hBx
    replace hx_ := hx_.below hBx
    replace hz_ := hz_.below hBx
    replace kR := kR.below hBx
    replace kM := kM.below hBx
    replace kA := kA.below hBx
    replace kB := kB.below hBx
    replace kC := kC.below hBx
    replace kRx := kR.c0
    replace kRy := kR.c1
    replace kMx := kM.c0
    replace kMy := kM.c1
    replace kAx := kA.c0
    replace kAy := kA.c1
    replace kBx := kB.c0
    replace kBy := kB.c1
    replace kCx := kC.c0
    replace kCy := kC.c1
    replace hT := Below.step hT hBx
    clear hBx
    go_upto_region 19 with fail
    generalize (w'.alloc (.cells #[.int .i64 zz, .slice qz nz dz] 26)) = U3 at *
    generalize w'.heap.size = bZ at *
    go_cut [182] (fun v wx => v = .bool false ∧ Below U3.heap.size U3 wx)
    case first =>
      as_aux_lemma =>
        have hT := Below.refl U3.heap.size U3
        cases hreg : isReg zr rs
        · rw [hreg] at hPZ2
          obtain ⟨e1, rfl⟩ : (zz, zs) = (0, []) ∧ bk = false := Prod.mk.inj hPZ2
          obtain ⟨rfl, rfl⟩ := Prod.mk.inj e1
          clear hPZ2 e1
          have Hreg := Lib.hid hreg
          clear hreg
          go_wp2_with fail
          refine (specRegText_any _ _ _ _ _ _ (by omega) hr).mono ?_
          rintro e w' ⟨rfl, hb⟩
          replace hr := hr.below hb
          replace kR := kR.below hb
          replace kRx := kR.c0
          replace kRy := kR.c1
          replace kZ := kZ.below hb
          replace kZx := kZ.c0
          replace kZy := kZ.c1
          replace hT := Below.step hT hb
          go_wp2_with fail
          refine (specIsRegion_any _ _ _ _ _ _ (by omega) hr).mono ?_
          rw [Hreg.out]
          rintro e w' ⟨rfl, hb⟩
          replace hT := Below.step hT hb
          go_wp2_with fail
          go_meet
          exact ⟨rfl, hT⟩
        · rw [hreg] at hPZ2
          obtain ⟨e1, rfl⟩ : (zz, zs) = (zr, rs) ∧ bk = true := Prod.mk.inj hPZ2
          obtain ⟨rfl, rfl⟩ := Prod.mk.inj e1
          have Hreg := Lib.hid hreg
          clear hreg hPZ2
          go_wp2_with fail
          refine (specRegText_any _ _ _ _ _ _ (by omega) hr).mono ?_
          rintro e w' ⟨rfl, hb⟩
          replace hr := hr.below hb
          replace hz_ := hz_.below hb
          replace kR := kR.below hb
          replace kRx := kR.c0
          replace kRy := kR.c1
          replace kZ := kZ.below hb
          replace kZx := kZ.c0
          replace kZy := kZ.c1
          replace hT := Below.step hT hb
          go_wp2_with fail
          refine (specIsRegion_any _ _ _ _ _ _ (by omega) hr).mono ?_
          rw [Hreg.out]
          rintro e w' ⟨rfl, hb⟩
          replace hr := hr.below hb
          replace hz_ := hz_.below hb
          replace kR := kR.below hb
          replace kRx := kR.c0
          replace kRy := kR.c1
          replace kZ := kZ.below hb
          replace kZx := kZ.c0
          replace kZy := kZ.c1
          replace hT := Below.step hT hb
          go_wp2_with fail
          refine (specEqReg_any _ _ _ _ _ _ _ _ _ _ _ hz_ hr shz_ (by omega)).mono ?_
          rw [eqReg_self]
          rintro e w' ⟨rfl, hb⟩
          replace hT := Below.step hT hb
          go_wp2_with fail
          go_meet
          exact ⟨rfl, hT⟩
    obtain ⟨rfl, hb⟩ := hcut
    clear hz_ kZ kZx kZy hPZ2 HPZ htab herr hmax
    replace hr := hr.below hb
    replace hv := hv.below hb
    replace hm := hm.below hb
    replace ha := ha.below hb
    replace hb_ := hb_.below hb
    replace hc_ := hc_.below hb
    replace hx_ := hx_.below hb
    replace kR := kR.below hb
    replace kM := kM.below hb
    replace kA := kA.below hb
    replace kB := kB.below hb
    replace kC := kC.below hb
    replace kRx := kR.c0
    replace kRy := kR.c1
    replace kMx := kM.c0
    replace kMy := kM.c1
    replace kAx := kA.c0
    replace kAy := kA.c1
    replace kBx := kB.c0
    replace kBy := kB.c1
    replace kCx := kC.c0
    replace kCy := kC.c1
    replace hT := Below.step hT hb
    clear hb
    generalize wc = U4 at *
    go_upto_region 21 with fail
    go_cut [194] (fun v wx => v = .bool false ∧ Below U4.heap.size U4 wx)
    case first =>
      as_aux_lemma =>
        cases okm
        · refine wp_region_u 11 12 (fun w' => w'.cell? ⟨bM, 0, none⟩ = some (.int .i64 zm)) (by kernel_rfl) rfl (by (try dsimp only); exact kMx) (fun hHeld => ?_)
          refine WalkU.tk 0 rfl ?_ (Or.inl ⟨by rfl, ?_⟩) hHeld ?_
          rotate_left
          · (intro w hSw; (try dsimp only at hSw); go_simp; try with_reducible rfl)
          try simp only [Act.put, List.setIfInBounds_toArray, List.set_cons_zero, List.set_cons_succ]
          refine WalkU.tk 1 rfl ?_ (Or.inl ⟨by rfl, ?_⟩) hHeld ?_
          rotate_left
          · (intro w hSw; (try dsimp only at hSw); go_simp; try with_reducible rfl)
          try simp only [Act.put, List.setIfInBounds_toArray, List.set_cons_zero, List.set_cons_succ]
          refine WalkU.tk 2 rfl undef (Or.inr ⟨by rfl, rfl⟩) hHeld ?_
          try simp only [Act.put, List.setIfInBounds_toArray, List.set_cons_zero, List.set_cons_succ]
          refine WalkU.tk 3 rfl undef (Or.inr ⟨by rfl, rfl⟩) hHeld ?_
          try simp only [Act.put, List.setIfInBounds_toArray, List.set_cons_zero, List.set_cons_succ]
          refine WalkU.tk 4 rfl undef (Or.inr ⟨by rfl, rfl⟩) hHeld ?_
          try simp only [Act.put, List.setIfInBounds_toArray, List.set_cons_zero, List.set_cons_succ]
          refine WalkU.tk 5 rfl undef (Or.inr ⟨by rfl, rfl⟩) hHeld ?_
          try simp only [Act.put, List.setIfInBounds_toArray, List.set_cons_zero, List.set_cons_succ]
          refine WalkU.tk 6 rfl undef (Or.inr ⟨by rfl, rfl⟩) hHeld ?_
          try simp only [Act.put, List.setIfInBounds_toArray, List.set_cons_zero, List.set_cons_succ]
          refine WalkU.tk 7 rfl undef (Or.inr ⟨by rfl, rfl⟩) hHeld ?_
          try simp only [Act.put, List.setIfInBounds_toArray, List.set_cons_zero, List.set_cons_succ]
          refine WalkU.tk 8 rfl undef (Or.inr ⟨by rfl, rfl⟩) hHeld ?_
          try simp only [Act.put, List.setIfInBounds_toArray, List.set_cons_zero, List.set_cons_succ]
          refine WalkU.tk 9 rfl undef (Or.inr ⟨by rfl, rfl⟩) hHeld ?_
          try simp only [Act.put, List.setIfInBounds_toArray, List.set_cons_zero, List.set_cons_succ]
          refine WalkU.tk 10 rfl undef (Or.inr ⟨by rfl, rfl⟩) hHeld ?_
          try simp only [Act.put, List.setIfInBounds_toArray, List.set_cons_zero, List.set_cons_succ]
          refine WalkU.last (i := 11) rfl rfl (by kernel_rfl) (by kernel_rfl) (fun K hK => ?_)
          go_simp
          refine hK.out _ _ ?_
          clear hK K
          try simp only [Act.put, List.setIfInBounds_toArray, List.set_cons_zero, List.set_cons_succ]
          go_wp2_with fail
          go_meet
          exact ⟨rfl, drewBelow U4⟩
        · have Hmv := Lib.hid (move_has HPM.out.symm (fun j => abs4 hv.len hv4.out j))
          have hvd := hv.drew
          have hrd := hr.drew
          have hmd := hm.drew
          have hbW := drewBelow U4
          refine wp_region_u 11 12 (fun w' => w'.cell? ⟨bR, 0, none⟩ = some (.int .i64 zr) ∧ w'.cell? ⟨bR, 1, none⟩ = some (.slice qr kr dr) ∧ w'.cell? ⟨bM, 0, none⟩ = some (.int .i64 zm) ∧ w'.cell? ⟨bM, 1, none⟩ = some (.slice qm nw dm)) (by kernel_rfl) rfl (by (try dsimp only); exact ⟨kRx, kRy, kMx, kMy⟩) (fun hHeld => ?_)
          refine WalkU.tk 0 rfl ?_ (Or.inl ⟨by rfl, ?_⟩) hHeld ?_
          rotate_left
          · (intro w hSw; (try dsimp only at hSw); go_simp; try with_reducible rfl)
          try simp only [Act.put, List.setIfInBounds_toArray, List.set_cons_zero, List.set_cons_succ]
          refine WalkU.tk 1 rfl ?_ (Or.inl ⟨by rfl, ?_⟩) hHeld ?_
          rotate_left
          · (intro w hSw; (try dsimp only at hSw); go_simp; try with_reducible rfl)
          try simp only [Act.put, List.setIfInBounds_toArray, List.set_cons_zero, List.set_cons_succ]
          refine WalkU.tk 2 rfl ?_ (Or.inl ⟨by rfl, ?_⟩) hHeld ?_
          rotate_left
          · (intro w hSw; (try dsimp only at hSw); go_simp; try with_reducible rfl)
          try simp only [Act.put, List.setIfInBounds_toArray, List.set_cons_zero, List.set_cons_succ]
          refine WalkU.tk 3 rfl ?_ (Or.inl ⟨by rfl, ?_⟩) hHeld ?_
          rotate_left
          · (intro w hSw; (try dsimp only at hSw); go_simp; try with_reducible rfl)
          try simp only [Act.put, List.setIfInBounds_toArray, List.set_cons_zero, List.set_cons_succ]
          refine WalkU.tk 4 rfl ?_ (Or.inl ⟨by rfl, ?_⟩) hHeld ?_
          rotate_left
          · (intro w hSw; (try dsimp only at hSw); go_simp; try with_reducible rfl)
          try simp only [Act.put, List.setIfInBounds_toArray, List.set_cons_zero, List.set_cons_succ]
          refine WalkU.tk 7 rfl ?_ (Or.inl ⟨by rfl, ?_⟩) hHeld ?_
          rotate_left
          · (intro w hSw; (try dsimp only at hSw); go_simp; try with_reducible rfl)
          try simp only [Act.put, List.setIfInBounds_toArray, List.set_cons_zero, List.set_cons_succ]
          refine WalkU.tk 8 rfl ?_ (Or.inl ⟨by rfl, ?_⟩) hHeld ?_
          rotate_left
          · (intro w hSw; (try dsimp only at hSw); go_simp; try with_reducible rfl)
          try simp only [Act.put, List.setIfInBounds_toArray, List.set_cons_zero, List.set_cons_succ]
          refine WalkU.one (i := 5) rfl (by kernel_rfl) (fun K hK => ?_)
          first
            | (first | (go_at_call 27; (with_reducible refine (lawPlus_any _ _ _ _ _ _ _ _ (by omega) hvd hvd).mono ?_); rw [addW_self]; rintro e w5 ⟨q5, d5, rfl, ho5, hb5⟩; replace hvd := hvd.below hb5; replace hrd := hrd.below hb5; replace hmd := hmd.below hb5; replace kRx := (hb5.cell (World.block_lt_of_cell? _ _ kRx)).trans kRx; replace kRy := (hb5.cell (World.block_lt_of_cell? _ _ kRy)).trans kRy; replace kMx := (hb5.cell (World.block_lt_of_cell? _ _ kMx)).trans kMx; replace kMy := (hb5.cell (World.block_lt_of_cell? _ _ kMy)).trans kMy; replace hbW := Below.step hbW hb5; have hpl := ho5.ints) | (go_at_call 21; (with_reducible refine (implHas_any _ _ _ _ _ _ _ _ _ _ (by omega) (by omega) hmd hpl).mono ?_); rw [Hmv.out]; rintro e w5 ⟨rfl, hb5⟩; replace hvd := hvd.below hb5; replace hrd := hrd.below hb5; replace hmd := hmd.below hb5; replace kRx := (hb5.cell (World.block_lt_of_cell? _ _ kRx)).trans kRx; replace kRy := (hb5.cell (World.block_lt_of_cell? _ _ kRy)).trans kRy; replace kMx := (hb5.cell (World.block_lt_of_cell? _ _ kMx)).trans kMx; replace kMy := (hb5.cell (World.block_lt_of_cell? _ _ kMy)).trans kMy; replace hbW := Below.step hbW hb5) | (go_at_call 21; (with_reducible refine (implHas_any _ _ _ _ _ _ _ _ _ _ (by omega) (by omega) hrd hvd).mono ?_); rintro e w5 ⟨rfl, hb5⟩; replace hvd := hvd.below hb5; replace hrd := hrd.below hb5; replace hmd := hmd.below hb5; replace kRx := (hb5.cell (World.block_lt_of_cell? _ _ kRx)).trans kRx; replace kRy := (hb5.cell (World.block_lt_of_cell? _ _ kRy)).trans kRy; replace kMx := (hb5.cell (World.block_lt_of_cell? _ _ kMx)).trans kMx; replace kMy := (hb5.cell (World.block_lt_of_cell? _ _ kMy)).trans kMy; replace hbW := Below.step hbW hb5))
            | (go_simp; (first | (go_at_call 27; (with_reducible refine (lawPlus_any _ _ _ _ _ _ _ _ (by omega) hvd hvd).mono ?_); rw [addW_self]; rintro e w5 ⟨q5, d5, rfl, ho5, hb5⟩; replace hvd := hvd.below hb5; replace hrd := hrd.below hb5; replace hmd := hmd.below hb5; replace kRx := (hb5.cell (World.block_lt_of_cell? _ _ kRx)).trans kRx; replace kRy := (hb5.cell (World.block_lt_of_cell? _ _ kRy)).trans kRy; replace kMx := (hb5.cell (World.block_lt_of_cell? _ _ kMx)).trans kMx; replace kMy := (hb5.cell (World.block_lt_of_cell? _ _ kMy)).trans kMy; replace hbW := Below.step hbW hb5; have hpl := ho5.ints) | (go_at_call 21; (with_reducible refine (implHas_any _ _ _ _ _ _ _ _ _ _ (by omega) (by omega) hmd hpl).mono ?_); rw [Hmv.out]; rintro e w5 ⟨rfl, hb5⟩; replace hvd := hvd.below hb5; replace hrd := hrd.below hb5; replace hmd := hmd.below hb5; replace kRx := (hb5.cell (World.block_lt_of_cell? _ _ kRx)).trans kRx; replace kRy := (hb5.cell (World.block_lt_of_cell? _ _ kRy)).trans kRy; replace kMx := (hb5.cell (World.block_lt_of_cell? _ _ kMx)).trans kMx; replace kMy := (hb5.cell (World.block_lt_of_cell? _ _ kMy)).trans kMy; replace hbW := Below.step hbW hb5) | (go_at_call 21; (with_reducible refine (implHas_any _ _ _ _ _ _ _ _ _ _ (by omega) (by omega) hrd hvd).mono ?_); rintro e w5 ⟨rfl, hb5⟩; replace hvd := hvd.below hb5; replace hrd := hrd.below hb5; replace hmd := hmd.below hb5; replace kRx := (hb5.cell (World.block_lt_of_cell? _ _ kRx)).trans kRx; replace kRy := (hb5.cell (World.block_lt_of_cell? _ _ kRy)).trans kRy; replace kMx := (hb5.cell (World.block_lt_of_cell? _ _ kMx)).trans kMx; replace kMy := (hb5.cell (World.block_lt_of_cell? _ _ kMy)).trans kMy; replace hbW := Below.step hbW hb5)))
          refine hK.out _ _ ?_ (fun hHeld => ?_)
          · ((try dsimp only); exact ⟨kRx, kRy, kMx, kMy⟩)
          clear hK K
          try simp only [Act.put, List.setIfInBounds_toArray, List.set_cons_zero, List.set_cons_succ]
          refine WalkU.one (i := 6) rfl (by kernel_rfl) (fun K hK => ?_)
          first
            | (first | (go_at_call 27; (with_reducible refine (lawPlus_any _ _ _ _ _ _ _ _ (by omega) hvd hvd).mono ?_); rw [addW_self]; rintro e w5 ⟨q5, d5, rfl, ho5, hb5⟩; replace hvd := hvd.below hb5; replace hrd := hrd.below hb5; replace hmd := hmd.below hb5; replace kRx := (hb5.cell (World.block_lt_of_cell? _ _ kRx)).trans kRx; replace kRy := (hb5.cell (World.block_lt_of_cell? _ _ kRy)).trans kRy; replace kMx := (hb5.cell (World.block_lt_of_cell? _ _ kMx)).trans kMx; replace kMy := (hb5.cell (World.block_lt_of_cell? _ _ kMy)).trans kMy; replace hbW := Below.step hbW hb5; have hpl := ho5.ints) | (go_at_call 21; (with_reducible refine (implHas_any _ _ _ _ _ _ _ _ _ _ (by omega) (by omega) hmd hpl).mono ?_); rw [Hmv.out]; rintro e w5 ⟨rfl, hb5⟩; replace hvd := hvd.below hb5; replace hrd := hrd.below hb5; replace hmd := hmd.below hb5; replace kRx := (hb5.cell (World.block_lt_of_cell? _ _ kRx)).trans kRx; replace kRy := (hb5.cell (World.block_lt_of_cell? _ _ kRy)).trans kRy; replace kMx := (hb5.cell (World.block_lt_of_cell? _ _ kMx)).trans kMx; replace kMy := (hb5.cell (World.block_lt_of_cell? _ _ kMy)).trans kMy; replace hbW := Below.step hbW hb5) | (go_at_call 21; (with_reducible refine (implHas_any _ _ _ _ _ _ _ _ _ _ (by omega) (by omega) hrd hvd).mono ?_); rintro e w5 ⟨rfl, hb5⟩; replace hvd := hvd.below hb5; replace hrd := hrd.below hb5; replace hmd := hmd.below hb5; replace kRx := (hb5.cell (World.block_lt_of_cell? _ _ kRx)).trans kRx; replace kRy := (hb5.cell (World.block_lt_of_cell? _ _ kRy)).trans kRy; replace kMx := (hb5.cell (World.block_lt_of_cell? _ _ kMx)).trans kMx; replace kMy := (hb5.cell (World.block_lt_of_cell? _ _ kMy)).trans kMy; replace hbW := Below.step hbW hb5))
            | (go_simp; (first | (go_at_call 27; (with_reducible refine (lawPlus_any _ _ _ _ _ _ _ _ (by omega) hvd hvd).mono ?_); rw [addW_self]; rintro e w5 ⟨q5, d5, rfl, ho5, hb5⟩; replace hvd := hvd.below hb5; replace hrd := hrd.below hb5; replace hmd := hmd.below hb5; replace kRx := (hb5.cell (World.block_lt_of_cell? _ _ kRx)).trans kRx; replace kRy := (hb5.cell (World.block_lt_of_cell? _ _ kRy)).trans kRy; replace kMx := (hb5.cell (World.block_lt_of_cell? _ _ kMx)).trans kMx; replace kMy := (hb5.cell (World.block_lt_of_cell? _ _ kMy)).trans kMy; replace hbW := Below.step hbW hb5; have hpl := ho5.ints) | (go_at_call 21; (with_reducible refine (implHas_any _ _ _ _ _ _ _ _ _ _ (by omega) (by omega) hmd hpl).mono ?_); rw [Hmv.out]; rintro e w5 ⟨rfl, hb5⟩; replace hvd := hvd.below hb5; replace hrd := hrd.below hb5; replace hmd := hmd.below hb5; replace kRx := (hb5.cell (World.block_lt_of_cell? _ _ kRx)).trans kRx; replace kRy := (hb5.cell (World.block_lt_of_cell? _ _ kRy)).trans kRy; replace kMx := (hb5.cell (World.block_lt_of_cell? _ _ kMx)).trans kMx; replace kMy := (hb5.cell (World.block_lt_of_cell? _ _ kMy)).trans kMy; replace hbW := Below.step hbW hb5) | (go_at_call 21; (with_reducible refine (implHas_any _ _ _ _ _ _ _ _ _ _ (by omega) (by omega) hrd hvd).mono ?_); rintro e w5 ⟨rfl, hb5⟩; replace hvd := hvd.below hb5; replace hrd := hrd.below hb5; replace hmd := hmd.below hb5; replace kRx := (hb5.cell (World.block_lt_of_cell? _ _ kRx)).trans kRx; replace kRy := (hb5.cell (World.block_lt_of_cell? _ _ kRy)).trans kRy; replace kMx := (hb5.cell (World.block_lt_of_cell? _ _ kMx)).trans kMx; replace kMy := (hb5.cell (World.block_lt_of_cell? _ _ kMy)).trans kMy; replace hbW := Below.step hbW hb5)))
          refine hK.out _ _ ?_ (fun hHeld => ?_)
          · ((try dsimp only); exact ⟨kRx, kRy, kMx, kMy⟩)
          clear hK K
          try simp only [Act.put, List.setIfInBounds_toArray, List.set_cons_zero, List.set_cons_succ]
          refine WalkU.one (i := 9) rfl (by kernel_rfl) (fun K hK => ?_)
          first
            | (first | (go_at_call 27; (with_reducible refine (lawPlus_any _ _ _ _ _ _ _ _ (by omega) hvd hvd).mono ?_); rw [addW_self]; rintro e w5 ⟨q5, d5, rfl, ho5, hb5⟩; replace hvd := hvd.below hb5; replace hrd := hrd.below hb5; replace hmd := hmd.below hb5; replace kRx := (hb5.cell (World.block_lt_of_cell? _ _ kRx)).trans kRx; replace kRy := (hb5.cell (World.block_lt_of_cell? _ _ kRy)).trans kRy; replace kMx := (hb5.cell (World.block_lt_of_cell? _ _ kMx)).trans kMx; replace kMy := (hb5.cell (World.block_lt_of_cell? _ _ kMy)).trans kMy; replace hbW := Below.step hbW hb5; have hpl := ho5.ints) | (go_at_call 21; (with_reducible refine (implHas_any _ _ _ _ _ _ _ _ _ _ (by omega) (by omega) hmd hpl).mono ?_); rw [Hmv.out]; rintro e w5 ⟨rfl, hb5⟩; replace hvd := hvd.below hb5; replace hrd := hrd.below hb5; replace hmd := hmd.below hb5; replace kRx := (hb5.cell (World.block_lt_of_cell? _ _ kRx)).trans kRx; replace kRy := (hb5.cell (World.block_lt_of_cell? _ _ kRy)).trans kRy; replace kMx := (hb5.cell (World.block_lt_of_cell? _ _ kMx)).trans kMx; replace kMy := (hb5.cell (World.block_lt_of_cell? _ _ kMy)).trans kMy; replace hbW := Below.step hbW hb5) | (go_at_call 21; (with_reducible refine (implHas_any _ _ _ _ _ _ _ _ _ _ (by omega) (by omega) hrd hvd).mono ?_); rintro e w5 ⟨rfl, hb5⟩; replace hvd := hvd.below hb5; replace hrd := hrd.below hb5; replace hmd := hmd.below hb5; replace kRx := (hb5.cell (World.block_lt_of_cell? _ _ kRx)).trans kRx; replace kRy := (hb5.cell (World.block_lt_of_cell? _ _ kRy)).trans kRy; replace kMx := (hb5.cell (World.block_lt_of_cell? _ _ kMx)).trans kMx; replace kMy := (hb5.cell (World.block_lt_of_cell? _ _ kMy)).trans kMy; replace hbW := Below.step hbW hb5))
            | (go_simp; (first | (go_at_call 27; (with_reducible refine (lawPlus_any _ _ _ _ _ _ _ _ (by omega) hvd hvd).mono ?_); rw [addW_self]; rintro e w5 ⟨q5, d5, rfl, ho5, hb5⟩; replace hvd := hvd.below hb5; replace hrd := hrd.below hb5; replace hmd := hmd.below hb5; replace kRx := (hb5.cell (World.block_lt_of_cell? _ _ kRx)).trans kRx; replace kRy := (hb5.cell (World.block_lt_of_cell? _ _ kRy)).trans kRy; replace kMx := (hb5.cell (World.block_lt_of_cell? _ _ kMx)).trans kMx; replace kMy := (hb5.cell (World.block_lt_of_cell? _ _ kMy)).trans kMy; replace hbW := Below.step hbW hb5; have hpl := ho5.ints) | (go_at_call 21; (with_reducible refine (implHas_any _ _ _ _ _ _ _ _ _ _ (by omega) (by omega) hmd hpl).mono ?_); rw [Hmv.out]; rintro e w5 ⟨rfl, hb5⟩; replace hvd := hvd.below hb5; replace hrd := hrd.below hb5; replace hmd := hmd.below hb5; replace kRx := (hb5.cell (World.block_lt_of_cell? _ _ kRx)).trans kRx; replace kRy := (hb5.cell (World.block_lt_of_cell? _ _ kRy)).trans kRy; replace kMx := (hb5.cell (World.block_lt_of_cell? _ _ kMx)).trans kMx; replace kMy := (hb5.cell (World.block_lt_of_cell? _ _ kMy)).trans kMy; replace hbW := Below.step hbW hb5) | (go_at_call 21; (with_reducible refine (implHas_any _ _ _ _ _ _ _ _ _ _ (by omega) (by omega) hrd hvd).mono ?_); rintro e w5 ⟨rfl, hb5⟩; replace hvd := hvd.below hb5; replace hrd := hrd.below hb5; replace hmd := hmd.below hb5; replace kRx := (hb5.cell (World.block_lt_of_cell? _ _ kRx)).trans kRx; replace kRy := (hb5.cell (World.block_lt_of_cell? _ _ kRy)).trans kRy; replace kMx := (hb5.cell (World.block_lt_of_cell? _ _ kMx)).trans kMx; replace kMy := (hb5.cell (World.block_lt_of_cell? _ _ kMy)).trans kMy; replace hbW := Below.step hbW hb5)))
          refine hK.out _ _ ?_ (fun hHeld => ?_)
          · ((try dsimp only); exact ⟨kRx, kRy, kMx, kMy⟩)
          clear hK K
          try simp only [Act.put, List.setIfInBounds_toArray, List.set_cons_zero, List.set_cons_succ]
          refine WalkU.tk 10 rfl ?_ (Or.inl ⟨by rfl, ?_⟩) hHeld ?_
          rotate_left
          · (intro w hSw; (try dsimp only at hSw); go_simp; try with_reducible rfl)
          try simp only [Act.put, List.setIfInBounds_toArray, List.set_cons_zero, List.set_cons_succ]
          refine WalkU.last (i := 11) rfl rfl (by kernel_rfl) (by kernel_rfl) (fun K hK => ?_)
          go_simp
          refine hK.out _ _ ?_
          clear hK K
          try simp only [Act.put, List.setIfInBounds_toArray, List.set_cons_zero, List.set_cons_succ]
          go_wp2_with fail
          go_meet
          exact ⟨rfl, hbW⟩
    obtain ⟨rfl, hb⟩ := hcut
    clear hv hr hm kR kRx kRy kM kMx kMy HPM hv4 htr
    replace ha := ha.below hb
    replace hb_ := hb_.below hb
    replace hc_ := hc_.below hb
    replace hx_ := hx_.below hb
    replace kA := kA.below hb
    replace kB := kB.below hb
    replace kC := kC.below hb
    replace kAx := kA.c0
    replace kAy := kA.c1
    replace kBx := kB.c0
    replace kBy := kB.c1
    replace kCx := kC.c0
    replace kCy := kC.c1
    replace hT := Below.step hT hb
    clear hb
    generalize wc = U5 at *
    have had := ha.drew
    have hbd := hb_.drew
    have hcd := hc_.drew
    have hxd := hx_.drew
    have hbW := drewBelow U5
    go_upto_region 23 with fail
    cases one
    · refine wp_region_u 23 24 (fun w' => w'.cell? ⟨bA, 0, none⟩ = some (.int .i64 za) ∧ w'.cell? ⟨bA, 1, none⟩ = some (.slice qa ka da) ∧ w'.cell? ⟨bA + 1, 0, none⟩ = some (.int .i64 zb) ∧ w'.cell? ⟨bA + 1, 1, none⟩ = some (.slice qb kb db) ∧ w'.cell? ⟨bC, 0, none⟩ = some (.int .i64 zc) ∧ w'.cell? ⟨bC, 1, none⟩ = some (.slice qc nd dc)) (by kernel_rfl) rfl (by (try dsimp only); exact ⟨kAx, kAy, kBx, kBy, kCx, kCy⟩) (fun hHeld => ?_)
      refine WalkU.tk 0 rfl ?_ (Or.inl ⟨by rfl, ?_⟩) hHeld ?_
      rotate_left
      · (intro w hSw; (try dsimp only at hSw); go_simp; try with_reducible rfl)
      try simp only [Act.put, List.setIfInBounds_toArray, List.set_cons_zero, List.set_cons_succ]
      refine WalkU.tk 1 rfl ?_ (Or.inl ⟨by rfl, ?_⟩) hHeld ?_
      rotate_left
      · (intro w hSw; (try dsimp only at hSw); go_simp; try with_reducible rfl)
      try simp only [Act.put, List.setIfInBounds_toArray, List.set_cons_zero, List.set_cons_succ]
      refine WalkU.tk 2 rfl ?_ (Or.inl ⟨by rfl, ?_⟩) hHeld ?_
      rotate_left
      · (intro w hSw; (try dsimp only at hSw); go_simp; try with_reducible rfl)
      try simp only [Act.put, List.setIfInBounds_toArray, List.set_cons_zero, List.set_cons_succ]
      refine WalkU.tk 3 rfl undef (Or.inr ⟨by rfl, rfl⟩) hHeld ?_
      try simp only [Act.put, List.setIfInBounds_toArray, List.set_cons_zero, List.set_cons_succ]
      refine WalkU.tk 4 rfl undef (Or.inr ⟨by rfl, rfl⟩) hHeld ?_
      try simp only [Act.put, List.setIfInBounds_toArray, List.set_cons_zero, List.set_cons_succ]
      refine WalkU.tk 5 rfl undef (Or.inr ⟨by rfl, rfl⟩) hHeld ?_
      try simp only [Act.put, List.setIfInBounds_toArray, List.set_cons_zero, List.set_cons_succ]
      refine WalkU.tk 6 rfl undef (Or.inr ⟨by rfl, rfl⟩) hHeld ?_
      try simp only [Act.put, List.setIfInBounds_toArray, List.set_cons_zero, List.set_cons_succ]
      refine WalkU.tk 7 rfl undef (Or.inr ⟨by rfl, rfl⟩) hHeld ?_
      try simp only [Act.put, List.setIfInBounds_toArray, List.set_cons_zero, List.set_cons_succ]
      refine WalkU.tk 8 rfl ?_ (Or.inl ⟨by rfl, ?_⟩) hHeld ?_
      rotate_left
      · (intro w hSw; (try dsimp only at hSw); go_simp; try with_reducible rfl)
      try simp only [Act.put, List.setIfInBounds_toArray, List.set_cons_zero, List.set_cons_succ]
      refine WalkU.tk 9 rfl ?_ (Or.inl ⟨by rfl, ?_⟩) hHeld ?_
      rotate_left
      · (intro w hSw; (try dsimp only at hSw); go_simp; try with_reducible rfl)
      try simp only [Act.put, List.setIfInBounds_toArray, List.set_cons_zero, List.set_cons_succ]
      refine WalkU.tk 10 rfl undef (Or.inr ⟨by rfl, rfl⟩) hHeld ?_
      try simp only [Act.put, List.setIfInBounds_toArray, List.set_cons_zero, List.set_cons_succ]
      refine WalkU.tk 11 rfl undef (Or.inr ⟨by rfl, rfl⟩) hHeld ?_
      try simp only [Act.put, List.setIfInBounds_toArray, List.set_cons_zero, List.set_cons_succ]
      refine WalkU.tk 13 rfl undef (Or.inr ⟨by rfl, rfl⟩) hHeld ?_
      try simp only [Act.put, List.setIfInBounds_toArray, List.set_cons_zero, List.set_cons_succ]
      refine WalkU.tk 14 rfl undef (Or.inr ⟨by rfl, rfl⟩) hHeld ?_
      try simp only [Act.put, List.setIfInBounds_toArray, List.set_cons_zero, List.set_cons_succ]
      refine WalkU.tk 12 rfl undef (Or.inr ⟨by rfl, rfl⟩) hHeld ?_
      try simp only [Act.put, List.setIfInBounds_toArray, List.set_cons_zero, List.set_cons_succ]
      refine WalkU.tk 15 rfl undef (Or.inr ⟨by rfl, rfl⟩) hHeld ?_
      try simp only [Act.put, List.setIfInBounds_toArray, List.set_cons_zero, List.set_cons_succ]
      refine WalkU.tk 16 rfl undef (Or.inr ⟨by rfl, rfl⟩) hHeld ?_
      try simp only [Act.put, List.setIfInBounds_toArray, List.set_cons_zero, List.set_cons_succ]
      refine WalkU.tk 17 rfl undef (Or.inr ⟨by rfl, rfl⟩) hHeld ?_
      try simp only [Act.put, List.setIfInBounds_toArray, List.set_cons_zero, List.set_cons_succ]
      refine WalkU.tk 18 rfl undef (Or.inr ⟨by rfl, rfl⟩) hHeld ?_
      try simp only [Act.put, List.setIfInBounds_toArray, List.set_cons_zero, List.set_cons_succ]
      refine WalkU.tk 19 rfl undef (Or.inr ⟨by rfl, rfl⟩) hHeld ?_
      try simp only [Act.put, List.setIfInBounds_toArray, List.set_cons_zero, List.set_cons_succ]
      refine WalkU.tk 20 rfl undef (Or.inr ⟨by rfl, rfl⟩) hHeld ?_
      try simp only [Act.put, List.setIfInBounds_toArray, List.set_cons_zero, List.set_cons_succ]
      refine WalkU.tk 21 rfl undef (Or.inr ⟨by rfl, rfl⟩) hHeld ?_
      try simp only [Act.put, List.setIfInBounds_toArray, List.set_cons_zero, List.set_cons_succ]
      refine WalkU.tk 22 rfl ?_ (Or.inl ⟨by rfl, ?_⟩) hHeld ?_
      rotate_left
      · (intro w hSw; (try dsimp only at hSw); go_simp; try with_reducible rfl)
      try simp only [Act.put, List.setIfInBounds_toArray, List.set_cons_zero, List.set_cons_succ]
      refine WalkU.last (i := 23) rfl rfl (by kernel_rfl) (by kernel_rfl) (fun K hK => ?_)
      go_simp
      refine hK.out _ _ ?_
      clear hK K
      try simp only [Act.put, List.setIfInBounds_toArray, List.set_cons_zero, List.set_cons_succ]
      go_wp2_with fail
      go_ret
      exact ⟨rfl, Below.step hT hbW⟩
    · by_cases hlz : (nx : Int) = za
      · have Hmt := Lib.hid (meet_has (x := xx) HPC.out.symm)
        have hlb : ((nx : Int) == za) = true := by simpa using hlz
        have hlb2 : decide ((nx : Int) = za) = true := by simpa using hlz
        have hlb3 : ((nx : Int) != za) = false := by simp [hlz]
        have Hlz := Lib.hid hlz
        clear hlz
        cases hpa : hasPt za as_ xx
        · have hpc : hasPt zc cs xx = false := by rw [Hmt.out, hpa]; rfl
          have Ha := Lib.hid hpa
          have Hc := Lib.hid hpc
          clear hpa hpc
          refine wp_region_u 23 24 (fun w' => w'.cell? ⟨bA, 0, none⟩ = some (.int .i64 za) ∧ w'.cell? ⟨bA, 1, none⟩ = some (.slice qa ka da) ∧ w'.cell? ⟨bA + 1, 0, none⟩ = some (.int .i64 zb) ∧ w'.cell? ⟨bA + 1, 1, none⟩ = some (.slice qb kb db) ∧ w'.cell? ⟨bC, 0, none⟩ = some (.int .i64 zc) ∧ w'.cell? ⟨bC, 1, none⟩ = some (.slice qc nd dc)) (by kernel_rfl) rfl (by (try dsimp only); exact ⟨kAx, kAy, kBx, kBy, kCx, kCy⟩) (fun hHeld => ?_)
          refine WalkU.tk 0 rfl ?_ (Or.inl ⟨by rfl, ?_⟩) hHeld ?_
          rotate_left
          · (intro w hSw; (try dsimp only at hSw); go_simp; try with_reducible rfl)
          try simp only [Act.put, List.setIfInBounds_toArray, List.set_cons_zero, List.set_cons_succ]
          refine WalkU.tk 1 rfl ?_ (Or.inl ⟨by rfl, ?_⟩) hHeld ?_
          rotate_left
          · (intro w hSw; (try dsimp only at hSw); go_simp; try with_reducible rfl)
          try simp only [Act.put, List.setIfInBounds_toArray, List.set_cons_zero, List.set_cons_succ]
          refine WalkU.tk 2 rfl ?_ (Or.inl ⟨by rfl, ?_⟩) hHeld ?_
          rotate_left
          · (intro w hSw; (try dsimp only at hSw); go_simp; try with_reducible rfl)
          try simp only [Act.put, List.setIfInBounds_toArray, List.set_cons_zero, List.set_cons_succ]
          refine WalkU.tk 3 rfl ?_ (Or.inl ⟨by rfl, ?_⟩) hHeld ?_
          rotate_left
          · (intro w hSw; (try dsimp only at hSw); go_simp; try with_reducible rfl)
          try simp only [Act.put, List.setIfInBounds_toArray, List.set_cons_zero, List.set_cons_succ]
          refine WalkU.tk 4 rfl ?_ (Or.inl ⟨by rfl, ?_⟩) hHeld ?_
          rotate_left
          · (intro w hSw; (try dsimp only at hSw); go_simp; try with_reducible rfl)
          try simp only [Act.put, List.setIfInBounds_toArray, List.set_cons_zero, List.set_cons_succ]
          refine WalkU.tk 5 rfl ?_ (Or.inl ⟨by rfl, ?_⟩) hHeld ?_
          rotate_left
          · (intro w hSw; (try dsimp only at hSw); go_simp; try with_reducible rfl)
          try simp only [Act.put, List.setIfInBounds_toArray, List.set_cons_zero, List.set_cons_succ]
          refine WalkU.tk 6 rfl ?_ (Or.inl ⟨by rfl, ?_⟩) hHeld ?_
          rotate_left
          · (intro w hSw; (try dsimp only at hSw); go_simp; try with_reducible rfl)
          try simp only [Act.put, List.setIfInBounds_toArray, List.set_cons_zero, List.set_cons_succ]
          refine WalkU.tk 7 rfl ?_ (Or.inl ⟨by rfl, ?_⟩) hHeld ?_
          rotate_left
          · (intro w hSw; (try dsimp only at hSw); go_simp; try with_reducible rfl)
          try simp only [Act.put, List.setIfInBounds_toArray, List.set_cons_zero, List.set_cons_succ]
          refine WalkU.tk 8 rfl ?_ (Or.inl ⟨by rfl, ?_⟩) hHeld ?_
          rotate_left
          · (intro w hSw; (try dsimp only at hSw); go_simp; try with_reducible rfl)
          try simp only [Act.put, List.setIfInBounds_toArray, List.set_cons_zero, List.set_cons_succ]
          refine WalkU.tk 9 rfl ?_ (Or.inl ⟨by rfl, ?_⟩) hHeld ?_
          rotate_left
          · (intro w hSw; (try dsimp only at hSw); go_simp; try with_reducible rfl)
          try simp only [Act.put, List.setIfInBounds_toArray, List.set_cons_zero, List.set_cons_succ]
          refine WalkU.tk 10 rfl ?_ (Or.inl ⟨by rfl, ?_⟩) hHeld ?_
          rotate_left
          · (intro w hSw; (try dsimp only at hSw); go_simp; try with_reducible rfl)
          try simp only [Act.put, List.setIfInBounds_toArray, List.set_cons_zero, List.set_cons_succ]
          refine WalkU.tk 11 rfl ?_ (Or.inl ⟨by rfl, ?_⟩) hHeld ?_
          rotate_left
          · (intro w hSw; (try dsimp only at hSw); go_simp; try with_reducible rfl)
          try simp only [Act.put, List.setIfInBounds_toArray, List.set_cons_zero, List.set_cons_succ]
          refine WalkU.tk 13 rfl ?_ (Or.inl ⟨by rfl, ?_⟩) hHeld ?_
          rotate_left
          · (intro w hSw; (try dsimp only at hSw); go_simp; try with_reducible rfl)
          try simp only [Act.put, List.setIfInBounds_toArray, List.set_cons_zero, List.set_cons_succ]
          refine WalkU.tk 14 rfl ?_ (Or.inl ⟨by rfl, ?_⟩) hHeld ?_
          rotate_left
          · (intro w hSw; (try dsimp only at hSw); go_simp; try with_reducible rfl)
          try simp only [Act.put, List.setIfInBounds_toArray, List.set_cons_zero, List.set_cons_succ]
          refine WalkU.one (i := 12) rfl (by kernel_rfl) (fun K hK => ?_)
          first
            | (first | (go_at_call 21; (with_reducible refine (implHas_any _ _ _ _ _ _ _ _ _ _ (by omega) (by omega) hcd hxd).mono ?_); rw [Hc.out]; rintro e w5 ⟨rfl, hb5⟩; replace had := had.below hb5; replace hbd := hbd.below hb5; replace hcd := hcd.below hb5; replace hxd := hxd.below hb5; replace kAx := (hb5.cell (World.block_lt_of_cell? _ _ kAx)).trans kAx; replace kAy := (hb5.cell (World.block_lt_of_cell? _ _ kAy)).trans kAy; replace kBx := (hb5.cell (World.block_lt_of_cell? _ _ kBx)).trans kBx; replace kBy := (hb5.cell (World.block_lt_of_cell? _ _ kBy)).trans kBy; replace kCx := (hb5.cell (World.block_lt_of_cell? _ _ kCx)).trans kCx; replace kCy := (hb5.cell (World.block_lt_of_cell? _ _ kCy)).trans kCy; replace hbW := Below.step hbW hb5) | (go_at_call 21; (with_reducible refine (implHas_any _ _ _ _ _ _ _ _ _ _ (by omega) (by omega) had hxd).mono ?_); rw [Ha.out]; rintro e w5 ⟨rfl, hb5⟩; replace had := had.below hb5; replace hbd := hbd.below hb5; replace hcd := hcd.below hb5; replace hxd := hxd.below hb5; replace kAx := (hb5.cell (World.block_lt_of_cell? _ _ kAx)).trans kAx; replace kAy := (hb5.cell (World.block_lt_of_cell? _ _ kAy)).trans kAy; replace kBx := (hb5.cell (World.block_lt_of_cell? _ _ kBx)).trans kBx; replace kBy := (hb5.cell (World.block_lt_of_cell? _ _ kBy)).trans kBy; replace kCx := (hb5.cell (World.block_lt_of_cell? _ _ kCx)).trans kCx; replace kCy := (hb5.cell (World.block_lt_of_cell? _ _ kCy)).trans kCy; replace hbW := Below.step hbW hb5))
            | (go_simp; (first | (go_at_call 21; (with_reducible refine (implHas_any _ _ _ _ _ _ _ _ _ _ (by omega) (by omega) hcd hxd).mono ?_); rw [Hc.out]; rintro e w5 ⟨rfl, hb5⟩; replace had := had.below hb5; replace hbd := hbd.below hb5; replace hcd := hcd.below hb5; replace hxd := hxd.below hb5; replace kAx := (hb5.cell (World.block_lt_of_cell? _ _ kAx)).trans kAx; replace kAy := (hb5.cell (World.block_lt_of_cell? _ _ kAy)).trans kAy; replace kBx := (hb5.cell (World.block_lt_of_cell? _ _ kBx)).trans kBx; replace kBy := (hb5.cell (World.block_lt_of_cell? _ _ kBy)).trans kBy; replace kCx := (hb5.cell (World.block_lt_of_cell? _ _ kCx)).trans kCx; replace kCy := (hb5.cell (World.block_lt_of_cell? _ _ kCy)).trans kCy; replace hbW := Below.step hbW hb5) | (go_at_call 21; (with_reducible refine (implHas_any _ _ _ _ _ _ _ _ _ _ (by omega) (by omega) had hxd).mono ?_); rw [Ha.out]; rintro e w5 ⟨rfl, hb5⟩; replace had := had.below hb5; replace hbd := hbd.below hb5; replace hcd := hcd.below hb5; replace hxd := hxd.below hb5; replace kAx := (hb5.cell (World.block_lt_of_cell? _ _ kAx)).trans kAx; replace kAy := (hb5.cell (World.block_lt_of_cell? _ _ kAy)).trans kAy; replace kBx := (hb5.cell (World.block_lt_of_cell? _ _ kBx)).trans kBx; replace kBy := (hb5.cell (World.block_lt_of_cell? _ _ kBy)).trans kBy; replace kCx := (hb5.cell (World.block_lt_of_cell? _ _ kCx)).trans kCx; replace kCy := (hb5.cell (World.block_lt_of_cell? _ _ kCy)).trans kCy; replace hbW := Below.step hbW hb5)))
          refine hK.out _ _ ?_ (fun hHeld => ?_)
          · ((try dsimp only); exact ⟨kAx, kAy, kBx, kBy, kCx, kCy⟩)
          clear hK K
          try simp only [Act.put, List.setIfInBounds_toArray, List.set_cons_zero, List.set_cons_succ]
          refine WalkU.one (i := 15) rfl (by kernel_rfl) (fun K hK => ?_)
          first
            | (first | (go_at_call 21; (with_reducible refine (implHas_any _ _ _ _ _ _ _ _ _ _ (by omega) (by omega) hcd hxd).mono ?_); rw [Hc.out]; rintro e w5 ⟨rfl, hb5⟩; replace had := had.below hb5; replace hbd := hbd.below hb5; replace hcd := hcd.below hb5; replace hxd := hxd.below hb5; replace kAx := (hb5.cell (World.block_lt_of_cell? _ _ kAx)).trans kAx; replace kAy := (hb5.cell (World.block_lt_of_cell? _ _ kAy)).trans kAy; replace kBx := (hb5.cell (World.block_lt_of_cell? _ _ kBx)).trans kBx; replace kBy := (hb5.cell (World.block_lt_of_cell? _ _ kBy)).trans kBy; replace kCx := (hb5.cell (World.block_lt_of_cell? _ _ kCx)).trans kCx; replace kCy := (hb5.cell (World.block_lt_of_cell? _ _ kCy)).trans kCy; replace hbW := Below.step hbW hb5) | (go_at_call 21; (with_reducible refine (implHas_any _ _ _ _ _ _ _ _ _ _ (by omega) (by omega) had hxd).mono ?_); rw [Ha.out]; rintro e w5 ⟨rfl, hb5⟩; replace had := had.below hb5; replace hbd := hbd.below hb5; replace hcd := hcd.below hb5; replace hxd := hxd.below hb5; replace kAx := (hb5.cell (World.block_lt_of_cell? _ _ kAx)).trans kAx; replace kAy := (hb5.cell (World.block_lt_of_cell? _ _ kAy)).trans kAy; replace kBx := (hb5.cell (World.block_lt_of_cell? _ _ kBx)).trans kBx; replace kBy := (hb5.cell (World.block_lt_of_cell? _ _ kBy)).trans kBy; replace kCx := (hb5.cell (World.block_lt_of_cell? _ _ kCx)).trans kCx; replace kCy := (hb5.cell (World.block_lt_of_cell? _ _ kCy)).trans kCy; replace hbW := Below.step hbW hb5))
            | (go_simp; (first | (go_at_call 21; (with_reducible refine (implHas_any _ _ _ _ _ _ _ _ _ _ (by omega) (by omega) hcd hxd).mono ?_); rw [Hc.out]; rintro e w5 ⟨rfl, hb5⟩; replace had := had.below hb5; replace hbd := hbd.below hb5; replace hcd := hcd.below hb5; replace hxd := hxd.below hb5; replace kAx := (hb5.cell (World.block_lt_of_cell? _ _ kAx)).trans kAx; replace kAy := (hb5.cell (World.block_lt_of_cell? _ _ kAy)).trans kAy; replace kBx := (hb5.cell (World.block_lt_of_cell? _ _ kBx)).trans kBx; replace kBy := (hb5.cell (World.block_lt_of_cell? _ _ kBy)).trans kBy; replace kCx := (hb5.cell (World.block_lt_of_cell? _ _ kCx)).trans kCx; replace kCy := (hb5.cell (World.block_lt_of_cell? _ _ kCy)).trans kCy; replace hbW := Below.step hbW hb5) | (go_at_call 21; (with_reducible refine (implHas_any _ _ _ _ _ _ _ _ _ _ (by omega) (by omega) had hxd).mono ?_); rw [Ha.out]; rintro e w5 ⟨rfl, hb5⟩; replace had := had.below hb5; replace hbd := hbd.below hb5; replace hcd := hcd.below hb5; replace hxd := hxd.below hb5; replace kAx := (hb5.cell (World.block_lt_of_cell? _ _ kAx)).trans kAx; replace kAy := (hb5.cell (World.block_lt_of_cell? _ _ kAy)).trans kAy; replace kBx := (hb5.cell (World.block_lt_of_cell? _ _ kBx)).trans kBx; replace kBy := (hb5.cell (World.block_lt_of_cell? _ _ kBy)).trans kBy; replace kCx := (hb5.cell (World.block_lt_of_cell? _ _ kCx)).trans kCx; replace kCy := (hb5.cell (World.block_lt_of_cell? _ _ kCy)).trans kCy; replace hbW := Below.step hbW hb5)))
          refine hK.out _ _ ?_ (fun hHeld => ?_)
          · ((try dsimp only); exact ⟨kAx, kAy, kBx, kBy, kCx, kCy⟩)
          clear hK K
          try simp only [Act.put, List.setIfInBounds_toArray, List.set_cons_zero, List.set_cons_succ]
          refine WalkU.tk 16 rfl ?_ (Or.inl ⟨by rfl, ?_⟩) hHeld ?_
          rotate_left
          · (intro w hSw; (try dsimp only at hSw); go_simp; try with_reducible rfl)
          try simp only [Act.put, List.setIfInBounds_toArray, List.set_cons_zero, List.set_cons_succ]
          refine WalkU.tk 17 rfl undef (Or.inr ⟨by rfl, rfl⟩) hHeld ?_
          try simp only [Act.put, List.setIfInBounds_toArray, List.set_cons_zero, List.set_cons_succ]
          refine WalkU.tk 18 rfl undef (Or.inr ⟨by rfl, rfl⟩) hHeld ?_
          try simp only [Act.put, List.setIfInBounds_toArray, List.set_cons_zero, List.set_cons_succ]
          refine WalkU.tk 19 rfl undef (Or.inr ⟨by rfl, rfl⟩) hHeld ?_
          try simp only [Act.put, List.setIfInBounds_toArray, List.set_cons_zero, List.set_cons_succ]
          refine WalkU.tk 20 rfl ?_ (Or.inl ⟨by rfl, ?_⟩) hHeld ?_
          rotate_left
          · (intro w hSw; (try dsimp only at hSw); go_simp; try with_reducible rfl)
          try simp only [Act.put, List.setIfInBounds_toArray, List.set_cons_zero, List.set_cons_succ]
          refine WalkU.tk 21 rfl ?_ (Or.inl ⟨by rfl, ?_⟩) hHeld ?_
          rotate_left
          · (intro w hSw; (try dsimp only at hSw); go_simp; try with_reducible rfl)
          try simp only [Act.put, List.setIfInBounds_toArray, List.set_cons_zero, List.set_cons_succ]
          refine WalkU.tk 22 rfl ?_ (Or.inl ⟨by rfl, ?_⟩) hHeld ?_
          rotate_left
          · (intro w hSw; (try dsimp only at hSw); go_simp; try with_reducible rfl)
          try simp only [Act.put, List.setIfInBounds_toArray, List.set_cons_zero, List.set_cons_succ]
          refine WalkU.last (i := 23) rfl rfl (by kernel_rfl) (by kernel_rfl) (fun K hK => ?_)
          go_simp
          refine hK.out _ _ ?_
          clear hK K
          try simp only [Act.put, List.setIfInBounds_toArray, List.set_cons_zero, List.set_cons_succ]
          go_wp2_with fail
          go_ret
          exact ⟨rfl, Below.step hT hbW⟩
        · have hpc : hasPt zc cs xx = hasPt zb bs xx := by rw [Hmt.out, hpa, Bool.true_and]
          have Ha := Lib.hid hpa
          have Hc := Lib.hid hpc
          clear hpa hpc
          refine wp_region_u 23 24 (fun w' => w'.cell? ⟨bA, 0, none⟩ = some (.int .i64 za) ∧ w'.cell? ⟨bA, 1, none⟩ = some (.slice qa ka da) ∧ w'.cell? ⟨bA + 1, 0, none⟩ = some (.int .i64 zb) ∧ w'.cell? ⟨bA + 1, 1, none⟩ = some (.slice qb kb db) ∧ w'.cell? ⟨bC, 0, none⟩ = some (.int .i64 zc) ∧ w'.cell? ⟨bC, 1, none⟩ = some (.slice qc nd dc)) (by kernel_rfl) rfl (by (try dsimp only); exact ⟨kAx, kAy, kBx, kBy, kCx, kCy⟩) (fun hHeld => ?_)
          refine WalkU.tk 0 rfl ?_ (Or.inl ⟨by rfl, ?_⟩) hHeld ?_
          rotate_left
          · (intro w hSw; (try dsimp only at hSw); go_simp; try with_reducible rfl)
          try simp only [Act.put, List.setIfInBounds_toArray, List.set_cons_zero, List.set_cons_succ]
          refine WalkU.tk 1 rfl ?_ (Or.inl ⟨by rfl, ?_⟩) hHeld ?_
          rotate_left
          · (intro w hSw; (try dsimp only at hSw); go_simp; try with_reducible rfl)
          try simp only [Act.put, List.setIfInBounds_toArray, List.set_cons_zero, List.set_cons_succ]
          refine WalkU.tk 2 rfl ?_ (Or.inl ⟨by rfl, ?_⟩) hHeld ?_
          rotate_left
          · (intro w hSw; (try dsimp only at hSw); go_simp; try with_reducible rfl)
          try simp only [Act.put, List.setIfInBounds_toArray, List.set_cons_zero, List.set_cons_succ]
          refine WalkU.tk 3 rfl ?_ (Or.inl ⟨by rfl, ?_⟩) hHeld ?_
          rotate_left
          · (intro w hSw; (try dsimp only at hSw); go_simp; try with_reducible rfl)
          try simp only [Act.put, List.setIfInBounds_toArray, List.set_cons_zero, List.set_cons_succ]
          refine WalkU.tk 4 rfl ?_ (Or.inl ⟨by rfl, ?_⟩) hHeld ?_
          rotate_left
          · (intro w hSw; (try dsimp only at hSw); go_simp; try with_reducible rfl)
          try simp only [Act.put, List.setIfInBounds_toArray, List.set_cons_zero, List.set_cons_succ]
          refine WalkU.tk 5 rfl ?_ (Or.inl ⟨by rfl, ?_⟩) hHeld ?_
          rotate_left
          · (intro w hSw; (try dsimp only at hSw); go_simp; try with_reducible rfl)
          try simp only [Act.put, List.setIfInBounds_toArray, List.set_cons_zero, List.set_cons_succ]
          refine WalkU.tk 6 rfl ?_ (Or.inl ⟨by rfl, ?_⟩) hHeld ?_
          rotate_left
          · (intro w hSw; (try dsimp only at hSw); go_simp; try with_reducible rfl)
          try simp only [Act.put, List.setIfInBounds_toArray, List.set_cons_zero, List.set_cons_succ]
          refine WalkU.tk 7 rfl ?_ (Or.inl ⟨by rfl, ?_⟩) hHeld ?_
          rotate_left
          · (intro w hSw; (try dsimp only at hSw); go_simp; try with_reducible rfl)
          try simp only [Act.put, List.setIfInBounds_toArray, List.set_cons_zero, List.set_cons_succ]
          refine WalkU.tk 8 rfl ?_ (Or.inl ⟨by rfl, ?_⟩) hHeld ?_
          rotate_left
          · (intro w hSw; (try dsimp only at hSw); go_simp; try with_reducible rfl)
          try simp only [Act.put, List.setIfInBounds_toArray, List.set_cons_zero, List.set_cons_succ]
          refine WalkU.tk 9 rfl ?_ (Or.inl ⟨by rfl, ?_⟩) hHeld ?_
          rotate_left
          · (intro w hSw; (try dsimp only at hSw); go_simp; try with_reducible rfl)
          try simp only [Act.put, List.setIfInBounds_toArray, List.set_cons_zero, List.set_cons_succ]
          refine WalkU.tk 10 rfl ?_ (Or.inl ⟨by rfl, ?_⟩) hHeld ?_
          rotate_left
          · (intro w hSw; (try dsimp only at hSw); go_simp; try with_reducible rfl)
          try simp only [Act.put, List.setIfInBounds_toArray, List.set_cons_zero, List.set_cons_succ]
          refine WalkU.tk 11 rfl ?_ (Or.inl ⟨by rfl, ?_⟩) hHeld ?_
          rotate_left
          · (intro w hSw; (try dsimp only at hSw); go_simp; try with_reducible rfl)
          try simp only [Act.put, List.setIfInBounds_toArray, List.set_cons_zero, List.set_cons_succ]
          refine WalkU.tk 13 rfl ?_ (Or.inl ⟨by rfl, ?_⟩) hHeld ?_
          rotate_left
          · (intro w hSw; (try dsimp only at hSw); go_simp; try with_reducible rfl)
          try simp only [Act.put, List.setIfInBounds_toArray, List.set_cons_zero, List.set_cons_succ]
          refine WalkU.tk 14 rfl ?_ (Or.inl ⟨by rfl, ?_⟩) hHeld ?_
          rotate_left
          · (intro w hSw; (try dsimp only at hSw); go_simp; try with_reducible rfl)
          try simp only [Act.put, List.setIfInBounds_toArray, List.set_cons_zero, List.set_cons_succ]
          refine WalkU.one (i := 12) rfl (by kernel_rfl) (fun K hK => ?_)
          first
            | (first | (go_at_call 21; (with_reducible refine (implHas_any _ _ _ _ _ _ _ _ _ _ (by omega) (by omega) hcd hxd).mono ?_); rw [Hc.out]; rintro e w5 ⟨rfl, hb5⟩; replace had := had.below hb5; replace hbd := hbd.below hb5; replace hcd := hcd.below hb5; replace hxd := hxd.below hb5; replace kAx := (hb5.cell (World.block_lt_of_cell? _ _ kAx)).trans kAx; replace kAy := (hb5.cell (World.block_lt_of_cell? _ _ kAy)).trans kAy; replace kBx := (hb5.cell (World.block_lt_of_cell? _ _ kBx)).trans kBx; replace kBy := (hb5.cell (World.block_lt_of_cell? _ _ kBy)).trans kBy; replace kCx := (hb5.cell (World.block_lt_of_cell? _ _ kCx)).trans kCx; replace kCy := (hb5.cell (World.block_lt_of_cell? _ _ kCy)).trans kCy; replace hbW := Below.step hbW hb5) | (go_at_call 21; (with_reducible refine (implHas_any _ _ _ _ _ _ _ _ _ _ (by omega) (by omega) had hxd).mono ?_); rw [Ha.out]; rintro e w5 ⟨rfl, hb5⟩; replace had := had.below hb5; replace hbd := hbd.below hb5; replace hcd := hcd.below hb5; replace hxd := hxd.below hb5; replace kAx := (hb5.cell (World.block_lt_of_cell? _ _ kAx)).trans kAx; replace kAy := (hb5.cell (World.block_lt_of_cell? _ _ kAy)).trans kAy; replace kBx := (hb5.cell (World.block_lt_of_cell? _ _ kBx)).trans kBx; replace kBy := (hb5.cell (World.block_lt_of_cell? _ _ kBy)).trans kBy; replace kCx := (hb5.cell (World.block_lt_of_cell? _ _ kCx)).trans kCx; replace kCy := (hb5.cell (World.block_lt_of_cell? _ _ kCy)).trans kCy; replace hbW := Below.step hbW hb5) | (go_at_call 21; (with_reducible refine (implHas_any _ _ _ _ _ _ _ _ _ _ (by omega) (by omega) hbd hxd).mono ?_); rintro e w5 ⟨rfl, hb5⟩; replace had := had.below hb5; replace hbd := hbd.below hb5; replace hcd := hcd.below hb5; replace hxd := hxd.below hb5; replace kAx := (hb5.cell (World.block_lt_of_cell? _ _ kAx)).trans kAx; replace kAy := (hb5.cell (World.block_lt_of_cell? _ _ kAy)).trans kAy; replace kBx := (hb5.cell (World.block_lt_of_cell? _ _ kBx)).trans kBx; replace kBy := (hb5.cell (World.block_lt_of_cell? _ _ kBy)).trans kBy; replace kCx := (hb5.cell (World.block_lt_of_cell? _ _ kCx)).trans kCx; replace kCy := (hb5.cell (World.block_lt_of_cell? _ _ kCy)).trans kCy; replace hbW := Below.step hbW hb5))
            | (go_simp; (first | (go_at_call 21; (with_reducible refine (implHas_any _ _ _ _ _ _ _ _ _ _ (by omega) (by omega) hcd hxd).mono ?_); rw [Hc.out]; rintro e w5 ⟨rfl, hb5⟩; replace had := had.below hb5; replace hbd := hbd.below hb5; replace hcd := hcd.below hb5; replace hxd := hxd.below hb5; replace kAx := (hb5.cell (World.block_lt_of_cell? _ _ kAx)).trans kAx; replace kAy := (hb5.cell (World.block_lt_of_cell? _ _ kAy)).trans kAy; replace kBx := (hb5.cell (World.block_lt_of_cell? _ _ kBx)).trans kBx; replace kBy := (hb5.cell (World.block_lt_of_cell? _ _ kBy)).trans kBy; replace kCx := (hb5.cell (World.block_lt_of_cell? _ _ kCx)).trans kCx; replace kCy := (hb5.cell (World.block_lt_of_cell? _ _ kCy)).trans kCy; replace hbW := Below.step hbW hb5) | (go_at_call 21; (with_reducible refine (implHas_any _ _ _ _ _ _ _ _ _ _ (by omega) (by omega) had hxd).mono ?_); rw [Ha.out]; rintro e w5 ⟨rfl, hb5⟩; replace had := had.below hb5; replace hbd := hbd.below hb5; replace hcd := hcd.below hb5; replace hxd := hxd.below hb5; replace kAx := (hb5.cell (World.block_lt_of_cell? _ _ kAx)).trans kAx; replace kAy := (hb5.cell (World.block_lt_of_cell? _ _ kAy)).trans kAy; replace kBx := (hb5.cell (World.block_lt_of_cell? _ _ kBx)).trans kBx; replace kBy := (hb5.cell (World.block_lt_of_cell? _ _ kBy)).trans kBy; replace kCx := (hb5.cell (World.block_lt_of_cell? _ _ kCx)).trans kCx; replace kCy := (hb5.cell (World.block_lt_of_cell? _ _ kCy)).trans kCy; replace hbW := Below.step hbW hb5) | (go_at_call 21; (with_reducible refine (implHas_any _ _ _ _ _ _ _ _ _ _ (by omega) (by omega) hbd hxd).mono ?_); rintro e w5 ⟨rfl, hb5⟩; replace had := had.below hb5; replace hbd := hbd.below hb5; replace hcd := hcd.below hb5; replace hxd := hxd.below hb5; replace kAx := (hb5.cell (World.block_lt_of_cell? _ _ kAx)).trans kAx; replace kAy := (hb5.cell (World.block_lt_of_cell? _ _ kAy)).trans kAy; replace kBx := (hb5.cell (World.block_lt_of_cell? _ _ kBx)).trans kBx; replace kBy := (hb5.cell (World.block_lt_of_cell? _ _ kBy)).trans kBy; replace kCx := (hb5.cell (World.block_lt_of_cell? _ _ kCx)).trans kCx; replace kCy := (hb5.cell (World.block_lt_of_cell? _ _ kCy)).trans kCy; replace hbW := Below.step hbW hb5)))
          refine hK.out _ _ ?_ (fun hHeld => ?_)
          · ((try dsimp only); exact ⟨kAx, kAy, kBx, kBy, kCx, kCy⟩)
          clear hK K
          try simp only [Act.put, List.setIfInBounds_toArray, List.set_cons_zero, List.set_cons_succ]
          refine WalkU.one (i := 15) rfl (by kernel_rfl) (fun K hK => ?_)
          first
            | (first | (go_at_call 21; (with_reducible refine (implHas_any _ _ _ _ _ _ _ _ _ _ (by omega) (by omega) hcd hxd).mono ?_); rw [Hc.out]; rintro e w5 ⟨rfl, hb5⟩; replace had := had.below hb5; replace hbd := hbd.below hb5; replace hcd := hcd.below hb5; replace hxd := hxd.below hb5; replace kAx := (hb5.cell (World.block_lt_of_cell? _ _ kAx)).trans kAx; replace kAy := (hb5.cell (World.block_lt_of_cell? _ _ kAy)).trans kAy; replace kBx := (hb5.cell (World.block_lt_of_cell? _ _ kBx)).trans kBx; replace kBy := (hb5.cell (World.block_lt_of_cell? _ _ kBy)).trans kBy; replace kCx := (hb5.cell (World.block_lt_of_cell? _ _ kCx)).trans kCx; replace kCy := (hb5.cell (World.block_lt_of_cell? _ _ kCy)).trans kCy; replace hbW := Below.step hbW hb5) | (go_at_call 21; (with_reducible refine (implHas_any _ _ _ _ _ _ _ _ _ _ (by omega) (by omega) had hxd).mono ?_); rw [Ha.out]; rintro e w5 ⟨rfl, hb5⟩; replace had := had.below hb5; replace hbd := hbd.below hb5; replace hcd := hcd.below hb5; replace hxd := hxd.below hb5; replace kAx := (hb5.cell (World.block_lt_of_cell? _ _ kAx)).trans kAx; replace kAy := (hb5.cell (World.block_lt_of_cell? _ _ kAy)).trans kAy; replace kBx := (hb5.cell (World.block_lt_of_cell? _ _ kBx)).trans kBx; replace kBy := (hb5.cell (World.block_lt_of_cell? _ _ kBy)).trans kBy; replace kCx := (hb5.cell (World.block_lt_of_cell? _ _ kCx)).trans kCx; replace kCy := (hb5.cell (World.block_lt_of_cell? _ _ kCy)).trans kCy; replace hbW := Below.step hbW hb5) | (go_at_call 21; (with_reducible refine (implHas_any _ _ _ _ _ _ _ _ _ _ (by omega) (by omega) hbd hxd).mono ?_); rintro e w5 ⟨rfl, hb5⟩; replace had := had.below hb5; replace hbd := hbd.below hb5; replace hcd := hcd.below hb5; replace hxd := hxd.below hb5; replace kAx := (hb5.cell (World.block_lt_of_cell? _ _ kAx)).trans kAx; replace kAy := (hb5.cell (World.block_lt_of_cell? _ _ kAy)).trans kAy; replace kBx := (hb5.cell (World.block_lt_of_cell? _ _ kBx)).trans kBx; replace kBy := (hb5.cell (World.block_lt_of_cell? _ _ kBy)).trans kBy; replace kCx := (hb5.cell (World.block_lt_of_cell? _ _ kCx)).trans kCx; replace kCy := (hb5.cell (World.block_lt_of_cell? _ _ kCy)).trans kCy; replace hbW := Below.step hbW hb5))
            | (go_simp; (first | (go_at_call 21; (with_reducible refine (implHas_any _ _ _ _ _ _ _ _ _ _ (by omega) (by omega) hcd hxd).mono ?_); rw [Hc.out]; rintro e w5 ⟨rfl, hb5⟩; replace had := had.below hb5; replace hbd := hbd.below hb5; replace hcd := hcd.below hb5; replace hxd := hxd.below hb5; replace kAx := (hb5.cell (World.block_lt_of_cell? _ _ kAx)).trans kAx; replace kAy := (hb5.cell (World.block_lt_of_cell? _ _ kAy)).trans kAy; replace kBx := (hb5.cell (World.block_lt_of_cell? _ _ kBx)).trans kBx; replace kBy := (hb5.cell (World.block_lt_of_cell? _ _ kBy)).trans kBy; replace kCx := (hb5.cell (World.block_lt_of_cell? _ _ kCx)).trans kCx; replace kCy := (hb5.cell (World.block_lt_of_cell? _ _ kCy)).trans kCy; replace hbW := Below.step hbW hb5) | (go_at_call 21; (with_reducible refine (implHas_any _ _ _ _ _ _ _ _ _ _ (by omega) (by omega) had hxd).mono ?_); rw [Ha.out]; rintro e w5 ⟨rfl, hb5⟩; replace had := had.below hb5; replace hbd := hbd.below hb5; replace hcd := hcd.below hb5; replace hxd := hxd.below hb5; replace kAx := (hb5.cell (World.block_lt_of_cell? _ _ kAx)).trans kAx; replace kAy := (hb5.cell (World.block_lt_of_cell? _ _ kAy)).trans kAy; replace kBx := (hb5.cell (World.block_lt_of_cell? _ _ kBx)).trans kBx; replace kBy := (hb5.cell (World.block_lt_of_cell? _ _ kBy)).trans kBy; replace kCx := (hb5.cell (World.block_lt_of_cell? _ _ kCx)).trans kCx; replace kCy := (hb5.cell (World.block_lt_of_cell? _ _ kCy)).trans kCy; replace hbW := Below.step hbW hb5) | (go_at_call 21; (with_reducible refine (implHas_any _ _ _ _ _ _ _ _ _ _ (by omega) (by omega) hbd hxd).mono ?_); rintro e w5 ⟨rfl, hb5⟩; replace had := had.below hb5; replace hbd := hbd.below hb5; replace hcd := hcd.below hb5; replace hxd := hxd.below hb5; replace kAx := (hb5.cell (World.block_lt_of_cell? _ _ kAx)).trans kAx; replace kAy := (hb5.cell (World.block_lt_of_cell? _ _ kAy)).trans kAy; replace kBx := (hb5.cell (World.block_lt_of_cell? _ _ kBx)).trans kBx; replace kBy := (hb5.cell (World.block_lt_of_cell? _ _ kBy)).trans kBy; replace kCx := (hb5.cell (World.block_lt_of_cell? _ _ kCx)).trans kCx; replace kCy := (hb5.cell (World.block_lt_of_cell? _ _ kCy)).trans kCy; replace hbW := Below.step hbW hb5)))
          refine hK.out _ _ ?_ (fun hHeld => ?_)
          · ((try dsimp only); exact ⟨kAx, kAy, kBx, kBy, kCx, kCy⟩)
          clear hK K
          try simp only [Act.put, List.setIfInBounds_toArray, List.set_cons_zero, List.set_cons_succ]
          refine WalkU.tk 16 rfl ?_ (Or.inl ⟨by rfl, ?_⟩) hHeld ?_
          rotate_left
          · (intro w hSw; (try dsimp only at hSw); go_simp; try with_reducible rfl)
          try simp only [Act.put, List.setIfInBounds_toArray, List.set_cons_zero, List.set_cons_succ]
          refine WalkU.tk 17 rfl ?_ (Or.inl ⟨by rfl, ?_⟩) hHeld ?_
          rotate_left
          · (intro w hSw; (try dsimp only at hSw); go_simp; try with_reducible rfl)
          try simp only [Act.put, List.setIfInBounds_toArray, List.set_cons_zero, List.set_cons_succ]
          refine WalkU.tk 18 rfl ?_ (Or.inl ⟨by rfl, ?_⟩) hHeld ?_
          rotate_left
          · (intro w hSw; (try dsimp only at hSw); go_simp; try with_reducible rfl)
          try simp only [Act.put, List.setIfInBounds_toArray, List.set_cons_zero, List.set_cons_succ]
          refine WalkU.one (i := 19) rfl (by kernel_rfl) (fun K hK => ?_)
          first
            | (first | (go_at_call 21; (with_reducible refine (implHas_any _ _ _ _ _ _ _ _ _ _ (by omega) (by omega) hcd hxd).mono ?_); rw [Hc.out]; rintro e w5 ⟨rfl, hb5⟩; replace had := had.below hb5; replace hbd := hbd.below hb5; replace hcd := hcd.below hb5; replace hxd := hxd.below hb5; replace kAx := (hb5.cell (World.block_lt_of_cell? _ _ kAx)).trans kAx; replace kAy := (hb5.cell (World.block_lt_of_cell? _ _ kAy)).trans kAy; replace kBx := (hb5.cell (World.block_lt_of_cell? _ _ kBx)).trans kBx; replace kBy := (hb5.cell (World.block_lt_of_cell? _ _ kBy)).trans kBy; replace kCx := (hb5.cell (World.block_lt_of_cell? _ _ kCx)).trans kCx; replace kCy := (hb5.cell (World.block_lt_of_cell? _ _ kCy)).trans kCy; replace hbW := Below.step hbW hb5) | (go_at_call 21; (with_reducible refine (implHas_any _ _ _ _ _ _ _ _ _ _ (by omega) (by omega) had hxd).mono ?_); rw [Ha.out]; rintro e w5 ⟨rfl, hb5⟩; replace had := had.below hb5; replace hbd := hbd.below hb5; replace hcd := hcd.below hb5; replace hxd := hxd.below hb5; replace kAx := (hb5.cell (World.block_lt_of_cell? _ _ kAx)).trans kAx; replace kAy := (hb5.cell (World.block_lt_of_cell? _ _ kAy)).trans kAy; replace kBx := (hb5.cell (World.block_lt_of_cell? _ _ kBx)).trans kBx; replace kBy := (hb5.cell (World.block_lt_of_cell? _ _ kBy)).trans kBy; replace kCx := (hb5.cell (World.block_lt_of_cell? _ _ kCx)).trans kCx; replace kCy := (hb5.cell (World.block_lt_of_cell? _ _ kCy)).trans kCy; replace hbW := Below.step hbW hb5) | (go_at_call 21; (with_reducible refine (implHas_any _ _ _ _ _ _ _ _ _ _ (by omega) (by omega) hbd hxd).mono ?_); rintro e w5 ⟨rfl, hb5⟩; replace had := had.below hb5; replace hbd := hbd.below hb5; replace hcd := hcd.below hb5; replace hxd := hxd.below hb5; replace kAx := (hb5.cell (World.block_lt_of_cell? _ _ kAx)).trans kAx; replace kAy := (hb5.cell (World.block_lt_of_cell? _ _ kAy)).trans kAy; replace kBx := (hb5.cell (World.block_lt_of_cell? _ _ kBx)).trans kBx; replace kBy := (hb5.cell (World.block_lt_of_cell? _ _ kBy)).trans kBy; replace kCx := (hb5.cell (World.block_lt_of_cell? _ _ kCx)).trans kCx; replace kCy := (hb5.cell (World.block_lt_of_cell? _ _ kCy)).trans kCy; replace hbW := Below.step hbW hb5))
            | (go_simp; (first | (go_at_call 21; (with_reducible refine (implHas_any _ _ _ _ _ _ _ _ _ _ (by omega) (by omega) hcd hxd).mono ?_); rw [Hc.out]; rintro e w5 ⟨rfl, hb5⟩; replace had := had.below hb5; replace hbd := hbd.below hb5; replace hcd := hcd.below hb5; replace hxd := hxd.below hb5; replace kAx := (hb5.cell (World.block_lt_of_cell? _ _ kAx)).trans kAx; replace kAy := (hb5.cell (World.block_lt_of_cell? _ _ kAy)).trans kAy; replace kBx := (hb5.cell (World.block_lt_of_cell? _ _ kBx)).trans kBx; replace kBy := (hb5.cell (World.block_lt_of_cell? _ _ kBy)).trans kBy; replace kCx := (hb5.cell (World.block_lt_of_cell? _ _ kCx)).trans kCx; replace kCy := (hb5.cell (World.block_lt_of_cell? _ _ kCy)).trans kCy; replace hbW := Below.step hbW hb5) | (go_at_call 21; (with_reducible refine (implHas_any _ _ _ _ _ _ _ _ _ _ (by omega) (by omega) had hxd).mono ?_); rw [Ha.out]; rintro e w5 ⟨rfl, hb5⟩; replace had := had.below hb5; replace hbd := hbd.below hb5; replace hcd := hcd.below hb5; replace hxd := hxd.below hb5; replace kAx := (hb5.cell (World.block_lt_of_cell? _ _ kAx)).trans kAx; replace kAy := (hb5.cell (World.block_lt_of_cell? _ _ kAy)).trans kAy; replace kBx := (hb5.cell (World.block_lt_of_cell? _ _ kBx)).trans kBx; replace kBy := (hb5.cell (World.block_lt_of_cell? _ _ kBy)).trans kBy; replace kCx := (hb5.cell (World.block_lt_of_cell? _ _ kCx)).trans kCx; replace kCy := (hb5.cell (World.block_lt_of_cell? _ _ kCy)).trans kCy; replace hbW := Below.step hbW hb5) | (go_at_call 21; (with_reducible refine (implHas_any _ _ _ _ _ _ _ _ _ _ (by omega) (by omega) hbd hxd).mono ?_); rintro e w5 ⟨rfl, hb5⟩; replace had := had.below hb5; replace hbd := hbd.below hb5; replace hcd := hcd.below hb5; replace hxd := hxd.below hb5; replace kAx := (hb5.cell (World.block_lt_of_cell? _ _ kAx)).trans kAx; replace kAy := (hb5.cell (World.block_lt_of_cell? _ _ kAy)).trans kAy; replace kBx := (hb5.cell (World.block_lt_of_cell? _ _ kBx)).trans kBx; replace kBy := (hb5.cell (World.block_lt_of_cell? _ _ kBy)).trans kBy; replace kCx := (hb5.cell (World.block_lt_of_cell? _ _ kCx)).trans kCx; replace kCy := (hb5.cell (World.block_lt_of_cell? _ _ kCy)).trans kCy; replace hbW := Below.step hbW hb5)))
          refine hK.out _ _ ?_ (fun hHeld => ?_)
          · ((try dsimp only); exact ⟨kAx, kAy, kBx, kBy, kCx, kCy⟩)
          clear hK K
          try simp only [Act.put, List.setIfInBounds_toArray, List.set_cons_zero, List.set_cons_succ]
          refine WalkU.tk 20 rfl ?_ (Or.inl ⟨by rfl, ?_⟩) hHeld ?_
          rotate_left
          · (intro w hSw; (try dsimp only at hSw); go_simp; try with_reducible rfl)
          try simp only [Act.put, List.setIfInBounds_toArray, List.set_cons_zero, List.set_cons_succ]
          refine WalkU.tk 21 rfl ?_ (Or.inl ⟨by rfl, ?_⟩) hHeld ?_
          rotate_left
          · (intro w hSw; (try dsimp only at hSw); go_simp; try with_reducible rfl)
          try simp only [Act.put, List.setIfInBounds_toArray, List.set_cons_zero, List.set_cons_succ]
          refine WalkU.tk 22 rfl ?_ (Or.inl ⟨by rfl, ?_⟩) hHeld ?_
          rotate_left
          · (intro w hSw; (try dsimp only at hSw); go_simp; try with_reducible rfl)
          try simp only [Act.put, List.setIfInBounds_toArray, List.set_cons_zero, List.set_cons_succ]
          refine WalkU.last (i := 23) rfl rfl (by kernel_rfl) (by kernel_rfl) (fun K hK => ?_)
          go_simp
          refine hK.out _ _ ?_
          clear hK K
          try simp only [Act.put, List.setIfInBounds_toArray, List.set_cons_zero, List.set_cons_succ]
          go_wp2_with fail
          go_ret
          exact ⟨ret_bool (by simp), Below.step hT hbW⟩
      · have hlb : ((nx : Int) == za) = false := by simpa using hlz
        have hlb2 : decide ((nx : Int) = za) = false := by simpa using hlz
        have hlb3 : ((nx : Int) != za) = true := by simp [hlz]
        have Hlz := Lib.hid hlz
        clear hlz
        refine wp_region_u 23 24 (fun w' => w'.cell? ⟨bA, 0, none⟩ = some (.int .i64 za) ∧ w'.cell? ⟨bA, 1, none⟩ = some (.slice qa ka da) ∧ w'.cell? ⟨bA + 1, 0, none⟩ = some (.int .i64 zb) ∧ w'.cell? ⟨bA + 1, 1, none⟩ = some (.slice qb kb db) ∧ w'.cell? ⟨bC, 0, none⟩ = some (.int .i64 zc) ∧ w'.cell? ⟨bC, 1, none⟩ = some (.slice qc nd dc)) (by kernel_rfl) rfl (by (try dsimp only); exact ⟨kAx, kAy, kBx, kBy, kCx, kCy⟩) (fun hHeld => ?_)
        refine WalkU.tk 0 rfl ?_ (Or.inl ⟨by rfl, ?_⟩) hHeld ?_
        rotate_left
        · (intro w hSw; (try dsimp only at hSw); go_simp; try with_reducible rfl)
        try simp only [Act.put, List.setIfInBounds_toArray, List.set_cons_zero, List.set_cons_succ]
        refine WalkU.tk 1 rfl ?_ (Or.inl ⟨by rfl, ?_⟩) hHeld ?_
        rotate_left
        · (intro w hSw; (try dsimp only at hSw); go_simp; try with_reducible rfl)
        try simp only [Act.put, List.setIfInBounds_toArray, List.set_cons_zero, List.set_cons_succ]
        refine WalkU.tk 2 rfl ?_ (Or.inl ⟨by rfl, ?_⟩) hHeld ?_
        rotate_left
        · (intro w hSw; (try dsimp only at hSw); go_simp; try with_reducible rfl)
        try simp only [Act.put, List.setIfInBounds_toArray, List.set_cons_zero, List.set_cons_succ]
        refine WalkU.tk 3 rfl ?_ (Or.inl ⟨by rfl, ?_⟩) hHeld ?_
        rotate_left
        · (intro w hSw; (try dsimp only at hSw); go_simp; try with_reducible rfl)
        try simp only [Act.put, List.setIfInBounds_toArray, List.set_cons_zero, List.set_cons_succ]
        refine WalkU.tk 4 rfl ?_ (Or.inl ⟨by rfl, ?_⟩) hHeld ?_
        rotate_left
        · (intro w hSw; (try dsimp only at hSw); go_simp; try with_reducible rfl)
        try simp only [Act.put, List.setIfInBounds_toArray, List.set_cons_zero, List.set_cons_succ]
        refine WalkU.tk 5 rfl ?_ (Or.inl ⟨by rfl, ?_⟩) hHeld ?_
        rotate_left
        · (intro w hSw; (try dsimp only at hSw); go_simp; try with_reducible rfl)
        try simp only [Act.put, List.setIfInBounds_toArray, List.set_cons_zero, List.set_cons_succ]
        refine WalkU.tk 6 rfl ?_ (Or.inl ⟨by rfl, ?_⟩) hHeld ?_
        rotate_left
        · (intro w hSw; (try dsimp only at hSw); go_simp; try with_reducible rfl)
        try simp only [Act.put, List.setIfInBounds_toArray, List.set_cons_zero, List.set_cons_succ]
        refine WalkU.tk 7 rfl ?_ (Or.inl ⟨by rfl, ?_⟩) hHeld ?_
        rotate_left
        · (intro w hSw; (try dsimp only at hSw); go_simp; try with_reducible rfl)
        try simp only [Act.put, List.setIfInBounds_toArray, List.set_cons_zero, List.set_cons_succ]
        refine WalkU.tk 8 rfl ?_ (Or.inl ⟨by rfl, ?_⟩) hHeld ?_
        rotate_left
        · (intro w hSw; (try dsimp only at hSw); go_simp; try with_reducible rfl)
        try simp only [Act.put, List.setIfInBounds_toArray, List.set_cons_zero, List.set_cons_succ]
        refine WalkU.tk 9 rfl ?_ (Or.inl ⟨by rfl, ?_⟩) hHeld ?_
        rotate_left
        · (intro w hSw; (try dsimp only at hSw); go_simp; try with_reducible rfl)
        try simp only [Act.put, List.setIfInBounds_toArray, List.set_cons_zero, List.set_cons_succ]
        refine WalkU.tk 10 rfl undef (Or.inr ⟨by rfl, rfl⟩) hHeld ?_
        try simp only [Act.put, List.setIfInBounds_toArray, List.set_cons_zero, List.set_cons_succ]
        refine WalkU.tk 11 rfl undef (Or.inr ⟨by rfl, rfl⟩) hHeld ?_
        try simp only [Act.put, List.setIfInBounds_toArray, List.set_cons_zero, List.set_cons_succ]
        refine WalkU.tk 13 rfl undef (Or.inr ⟨by rfl, rfl⟩) hHeld ?_
        try simp only [Act.put, List.setIfInBounds_toArray, List.set_cons_zero, List.set_cons_succ]
        refine WalkU.tk 14 rfl undef (Or.inr ⟨by rfl, rfl⟩) hHeld ?_
        try simp only [Act.put, List.setIfInBounds_toArray, List.set_cons_zero, List.set_cons_succ]
        refine WalkU.tk 12 rfl undef (Or.inr ⟨by rfl, rfl⟩) hHeld ?_
        try simp only [Act.put, List.setIfInBounds_toArray, List.set_cons_zero, List.set_cons_succ]
        refine WalkU.tk 15 rfl undef (Or.inr ⟨by rfl, rfl⟩) hHeld ?_
        try simp only [Act.put, List.setIfInBounds_toArray, List.set_cons_zero, List.set_cons_succ]
        refine WalkU.tk 16 rfl undef (Or.inr ⟨by rfl, rfl⟩) hHeld ?_
        try simp only [Act.put, List.setIfInBounds_toArray, List.set_cons_zero, List.set_cons_succ]
        refine WalkU.tk 17 rfl undef (Or.inr ⟨by rfl, rfl⟩) hHeld ?_
        try simp only [Act.put, List.setIfInBounds_toArray, List.set_cons_zero, List.set_cons_succ]
        refine WalkU.tk 18 rfl undef (Or.inr ⟨by rfl, rfl⟩) hHeld ?_
        try simp only [Act.put, List.setIfInBounds_toArray, List.set_cons_zero, List.set_cons_succ]
        refine WalkU.tk 19 rfl undef (Or.inr ⟨by rfl, rfl⟩) hHeld ?_
        try simp only [Act.put, List.setIfInBounds_toArray, List.set_cons_zero, List.set_cons_succ]
        refine WalkU.tk 20 rfl undef (Or.inr ⟨by rfl, rfl⟩) hHeld ?_
        try simp only [Act.put, List.setIfInBounds_toArray, List.set_cons_zero, List.set_cons_succ]
        refine WalkU.tk 21 rfl undef (Or.inr ⟨by rfl, rfl⟩) hHeld ?_
        try simp only [Act.put, List.setIfInBounds_toArray, List.set_cons_zero, List.set_cons_succ]
        refine WalkU.tk 22 rfl ?_ (Or.inl ⟨by rfl, ?_⟩) hHeld ?_
        rotate_left
        · (intro w hSw; (try dsimp only at hSw); go_simp; try with_reducible rfl)
        try simp only [Act.put, List.setIfInBounds_toArray, List.set_cons_zero, List.set_cons_succ]
        refine WalkU.last (i := 23) rfl rfl (by kernel_rfl) (by kernel_rfl) (fun K hK => ?_)
        go_simp
        refine hK.out _ _ ?_
        clear hK K
        try simp only [Act.put, List.setIfInBounds_toArray, List.set_cons_zero, List.set_cons_succ]
        go_wp2_with fail
        go_ret
        exact ⟨rfl, Below.step hT hbW⟩

end Go.Proofs.YtpfklkmmhdpphadGreatDoor
