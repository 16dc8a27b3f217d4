/- The law FnVertices: the walk: for every input it returns true and writes nothing that was there. Conditions: the library's table holds what its initialiser lays. -/
import Derived.Test.YtpfklkmmhdpphaaGreatDoorVLaw
import Derived.Test.YtpfklkmmhdpphaaGreatDoorVDraw3
import Derived.Test.YtpfklkmmhdpphaaGreatDoorVSame
import Derived.Test.YtpfklkmmhdpphaaGreatDoorPSame
import Derived.Test.YtpfklkmmhdpphaaGreatDoorRatTx
import Derived.Lib.QuietBelow
import Derived.Deep.DeepCutAuto
import Derived.Deep.RegionHeld3
namespace Go.Proofs.YtpfklkmmhdpphaaGreatDoor
open Go.RowKit
set_option linter.unusedVariables false
set_option linter.unusedSimpArgs false
set_option maxRecDepth 100000

attribute [local go_sem ↓] Go.wp_at_zero Go.wp_at_succ

set_option maxHeartbeats 16000000 in
theorem lawFnVertices_walk (q0 : Option Addr) (n0 c0 : Nat) (x0 : List Int) (w : World) (fm0 : n0 ≤ 9223372036854775807) (fr0 : BytesZ w q0 n0 x0) (h_tab : TabW w) :
    Calls Tryz.prog 3 #[.slice q0 n0 c0] w fun e w' => e = .returned (.bool true) ∧ Below w.heap.size w w' := by
  by_cases hbig : 1048576 < n0
  · have hd : decide (1048576 < n0) = true := by simpa using hbig
    go_enter Tryz.func3, Tryz.ntmps3
    go_wp2_with (go_at_call 4; (with_reducible refine (big_any _ _ _ _).mono ?_); rintro e w' ⟨rfl, rfl⟩)
    go_ret
    exact ⟨rfl, Below.refl _ _⟩
  · have hd : decide (1048576 < n0) = false := by simpa using hbig
    go_enter Tryz.func3, Tryz.ntmps3
    go_wp2_with (go_at_call 4; (with_reducible refine (big_any _ _ _ _).mono ?_); rintro e w' ⟨rfl, rfl⟩)
    refine (drawVertices_any _ _ _ _ _ (by omega) fr0).mono ?_
    rintro e w' ⟨zr, qr, kr, dr, rs, rfl, ho, zr0, zr4, kr6, lnr, hb⟩
    have hT := hb
    have hr := ho.rd
    clear ho
    have hBx := boxed w' (.cells #[.int .i64 zr, .slice qr kr dr] 26)
    have kR := Box2.new w' (.int .i64 zr) (.slice qr kr dr) 26
    have kRx := kR.c0
    have kRy := kR.c1
    replace hr := hr.below hBx
    replace hT := Below.step hT hBx
    clear hBx
    go_wp2_with fail
    generalize (w'.alloc (.cells #[.int .i64 zr, .slice qr kr dr] 26)) = V1 at *
    generalize w'.heap.size = bR at *
    refine (implVertices_any _ _ _ _ _ _ (by omega) hr).mono ?_
    rintro e w' ⟨ql, nl, dl, rfl, ho, hb⟩
    replace hr := hr.below hb
    replace kR := kR.below hb
    replace kRx := kR.c0
    replace kRy := kR.c1
    replace hT := Below.step hT hb
    have hl := ho.rd
    have sl := ho.small
    have ll := Lib.hid hl.len
    clear ho hb
    go_wp2_with fail
    refine (drawHasRat_any _ _ _ _ _ (by omega) (fr0.below hT)).mono ?_
    rintro e w' ⟨za, qa, ka, da, as_, qp, np, dp_, xp, ap, rfl, ha, ka6, hp, np9, hb⟩
    replace hr := hr.below hb
    replace hl := hl.below hb
    replace kR := kR.below hb
    replace kRx := kR.c0
    replace kRy := kR.c1
    replace hT := Below.step hT hb
    clear hb
    have hBx := boxed w' (.cells #[.int .i64 za, .slice qa ka da] 26)
    have kA := Box2.new w' (.int .i64 za) (.slice qa ka da) 26
    have kAx := kA.c0
    have kAy := kA.c1
    replace hr := hr.below hBx
    replace hl := hl.below hBx
    replace ha := ha.below hBx
    replace hp := hp.below hBx
    replace kR := kR.below hBx
    replace kRx := kR.c0
    replace kRy := kR.c1
    replace hT := Below.step hT hBx
    clear hBx
    have hBx := boxed (w'.alloc (.cells #[.int .i64 za, .slice qa ka da] 26)) (.cells #[.slice qp np dp_, .int .i64 ap] 32)
    have kP := Box2.new (w'.alloc (.cells #[.int .i64 za, .slice qa ka da] 26)) (.slice qp np dp_) (.int .i64 ap) 32
    have kPx := kP.c0
    have kPy := kP.c1
    replace hr := hr.below hBx
    replace hl := hl.below hBx
    replace ha := ha.below hBx
    replace hp := hp.below hBx
    replace kR := kR.below hBx
    replace kA := kA.below hBx
    replace kRx := kR.c0
    replace kRy := kR.c1
    replace kAx := kA.c0
    replace kAy := kA.c1
    replace hT := Below.step hT hBx
    clear hBx
    rw [show ((w'.alloc (.cells #[.int .i64 za, .slice qa ka da] 26))).heap.size = w'.heap.size + 1 by simp] at kP
    replace kPx := kP.c0
    replace kPy := kP.c1
    go_wp2_with fail
    generalize ((w'.alloc (.cells #[.int .i64 za, .slice qa ka da] 26)).alloc (.cells #[.slice qp np dp_, .int .i64 ap] 32)) = V2 at *
    generalize w'.heap.size = bA at *
    refine (drawCompare_any _ _ _ _ _ (by omega) (fr0.below hT)).mono ?_
    rintro e w' ⟨qb, nb, db, xb, ab, qc, nc, dc, xc, ac, rfl, hB, nb3, hC, nc3, hb⟩
    replace hr := hr.below hb
    replace hl := hl.below hb
    replace ha := ha.below hb
    replace hp := hp.below hb
    replace kR := kR.below hb
    replace kA := kA.below hb
    replace kP := kP.below hb
    replace kRx := kR.c0
    replace kRy := kR.c1
    replace kAx := kA.c0
    replace kAy := kA.c1
    replace kPx := kP.c0
    replace kPy := kP.c1
    replace hT := Below.step hT hb
    clear hb
    have hBx := boxed w' (.cells #[.slice qb nb db, .int .i64 ab] 32)
    have kB := Box2.new w' (.slice qb nb db) (.int .i64 ab) 32
    have kBx := kB.c0
    have kBy := kB.c1
    replace hr := hr.below hBx
    replace hl := hl.below hBx
    replace ha := ha.below hBx
    replace hp := hp.below hBx
    replace hB := hB.below hBx
    replace hC := hC.below hBx
    replace kR := kR.below hBx
    replace kA := kA.below hBx
    replace kP := kP.below hBx
    replace kRx := kR.c0
    replace kRy := kR.c1
    replace kAx := kA.c0
    replace kAy := kA.c1
    replace kPx := kP.c0
    replace kPy := kP.c1
    replace hT := Below.step hT hBx
    clear hBx
    have hBx := boxed (w'.alloc (.cells #[.slice qb nb db, .int .i64 ab] 32)) (.cells #[.slice qc nc dc, .int .i64 ac] 32)
    have kC := Box2.new (w'.alloc (.cells #[.slice qb nb db, .int .i64 ab] 32)) (.slice qc nc dc) (.int .i64 ac) 32
    have kCx := kC.c0
    have kCy := kC.c1
    replace hr := hr.below hBx
    replace hl := hl.below hBx
    replace ha := ha.below hBx
    replace hp := hp.below hBx
    replace hB := hB.below hBx
    replace hC := hC.below hBx
    replace kR := kR.below hBx
    replace kA := kA.below hBx
    replace kP := kP.below hBx
    replace kB := kB.below hBx
    replace kRx := kR.c0
    replace kRy := kR.c1
    replace kAx := kA.c0
    replace kAy := kA.c1
    replace kPx := kP.c0
    replace kPy := kP.c1
    replace kBx := kB.c0
    replace kBy := kB.c1
    replace hT := Below.step hT hBx
    clear hBx
    rw [show ((w'.alloc (.cells #[.slice qb nb db, .int .i64 ab] 32))).heap.size = w'.heap.size + 1 by simp] at kC
    replace kCx := kC.c0
    replace kCy := kC.c1
    go_wp2_with fail
    generalize ((w'.alloc (.cells #[.slice qb nb db, .int .i64 ab] 32)).alloc (.cells #[.slice qc nc dc, .int .i64 ac] 32)) = V3 at *
    generalize w'.heap.size = bB at *
    refine (drawRatText_any _ _ _ _ _ (by omega) (fr0.below hT)).mono ?_
    rintro e w' ⟨qt, nt, dt, xt, at_, rfl, ht, nt3, at0, at1, htb, hb⟩
    replace hr := hr.below hb
    replace hl := hl.below hb
    replace ha := ha.below hb
    replace hp := hp.below hb
    replace hB := hB.below hb
    replace hC := hC.below hb
    replace kR := kR.below hb
    replace kA := kA.below hb
    replace kP := kP.below hb
    replace kB := kB.below hb
    replace kC := kC.below hb
    replace kRx := kR.c0
    replace kRy := kR.c1
    replace kAx := kA.c0
    replace kAy := kA.c1
    replace kPx := kP.c0
    replace kPy := kP.c1
    replace kBx := kB.c0
    replace kBy := kB.c1
    replace kCx := kC.c0
    replace kCy := kC.c1
    replace hT := Below.step hT hb
    clear hb
    have hBx := boxed w' (.cells #[.slice qt nt dt, .int .i64 at_] 32)
    have kT := Box2.new w' (.slice qt nt dt) (.int .i64 at_) 32
    have kTx := kT.c0
    have kTy := kT.c1
    replace hr := hr.below hBx
    replace hl := hl.below hBx
    replace ha := ha.below hBx
    replace hp := hp.below hBx
    replace hB := hB.below hBx
    replace hC := hC.below hBx
    replace ht := ht.below hBx
    replace kR := kR.below hBx
    replace kA := kA.below hBx
    replace kP := kP.below hBx
    replace kB := kB.below hBx
    replace kC := kC.below hBx
    replace kRx := kR.c0
    replace kRy := kR.c1
    replace kAx := kA.c0
    replace kAy := kA.c1
    replace kPx := kP.c0
    replace kPy := kP.c1
    replace kBx := kB.c0
    replace kBy := kB.c1
    replace kCx := kC.c0
    replace kCy := kC.c1
    replace hT := Below.step hT hBx
    clear hBx
    have htab := h_tab.below hT
    have hta : Hid (AllIn xt) := Lib.hid fun j hj => by rw [ht.len] at hj; have := htb.out j hj; omega
    obtain ⟨C1, hC1⟩ : ∃ C1, C1 = cmpRat xb ab xc ac := ⟨_, rfl⟩
    have hC2 := cmpRat_swap xb ab xc ac
    have hC3 := cmpRat_in xb ab xc ac
    rw [← hC1] at hC2 hC3
    have HC1 := Lib.hid hC1
    have HC2 := Lib.hid hC2
    have hwn : IntKind.i64.wrap (-C1) = -C1 := by rw [wrapEq]; exact wrap64_id (by omega) (by omega)
    clear hC1 hC2 hC3
    clear fr0 h_tab
    go_upto_region 8 with fail
    generalize (w'.alloc (.cells #[.slice qt nt dt, .int .i64 at_] 32)) = U at *
    generalize w'.heap.size = bT at *
    go_cut [77] (fun v wx => v = .bool false ∧ Below U.heap.size U wx)
    case first =>
      as_aux_lemma =>
        have hc := Below.refl U.heap.size U
        have hb := drewBelow U
        replace hr := hr.below hb
        replace hl := hl.below hb
        replace ha := ha.below hb
        replace hp := hp.below hb
        replace hB := hB.below hb
        replace hC := hC.below hb
        replace ht := ht.below hb
        replace kR := kR.below hb
        replace kA := kA.below hb
        replace kP := kP.below hb
        replace kB := kB.below hb
        replace kC := kC.below hb
        replace kT := kT.below hb
        replace htab := htab.below hb
        replace kRx := kR.c0
        replace kRy := kR.c1
        replace kAx := kA.c0
        replace kAy := kA.c1
        replace kPx := kP.c0
        replace kPy := kP.c1
        replace kBx := kB.c0
        replace kBy := kB.c1
        replace kCx := kC.c0
        replace kCy := kC.c1
        replace kTx := kT.c0
        replace kTy := kT.c1
        replace hc := Below.step hc hb
        go_region_held3 (fun w' => w'.cell? ⟨bR, 0, none⟩ = some (.int .i64 zr) ∧ w'.cell? ⟨bR, 1, none⟩ = some (.slice qr kr dr) ∧ w'.cell? ⟨bA, 0, none⟩ = some (.int .i64 za) ∧ w'.cell? ⟨bA, 1, none⟩ = some (.slice qa ka da) ∧ w'.cell? ⟨bA + 1, 0, none⟩ = some (.slice qp np dp_) ∧ w'.cell? ⟨bA + 1, 1, none⟩ = some (.int .i64 ap) ∧ w'.cell? ⟨bB, 0, none⟩ = some (.slice qb nb db) ∧ w'.cell? ⟨bB, 1, none⟩ = some (.int .i64 ab) ∧ w'.cell? ⟨bB + 1, 0, none⟩ = some (.slice qc nc dc) ∧ w'.cell? ⟨bB + 1, 1, none⟩ = some (.int .i64 ac) ∧ w'.cell? ⟨bT, 0, none⟩ = some (.slice qt nt dt) ∧ w'.cell? ⟨bT, 1, none⟩ = some (.int .i64 at_)) (first | exact ⟨kRx, kRy, kAx, kAy, kPx, kPy, kBx, kBy, kCx, kCy, kTx, kTy⟩) (first | (go_simp; go_at_call 11; (with_reducible refine (specVertices_any _ _ _ _ _ _ (by omega) hr).mono ?_); rintro e w' ⟨qm, nm, dm, rfl, ho, hb⟩; replace hr := hr.below hb; replace hl := hl.below hb; replace ha := ha.below hb; replace hp := hp.below hb; replace hB := hB.below hb; replace hC := hC.below hb; replace ht := ht.below hb; replace kR := kR.below hb; replace kA := kA.below hb; replace kP := kP.below hb; replace kB := kB.below hb; replace kC := kC.below hb; replace kT := kT.below hb; replace htab := htab.below hb; replace kRx := kR.c0; replace kRy := kR.c1; replace kAx := kA.c0; replace kAy := kA.c1; replace kPx := kP.c0; replace kPy := kP.c1; replace kBx := kB.c0; replace kBy := kB.c1; replace kCx := kC.c0; replace kCy := kC.c1; replace kTx := kT.c0; replace kTy := kT.c1; replace hc := Below.step hc hb; have hm := ho.rd; obtain rfl : nm = nl := (by rw [← hm.len, ← hl.len])) | (go_simp; go_at_call 10; (with_reducible refine (sameRats_self _ _ _ _ _ _ _ sl hl hm).mono ?_); rintro e w' ⟨rfl, hb⟩; replace hr := hr.below hb; replace hl := hl.below hb; replace ha := ha.below hb; replace hp := hp.below hb; replace hB := hB.below hb; replace hC := hC.below hb; replace ht := ht.below hb; replace kR := kR.below hb; replace kA := kA.below hb; replace kP := kP.below hb; replace kB := kB.below hb; replace kC := kC.below hb; replace kT := kT.below hb; replace htab := htab.below hb; replace kRx := kR.c0; replace kRy := kR.c1; replace kAx := kA.c0; replace kAy := kA.c1; replace kPx := kP.c0; replace kPy := kP.c1; replace kBx := kB.c0; replace kBy := kB.c1; replace kCx := kC.c0; replace kCy := kC.c1; replace kTx := kT.c0; replace kTy := kT.c1; replace hc := Below.step hc hb) | (go_simp; go_at_call 12; (with_reducible refine (implWhole_any _ _ _ _ _ _ (by omega) hr).mono ?_); rintro e w' ⟨rfl, hb⟩; replace hr := hr.below hb; replace hl := hl.below hb; replace ha := ha.below hb; replace hp := hp.below hb; replace hB := hB.below hb; replace hC := hC.below hb; replace ht := ht.below hb; replace kR := kR.below hb; replace kA := kA.below hb; replace kP := kP.below hb; replace kB := kB.below hb; replace kC := kC.below hb; replace kT := kT.below hb; replace htab := htab.below hb; replace kRx := kR.c0; replace kRy := kR.c1; replace kAx := kA.c0; replace kAy := kA.c1; replace kPx := kP.c0; replace kPy := kP.c1; replace kBx := kB.c0; replace kBy := kB.c1; replace kCx := kC.c0; replace kCy := kC.c1; replace kTx := kT.c0; replace kTy := kT.c1; replace hc := Below.step hc hb) | (go_simp; go_at_call 13; (with_reducible refine (specWhole_any _ _ _ _ _ _ (by omega) hr).mono ?_); rintro e w' ⟨rfl, hb⟩; replace hr := hr.below hb; replace hl := hl.below hb; replace ha := ha.below hb; replace hp := hp.below hb; replace hB := hB.below hb; replace hC := hC.below hb; replace ht := ht.below hb; replace kR := kR.below hb; replace kA := kA.below hb; replace kP := kP.below hb; replace kB := kB.below hb; replace kC := kC.below hb; replace kT := kT.below hb; replace htab := htab.below hb; replace kRx := kR.c0; replace kRy := kR.c1; replace kAx := kA.c0; replace kAy := kA.c1; replace kPx := kP.c0; replace kPy := kP.c1; replace kBx := kB.c0; replace kBy := kB.c1; replace kCx := kC.c0; replace kCy := kC.c1; replace kTx := kT.c0; replace kTy := kT.c1; replace hc := Below.step hc hb) | (go_simp; go_at_call 14; (with_reducible refine (implHasRat_any _ _ _ _ _ _ _ _ _ _ _ (by omega) np9 ha hp).mono ?_); rintro e w' ⟨rfl, hb⟩; replace hr := hr.below hb; replace hl := hl.below hb; replace ha := ha.below hb; replace hp := hp.below hb; replace hB := hB.below hb; replace hC := hC.below hb; replace ht := ht.below hb; replace kR := kR.below hb; replace kA := kA.below hb; replace kP := kP.below hb; replace kB := kB.below hb; replace kC := kC.below hb; replace kT := kT.below hb; replace htab := htab.below hb; replace kRx := kR.c0; replace kRy := kR.c1; replace kAx := kA.c0; replace kAy := kA.c1; replace kPx := kP.c0; replace kPy := kP.c1; replace kBx := kB.c0; replace kBy := kB.c1; replace kCx := kC.c0; replace kCy := kC.c1; replace kTx := kT.c0; replace kTy := kT.c1; replace hc := Below.step hc hb) | (go_simp; go_at_call 15; (with_reducible refine (specHasRat_any _ _ _ _ _ _ _ _ _ _ _ (by omega) np9 ha hp).mono ?_); rintro e w' ⟨rfl, hb⟩; replace hr := hr.below hb; replace hl := hl.below hb; replace ha := ha.below hb; replace hp := hp.below hb; replace hB := hB.below hb; replace hC := hC.below hb; replace ht := ht.below hb; replace kR := kR.below hb; replace kA := kA.below hb; replace kP := kP.below hb; replace kB := kB.below hb; replace kC := kC.below hb; replace kT := kT.below hb; replace htab := htab.below hb; replace kRx := kR.c0; replace kRy := kR.c1; replace kAx := kA.c0; replace kAy := kA.c1; replace kPx := kP.c0; replace kPy := kP.c1; replace kBx := kB.c0; replace kBy := kB.c1; replace kCx := kC.c0; replace kCy := kC.c1; replace kTx := kT.c0; replace kTy := kT.c1; replace hc := Below.step hc hb) | (go_simp; go_at_call 16; (with_reducible refine (implCompareRat_any _ _ _ _ _ _ _ _ _ _ _ (by omega) (by omega) hB hC).mono ?_); rw [← HC1.out]; rintro e w' ⟨rfl, hb⟩; replace hr := hr.below hb; replace hl := hl.below hb; replace ha := ha.below hb; replace hp := hp.below hb; replace hB := hB.below hb; replace hC := hC.below hb; replace ht := ht.below hb; replace kR := kR.below hb; replace kA := kA.below hb; replace kP := kP.below hb; replace kB := kB.below hb; replace kC := kC.below hb; replace kT := kT.below hb; replace htab := htab.below hb; replace kRx := kR.c0; replace kRy := kR.c1; replace kAx := kA.c0; replace kAy := kA.c1; replace kPx := kP.c0; replace kPy := kP.c1; replace kBx := kB.c0; replace kBy := kB.c1; replace kCx := kC.c0; replace kCy := kC.c1; replace kTx := kT.c0; replace kTy := kT.c1; replace hc := Below.step hc hb) | (go_simp; go_at_call 16; (with_reducible refine (implCompareRat_any _ _ _ _ _ _ _ _ _ _ _ (by omega) (by omega) hC hB).mono ?_); rw [HC2.out]; rintro e w' ⟨rfl, hb⟩; replace hr := hr.below hb; replace hl := hl.below hb; replace ha := ha.below hb; replace hp := hp.below hb; replace hB := hB.below hb; replace hC := hC.below hb; replace ht := ht.below hb; replace kR := kR.below hb; replace kA := kA.below hb; replace kP := kP.below hb; replace kB := kB.below hb; replace kC := kC.below hb; replace kT := kT.below hb; replace htab := htab.below hb; replace kRx := kR.c0; replace kRy := kR.c1; replace kAx := kA.c0; replace kAy := kA.c1; replace kPx := kP.c0; replace kPy := kP.c1; replace kBx := kB.c0; replace kBy := kB.c1; replace kCx := kC.c0; replace kCy := kC.c1; replace kTx := kT.c0; replace kTy := kT.c1; replace hc := Below.step hc hb) | (go_simp; go_at_call 17; (with_reducible refine (specCompareRat_any _ _ _ _ _ _ _ _ _ _ _ (by omega) (by omega) hB hC).mono ?_); rw [← HC1.out]; rintro e w' ⟨rfl, hb⟩; replace hr := hr.below hb; replace hl := hl.below hb; replace ha := ha.below hb; replace hp := hp.below hb; replace hB := hB.below hb; replace hC := hC.below hb; replace ht := ht.below hb; replace kR := kR.below hb; replace kA := kA.below hb; replace kP := kP.below hb; replace kB := kB.below hb; replace kC := kC.below hb; replace kT := kT.below hb; replace htab := htab.below hb; replace kRx := kR.c0; replace kRy := kR.c1; replace kAx := kA.c0; replace kAy := kA.c1; replace kPx := kP.c0; replace kPy := kP.c1; replace kBx := kB.c0; replace kBy := kB.c1; replace kCx := kC.c0; replace kCy := kC.c1; replace kTx := kT.c0; replace kTy := kT.c1; replace hc := Below.step hc hb) | (go_simp; go_at_call 18; (with_reducible refine (implRatText_any _ _ _ _ _ _ ht (by omega) hta.out (by omega) (by omega) htab).mono ?_); rintro e w' ⟨rfl, hb⟩; replace hr := hr.below hb; replace hl := hl.below hb; replace ha := ha.below hb; replace hp := hp.below hb; replace hB := hB.below hb; replace hC := hC.below hb; replace ht := ht.below hb; replace kR := kR.below hb; replace kA := kA.below hb; replace kP := kP.below hb; replace kB := kB.below hb; replace kC := kC.below hb; replace kT := kT.below hb; replace htab := htab.below hb; replace kRx := kR.c0; replace kRy := kR.c1; replace kAx := kA.c0; replace kAy := kA.c1; replace kPx := kP.c0; replace kPy := kP.c1; replace kBx := kB.c0; replace kBy := kB.c1; replace kCx := kC.c0; replace kCy := kC.c1; replace kTx := kT.c0; replace kTy := kT.c1; replace hc := Below.step hc hb) | (go_simp; go_at_call 19; (with_reducible refine (specRatText_any _ _ _ _ _ _ ht (by omega) hta.out (by omega) (by omega)).mono ?_); rintro e w' ⟨rfl, hb⟩; replace hr := hr.below hb; replace hl := hl.below hb; replace ha := ha.below hb; replace hp := hp.below hb; replace hB := hB.below hb; replace hC := hC.below hb; replace ht := ht.below hb; replace kR := kR.below hb; replace kA := kA.below hb; replace kP := kP.below hb; replace kB := kB.below hb; replace kC := kC.below hb; replace kT := kT.below hb; replace htab := htab.below hb; replace kRx := kR.c0; replace kRy := kR.c1; replace kAx := kA.c0; replace kAy := kA.c1; replace kPx := kP.c0; replace kPy := kP.c1; replace kBx := kB.c0; replace kBy := kB.c1; replace kCx := kC.c0; replace kCy := kC.c1; replace kTx := kT.c0; replace kTy := kT.c1; replace hc := Below.step hc hb))
        all_goals
          go_wp2_with fail
          go_meet
          exact ⟨rfl, hc⟩
    obtain ⟨rfl, hb⟩ := hcut
    clear ha hp hB hC ht kA kP kB kC kT kAx kAy kPx kPy kBx kBy kCx kCy kTx kTy htab hta HC1 HC2 hwn htb
    replace hr := hr.below hb
    replace hl := hl.below hb
    replace kR := kR.below hb
    replace kRx := kR.c0
    replace kRy := kR.c1
    replace hT := Below.step hT hb
    clear hb
    generalize wc = U2 at *
    have hrl := Lib.hid hr.len
    go_wp2_with fail
    go_loopw [10] (fun i wr => ∃ k : Nat, k ≤ nl ∧ i = .int .i64 k ∧ Below U2.heap.size U2 wr) (fun i _ => nl - (intOf i).toNat)
    case atStart => exact ⟨0, Nat.zero_le _, rfl, Below.refl _ _⟩
    case round =>
      obtain ⟨k, hk, rfl, hbU⟩ := hrel
      have hTW := Below.step hT hbU
      have hrW := hr.below hbU
      have hlW := hl.below hbU
      have kRW := kR.below hbU
      have kW0 := kRW.c0
      have kW1 := kRW.c1
      by_cases hlt : k < nl
      · have hdk : decide ((k : Int) < (nl : Int)) = true := by simp; omega
        have hkm : k < (vtxV zr rs).length := by rw [ll.out]; exact hlt
        have Hhas : Hid (hasRat zr rs (nrm (vtxV zr rs) k) (bnd (vtxV zr rs) k) = true) := Lib.hid (vtx_has (prAt_mem hkm))
        have Heq : Hid (zr ≤ eqTo rs (nrm (vtxV zr rs) k) (bnd (vtxV zr rs) k) rs.length) := Lib.hid (vtx_equal (prAt_mem hkm))
        have Hwh : Hid (bnd (vtxV zr rs) k = 1 → isVec (nrm (vtxV zr rs) k) = true → hasPt zr rs (nrm (vtxV zr rs) k) = true) := Lib.hid (fun h1 h2 => vtx_whole (prAt_mem hkm) h1 h2)
        have Hlen : Hid (∀ m, m < rs.length → (nrm rs m).length = (nrm (vtxV zr rs) k).length) := Lib.hid (fun m hm => vtx_len (prAt_mem hkm) hm)
        generalize wr = W at *
        obtain ⟨bl, ol, qk, mk, dk_, eql, hc0, hc1, hmd, hd9, hik⟩ := hlW.cell k hlt
        subst eql
        have hz1 : (0 : Int) ≤ (k : Int) := by omega
        have hz2 : (k : Int) < (nl : Int) := by omega
        have hmk : mk ≤ 9223372036854775807 := by omega
        clear hmd hd9
        go_wp2_with fail
        go_cut [133] (fun v wx => v = .bool false ∧ Below W.heap.size W wx)
        case first =>
          by_cases hk0 : k = 0
          · subst hk0
            rw [Nat.zero_mul, Nat.add_zero] at hc0 hc1
            generalize nrm (vtxV zr rs) 0 = xk at *
            generalize bnd (vtxV zr rs) 0 = dk at *
            clear Heq Hlen
            by_cases hden : dk = 1
            · subst hden
              cases hpt : hasPt zr rs xk
              · have HIV : Hid (isVec xk = false) := Lib.hid (by
                  cases hv : isVec xk
                  · rfl
                  · have := Hwh.out rfl hv
                    rw [hpt] at this; cases this)
                have HPT := Lib.hid hpt
                clear hpt Hwh
                as_aux_lemma =>
                  have hrD := hrW.drew
                  have hiD := hik.drew
                  have hbW := drewBelow W
                  refine wp_region_u 49 50 (fun w' => w'.cell? ⟨bR, 0, none⟩ = some (.int .i64 zr) ∧ w'.cell? ⟨bR, 1, none⟩ = some (.slice qr kr dr) ∧ w'.cell? ⟨bl, ol, none⟩ = some (.slice qk mk dk_) ∧ w'.cell? ⟨bl, ol + 1, none⟩ = some (.int .i64 1)) (by kernel_rfl) rfl (by (try dsimp only); exact ⟨kW0, kW1, hc0, hc1⟩) (fun hHeld => ?_)
                  refine WalkU.tk 0 rfl ?_ (Or.inl ⟨by rfl, ?_⟩) hHeld ?_
                  rotate_left
                  · (intro w hSw; (try dsimp only at hSw); go_simp; try with_reducible rfl)
                  try simp only [Act.put, List.setIfInBounds_toArray, List.set_cons_zero, List.set_cons_succ]
                  refine WalkU.tk 1 rfl ?_ (Or.inl ⟨by rfl, ?_⟩) hHeld ?_
                  rotate_left
                  · (intro w hSw; (try dsimp only at hSw); go_simp; try with_reducible rfl)
                  try simp only [Act.put, List.setIfInBounds_toArray, List.set_cons_zero, List.set_cons_succ]
                  refine WalkU.tk 2 rfl ?_ (Or.inl ⟨by rfl, ?_⟩) hHeld ?_
                  rotate_left
                  · (intro w hSw; (try dsimp only at hSw); go_simp; try with_reducible rfl)
                  try simp only [Act.put, List.setIfInBounds_toArray, List.set_cons_zero, List.set_cons_succ]
                  refine WalkU.tk 3 rfl ?_ (Or.inl ⟨by rfl, ?_⟩) hHeld ?_
                  rotate_left
                  · (intro w hSw; (try dsimp only at hSw); go_simp; try with_reducible rfl)
                  try simp only [Act.put, List.setIfInBounds_toArray, List.set_cons_zero, List.set_cons_succ]
                  refine WalkU.tk 4 rfl ?_ (Or.inl ⟨by rfl, ?_⟩) hHeld ?_
                  rotate_left
                  · (intro w hSw; (try dsimp only at hSw); go_simp; try with_reducible rfl)
                  try simp only [Act.put, List.setIfInBounds_toArray, List.set_cons_zero, List.set_cons_succ]
                  refine WalkU.one (i := 5) rfl (by kernel_rfl) (fun K hK => ?_)
                  first
                    | (first | (go_at_call 14; (with_reducible refine (implHasRat_any _ _ _ _ _ _ _ _ _ _ _ (by omega) hmk hrD hiD).mono ?_); rw [Hhas.out]; rintro e w5 ⟨rfl, hb5⟩; replace hrD := hrD.below hb5; replace hiD := hiD.below hb5; replace kW0 := (hb5.cell (World.block_lt_of_cell? _ _ kW0)).trans kW0; replace kW1 := (hb5.cell (World.block_lt_of_cell? _ _ kW1)).trans kW1; replace hc0 := (hb5.cell (World.block_lt_of_cell? _ _ hc0)).trans hc0; replace hc1 := (hb5.cell (World.block_lt_of_cell? _ _ hc1)).trans hc1; replace hbW := Below.step hbW hb5) | (go_at_call 20; (with_reducible refine (implHas_any _ _ _ _ _ _ _ _ _ _ (by omega) hmk hrD hiD).mono ?_); rw [HPT.out]; rintro e w5 ⟨rfl, hb5⟩; replace hrD := hrD.below hb5; replace hiD := hiD.below hb5; replace kW0 := (hb5.cell (World.block_lt_of_cell? _ _ kW0)).trans kW0; replace kW1 := (hb5.cell (World.block_lt_of_cell? _ _ kW1)).trans kW1; replace hc0 := (hb5.cell (World.block_lt_of_cell? _ _ hc0)).trans hc0; replace hc1 := (hb5.cell (World.block_lt_of_cell? _ _ hc1)).trans hc1; replace hbW := Below.step hbW hb5) | (go_at_call 21; (with_reducible refine (specIsVector_any _ _ _ _ _ hiD hmk).mono ?_); rw [HIV.out]; rintro e w5 ⟨rfl, rfl⟩))
                    | (go_simp; (first | (go_at_call 14; (with_reducible refine (implHasRat_any _ _ _ _ _ _ _ _ _ _ _ (by omega) hmk hrD hiD).mono ?_); rw [Hhas.out]; rintro e w5 ⟨rfl, hb5⟩; replace hrD := hrD.below hb5; replace hiD := hiD.below hb5; replace kW0 := (hb5.cell (World.block_lt_of_cell? _ _ kW0)).trans kW0; replace kW1 := (hb5.cell (World.block_lt_of_cell? _ _ kW1)).trans kW1; replace hc0 := (hb5.cell (World.block_lt_of_cell? _ _ hc0)).trans hc0; replace hc1 := (hb5.cell (World.block_lt_of_cell? _ _ hc1)).trans hc1; replace hbW := Below.step hbW hb5) | (go_at_call 20; (with_reducible refine (implHas_any _ _ _ _ _ _ _ _ _ _ (by omega) hmk hrD hiD).mono ?_); rw [HPT.out]; rintro e w5 ⟨rfl, hb5⟩; replace hrD := hrD.below hb5; replace hiD := hiD.below hb5; replace kW0 := (hb5.cell (World.block_lt_of_cell? _ _ kW0)).trans kW0; replace kW1 := (hb5.cell (World.block_lt_of_cell? _ _ kW1)).trans kW1; replace hc0 := (hb5.cell (World.block_lt_of_cell? _ _ hc0)).trans hc0; replace hc1 := (hb5.cell (World.block_lt_of_cell? _ _ hc1)).trans hc1; replace hbW := Below.step hbW hb5) | (go_at_call 21; (with_reducible refine (specIsVector_any _ _ _ _ _ hiD hmk).mono ?_); rw [HIV.out]; rintro e w5 ⟨rfl, rfl⟩)))
                  refine hK.out _ _ ?_ (fun hHeld => ?_)
                  · ((try dsimp only); exact ⟨kW0, kW1, hc0, hc1⟩)
                  clear hK K
                  try simp only [Act.put, List.setIfInBounds_toArray, List.set_cons_zero, List.set_cons_succ]
                  refine WalkU.tk 6 rfl ?_ (Or.inl ⟨by rfl, ?_⟩) hHeld ?_
                  rotate_left
                  · (intro w hSw; (try dsimp only at hSw); go_simp; try with_reducible rfl)
                  try simp only [Act.put, List.setIfInBounds_toArray, List.set_cons_zero, List.set_cons_succ]
                  refine WalkU.tk 7 rfl ?_ (Or.inl ⟨by rfl, ?_⟩) hHeld ?_
                  rotate_left
                  · (intro w hSw; (try dsimp only at hSw); go_simp; try with_reducible rfl)
                  try simp only [Act.put, List.setIfInBounds_toArray, List.set_cons_zero, List.set_cons_succ]
                  refine WalkU.tk 8 rfl ?_ (Or.inl ⟨by rfl, ?_⟩) hHeld ?_
                  rotate_left
                  · (intro w hSw; (try dsimp only at hSw); go_simp; try with_reducible rfl)
                  try simp only [Act.put, List.setIfInBounds_toArray, List.set_cons_zero, List.set_cons_succ]
                  refine WalkU.tk 9 rfl ?_ (Or.inl ⟨by rfl, ?_⟩) hHeld ?_
                  rotate_left
                  · (intro w hSw; (try dsimp only at hSw); go_simp; try with_reducible rfl)
                  try simp only [Act.put, List.setIfInBounds_toArray, List.set_cons_zero, List.set_cons_succ]
                  refine WalkU.tk 10 rfl ?_ (Or.inl ⟨by rfl, ?_⟩) hHeld ?_
                  rotate_left
                  · (intro w hSw; (try dsimp only at hSw); go_simp; try with_reducible rfl)
                  try simp only [Act.put, List.setIfInBounds_toArray, List.set_cons_zero, List.set_cons_succ]
                  refine WalkU.tk 11 rfl undef (Or.inr ⟨by rfl, rfl⟩) hHeld ?_
                  try simp only [Act.put, List.setIfInBounds_toArray, List.set_cons_zero, List.set_cons_succ]
                  refine WalkU.tk 12 rfl undef (Or.inr ⟨by rfl, rfl⟩) hHeld ?_
                  try simp only [Act.put, List.setIfInBounds_toArray, List.set_cons_zero, List.set_cons_succ]
                  refine WalkU.tk 13 rfl undef (Or.inr ⟨by rfl, rfl⟩) hHeld ?_
                  try simp only [Act.put, List.setIfInBounds_toArray, List.set_cons_zero, List.set_cons_succ]
                  refine WalkU.tk 14 rfl undef (Or.inr ⟨by rfl, rfl⟩) hHeld ?_
                  try simp only [Act.put, List.setIfInBounds_toArray, List.set_cons_zero, List.set_cons_succ]
                  refine WalkU.tk 15 rfl undef (Or.inr ⟨by rfl, rfl⟩) hHeld ?_
                  try simp only [Act.put, List.setIfInBounds_toArray, List.set_cons_zero, List.set_cons_succ]
                  refine WalkU.tk 16 rfl undef (Or.inr ⟨by rfl, rfl⟩) hHeld ?_
                  try simp only [Act.put, List.setIfInBounds_toArray, List.set_cons_zero, List.set_cons_succ]
                  refine WalkU.tk 17 rfl undef (Or.inr ⟨by rfl, rfl⟩) hHeld ?_
                  try simp only [Act.put, List.setIfInBounds_toArray, List.set_cons_zero, List.set_cons_succ]
                  refine WalkU.tk 18 rfl undef (Or.inr ⟨by rfl, rfl⟩) hHeld ?_
                  try simp only [Act.put, List.setIfInBounds_toArray, List.set_cons_zero, List.set_cons_succ]
                  refine WalkU.tk 19 rfl undef (Or.inr ⟨by rfl, rfl⟩) hHeld ?_
                  try simp only [Act.put, List.setIfInBounds_toArray, List.set_cons_zero, List.set_cons_succ]
                  refine WalkU.tk 20 rfl undef (Or.inr ⟨by rfl, rfl⟩) hHeld ?_
                  try simp only [Act.put, List.setIfInBounds_toArray, List.set_cons_zero, List.set_cons_succ]
                  refine WalkU.tk 21 rfl undef (Or.inr ⟨by rfl, rfl⟩) hHeld ?_
                  try simp only [Act.put, List.setIfInBounds_toArray, List.set_cons_zero, List.set_cons_succ]
                  refine WalkU.tk 22 rfl ?_ (Or.inl ⟨by rfl, ?_⟩) hHeld ?_
                  rotate_left
                  · (intro w hSw; (try dsimp only at hSw); go_simp; try with_reducible rfl)
                  try simp only [Act.put, List.setIfInBounds_toArray, List.set_cons_zero, List.set_cons_succ]
                  refine WalkU.tk 23 rfl ?_ (Or.inl ⟨by rfl, ?_⟩) hHeld ?_
                  rotate_left
                  · (intro w hSw; (try dsimp only at hSw); go_simp; try with_reducible rfl)
                  try simp only [Act.put, List.setIfInBounds_toArray, List.set_cons_zero, List.set_cons_succ]
                  refine WalkU.tk 24 rfl ?_ (Or.inl ⟨by rfl, ?_⟩) hHeld ?_
                  rotate_left
                  · (intro w hSw; (try dsimp only at hSw); go_simp; try with_reducible rfl)
                  try simp only [Act.put, List.setIfInBounds_toArray, List.set_cons_zero, List.set_cons_succ]
                  refine WalkU.tk 25 rfl ?_ (Or.inl ⟨by rfl, ?_⟩) hHeld ?_
                  rotate_left
                  · (intro w hSw; (try dsimp only at hSw); go_simp; try with_reducible rfl)
                  try simp only [Act.put, List.setIfInBounds_toArray, List.set_cons_zero, List.set_cons_succ]
                  refine WalkU.tk 26 rfl ?_ (Or.inl ⟨by rfl, ?_⟩) hHeld ?_
                  rotate_left
                  · (intro w hSw; (try dsimp only at hSw); go_simp; try with_reducible rfl)
                  try simp only [Act.put, List.setIfInBounds_toArray, List.set_cons_zero, List.set_cons_succ]
                  refine WalkU.tk 27 rfl ?_ (Or.inl ⟨by rfl, ?_⟩) hHeld ?_
                  rotate_left
                  · (intro w hSw; (try dsimp only at hSw); go_simp; try with_reducible rfl)
                  try simp only [Act.put, List.setIfInBounds_toArray, List.set_cons_zero, List.set_cons_succ]
                  refine WalkU.tk 28 rfl ?_ (Or.inl ⟨by rfl, ?_⟩) hHeld ?_
                  rotate_left
                  · (intro w hSw; (try dsimp only at hSw); go_simp; try with_reducible rfl)
                  try simp only [Act.put, List.setIfInBounds_toArray, List.set_cons_zero, List.set_cons_succ]
                  refine WalkU.tk 29 rfl ?_ (Or.inl ⟨by rfl, ?_⟩) hHeld ?_
                  rotate_left
                  · (intro w hSw; (try dsimp only at hSw); go_simp; try with_reducible rfl)
                  try simp only [Act.put, List.setIfInBounds_toArray, List.set_cons_zero, List.set_cons_succ]
                  refine WalkU.tk 30 rfl ?_ (Or.inl ⟨by rfl, ?_⟩) hHeld ?_
                  rotate_left
                  · (intro w hSw; (try dsimp only at hSw); go_simp; try with_reducible rfl)
                  try simp only [Act.put, List.setIfInBounds_toArray, List.set_cons_zero, List.set_cons_succ]
                  refine WalkU.tk 31 rfl ?_ (Or.inl ⟨by rfl, ?_⟩) hHeld ?_
                  rotate_left
                  · (intro w hSw; (try dsimp only at hSw); go_simp; try with_reducible rfl)
                  try simp only [Act.put, List.setIfInBounds_toArray, List.set_cons_zero, List.set_cons_succ]
                  refine WalkU.tk 32 rfl ?_ (Or.inl ⟨by rfl, ?_⟩) hHeld ?_
                  rotate_left
                  · (intro w hSw; (try dsimp only at hSw); go_simp; try with_reducible rfl)
                  try simp only [Act.put, List.setIfInBounds_toArray, List.set_cons_zero, List.set_cons_succ]
                  refine WalkU.tk 33 rfl ?_ (Or.inl ⟨by rfl, ?_⟩) hHeld ?_
                  rotate_left
                  · (intro w hSw; (try dsimp only at hSw); go_simp; try with_reducible rfl)
                  try simp only [Act.put, List.setIfInBounds_toArray, List.set_cons_zero, List.set_cons_succ]
                  refine WalkU.tk 34 rfl ?_ (Or.inl ⟨by rfl, ?_⟩) hHeld ?_
                  rotate_left
                  · (intro w hSw; (try dsimp only at hSw); go_simp; try with_reducible rfl)
                  try simp only [Act.put, List.setIfInBounds_toArray, List.set_cons_zero, List.set_cons_succ]
                  refine WalkU.tk 35 rfl ?_ (Or.inl ⟨by rfl, ?_⟩) hHeld ?_
                  rotate_left
                  · (intro w hSw; (try dsimp only at hSw); go_simp; try with_reducible rfl)
                  try simp only [Act.put, List.setIfInBounds_toArray, List.set_cons_zero, List.set_cons_succ]
                  refine WalkU.tk 36 rfl ?_ (Or.inl ⟨by rfl, ?_⟩) hHeld ?_
                  rotate_left
                  · (intro w hSw; (try dsimp only at hSw); go_simp; try with_reducible rfl)
                  try simp only [Act.put, List.setIfInBounds_toArray, List.set_cons_zero, List.set_cons_succ]
                  refine WalkU.tk 37 rfl ?_ (Or.inl ⟨by rfl, ?_⟩) hHeld ?_
                  rotate_left
                  · (intro w hSw; (try dsimp only at hSw); go_simp; try with_reducible rfl)
                  try simp only [Act.put, List.setIfInBounds_toArray, List.set_cons_zero, List.set_cons_succ]
                  refine WalkU.one (i := 38) rfl (by kernel_rfl) (fun K hK => ?_)
                  first
                    | (first | (go_at_call 14; (with_reducible refine (implHasRat_any _ _ _ _ _ _ _ _ _ _ _ (by omega) hmk hrD hiD).mono ?_); rw [Hhas.out]; rintro e w5 ⟨rfl, hb5⟩; replace hrD := hrD.below hb5; replace hiD := hiD.below hb5; replace kW0 := (hb5.cell (World.block_lt_of_cell? _ _ kW0)).trans kW0; replace kW1 := (hb5.cell (World.block_lt_of_cell? _ _ kW1)).trans kW1; replace hc0 := (hb5.cell (World.block_lt_of_cell? _ _ hc0)).trans hc0; replace hc1 := (hb5.cell (World.block_lt_of_cell? _ _ hc1)).trans hc1; replace hbW := Below.step hbW hb5) | (go_at_call 20; (with_reducible refine (implHas_any _ _ _ _ _ _ _ _ _ _ (by omega) hmk hrD hiD).mono ?_); rw [HPT.out]; rintro e w5 ⟨rfl, hb5⟩; replace hrD := hrD.below hb5; replace hiD := hiD.below hb5; replace kW0 := (hb5.cell (World.block_lt_of_cell? _ _ kW0)).trans kW0; replace kW1 := (hb5.cell (World.block_lt_of_cell? _ _ kW1)).trans kW1; replace hc0 := (hb5.cell (World.block_lt_of_cell? _ _ hc0)).trans hc0; replace hc1 := (hb5.cell (World.block_lt_of_cell? _ _ hc1)).trans hc1; replace hbW := Below.step hbW hb5) | (go_at_call 21; (with_reducible refine (specIsVector_any _ _ _ _ _ hiD hmk).mono ?_); rw [HIV.out]; rintro e w5 ⟨rfl, rfl⟩))
                    | (go_simp; (first | (go_at_call 14; (with_reducible refine (implHasRat_any _ _ _ _ _ _ _ _ _ _ _ (by omega) hmk hrD hiD).mono ?_); rw [Hhas.out]; rintro e w5 ⟨rfl, hb5⟩; replace hrD := hrD.below hb5; replace hiD := hiD.below hb5; replace kW0 := (hb5.cell (World.block_lt_of_cell? _ _ kW0)).trans kW0; replace kW1 := (hb5.cell (World.block_lt_of_cell? _ _ kW1)).trans kW1; replace hc0 := (hb5.cell (World.block_lt_of_cell? _ _ hc0)).trans hc0; replace hc1 := (hb5.cell (World.block_lt_of_cell? _ _ hc1)).trans hc1; replace hbW := Below.step hbW hb5) | (go_at_call 20; (with_reducible refine (implHas_any _ _ _ _ _ _ _ _ _ _ (by omega) hmk hrD hiD).mono ?_); rw [HPT.out]; rintro e w5 ⟨rfl, hb5⟩; replace hrD := hrD.below hb5; replace hiD := hiD.below hb5; replace kW0 := (hb5.cell (World.block_lt_of_cell? _ _ kW0)).trans kW0; replace kW1 := (hb5.cell (World.block_lt_of_cell? _ _ kW1)).trans kW1; replace hc0 := (hb5.cell (World.block_lt_of_cell? _ _ hc0)).trans hc0; replace hc1 := (hb5.cell (World.block_lt_of_cell? _ _ hc1)).trans hc1; replace hbW := Below.step hbW hb5) | (go_at_call 21; (with_reducible refine (specIsVector_any _ _ _ _ _ hiD hmk).mono ?_); rw [HIV.out]; rintro e w5 ⟨rfl, rfl⟩)))
                  refine hK.out _ _ ?_ (fun hHeld => ?_)
                  · ((try dsimp only); exact ⟨kW0, kW1, hc0, hc1⟩)
                  clear hK K
                  try simp only [Act.put, List.setIfInBounds_toArray, List.set_cons_zero, List.set_cons_succ]
                  refine WalkU.tk 39 rfl ?_ (Or.inl ⟨by rfl, ?_⟩) hHeld ?_
                  rotate_left
                  · (intro w hSw; (try dsimp only at hSw); go_simp; try with_reducible rfl)
                  try simp only [Act.put, List.setIfInBounds_toArray, List.set_cons_zero, List.set_cons_succ]
                  refine WalkU.tk 40 rfl ?_ (Or.inl ⟨by rfl, ?_⟩) hHeld ?_
                  rotate_left
                  · (intro w hSw; (try dsimp only at hSw); go_simp; try with_reducible rfl)
                  try simp only [Act.put, List.setIfInBounds_toArray, List.set_cons_zero, List.set_cons_succ]
                  refine WalkU.tk 41 rfl ?_ (Or.inl ⟨by rfl, ?_⟩) hHeld ?_
                  rotate_left
                  · (intro w hSw; (try dsimp only at hSw); go_simp; try with_reducible rfl)
                  try simp only [Act.put, List.setIfInBounds_toArray, List.set_cons_zero, List.set_cons_succ]
                  refine WalkU.tk 42 rfl ?_ (Or.inl ⟨by rfl, ?_⟩) hHeld ?_
                  rotate_left
                  · (intro w hSw; (try dsimp only at hSw); go_simp; try with_reducible rfl)
                  try simp only [Act.put, List.setIfInBounds_toArray, List.set_cons_zero, List.set_cons_succ]
                  refine WalkU.tk 43 rfl ?_ (Or.inl ⟨by rfl, ?_⟩) hHeld ?_
                  rotate_left
                  · (intro w hSw; (try dsimp only at hSw); go_simp; try with_reducible rfl)
                  try simp only [Act.put, List.setIfInBounds_toArray, List.set_cons_zero, List.set_cons_succ]
                  refine WalkU.tk 44 rfl ?_ (Or.inl ⟨by rfl, ?_⟩) hHeld ?_
                  rotate_left
                  · (intro w hSw; (try dsimp only at hSw); go_simp; try with_reducible rfl)
                  try simp only [Act.put, List.setIfInBounds_toArray, List.set_cons_zero, List.set_cons_succ]
                  refine WalkU.tk 45 rfl ?_ (Or.inl ⟨by rfl, ?_⟩) hHeld ?_
                  rotate_left
                  · (intro w hSw; (try dsimp only at hSw); go_simp; try with_reducible rfl)
                  try simp only [Act.put, List.setIfInBounds_toArray, List.set_cons_zero, List.set_cons_succ]
                  refine WalkU.tk 46 rfl ?_ (Or.inl ⟨by rfl, ?_⟩) hHeld ?_
                  rotate_left
                  · (intro w hSw; (try dsimp only at hSw); go_simp; try with_reducible rfl)
                  try simp only [Act.put, List.setIfInBounds_toArray, List.set_cons_zero, List.set_cons_succ]
                  refine WalkU.one (i := 47) rfl (by kernel_rfl) (fun K hK => ?_)
                  first
                    | (first | (go_at_call 14; (with_reducible refine (implHasRat_any _ _ _ _ _ _ _ _ _ _ _ (by omega) hmk hrD hiD).mono ?_); rw [Hhas.out]; rintro e w5 ⟨rfl, hb5⟩; replace hrD := hrD.below hb5; replace hiD := hiD.below hb5; replace kW0 := (hb5.cell (World.block_lt_of_cell? _ _ kW0)).trans kW0; replace kW1 := (hb5.cell (World.block_lt_of_cell? _ _ kW1)).trans kW1; replace hc0 := (hb5.cell (World.block_lt_of_cell? _ _ hc0)).trans hc0; replace hc1 := (hb5.cell (World.block_lt_of_cell? _ _ hc1)).trans hc1; replace hbW := Below.step hbW hb5) | (go_at_call 20; (with_reducible refine (implHas_any _ _ _ _ _ _ _ _ _ _ (by omega) hmk hrD hiD).mono ?_); rw [HPT.out]; rintro e w5 ⟨rfl, hb5⟩; replace hrD := hrD.below hb5; replace hiD := hiD.below hb5; replace kW0 := (hb5.cell (World.block_lt_of_cell? _ _ kW0)).trans kW0; replace kW1 := (hb5.cell (World.block_lt_of_cell? _ _ kW1)).trans kW1; replace hc0 := (hb5.cell (World.block_lt_of_cell? _ _ hc0)).trans hc0; replace hc1 := (hb5.cell (World.block_lt_of_cell? _ _ hc1)).trans hc1; replace hbW := Below.step hbW hb5) | (go_at_call 21; (with_reducible refine (specIsVector_any _ _ _ _ _ hiD hmk).mono ?_); rw [HIV.out]; rintro e w5 ⟨rfl, rfl⟩))
                    | (go_simp; (first | (go_at_call 14; (with_reducible refine (implHasRat_any _ _ _ _ _ _ _ _ _ _ _ (by omega) hmk hrD hiD).mono ?_); rw [Hhas.out]; rintro e w5 ⟨rfl, hb5⟩; replace hrD := hrD.below hb5; replace hiD := hiD.below hb5; replace kW0 := (hb5.cell (World.block_lt_of_cell? _ _ kW0)).trans kW0; replace kW1 := (hb5.cell (World.block_lt_of_cell? _ _ kW1)).trans kW1; replace hc0 := (hb5.cell (World.block_lt_of_cell? _ _ hc0)).trans hc0; replace hc1 := (hb5.cell (World.block_lt_of_cell? _ _ hc1)).trans hc1; replace hbW := Below.step hbW hb5) | (go_at_call 20; (with_reducible refine (implHas_any _ _ _ _ _ _ _ _ _ _ (by omega) hmk hrD hiD).mono ?_); rw [HPT.out]; rintro e w5 ⟨rfl, hb5⟩; replace hrD := hrD.below hb5; replace hiD := hiD.below hb5; replace kW0 := (hb5.cell (World.block_lt_of_cell? _ _ kW0)).trans kW0; replace kW1 := (hb5.cell (World.block_lt_of_cell? _ _ kW1)).trans kW1; replace hc0 := (hb5.cell (World.block_lt_of_cell? _ _ hc0)).trans hc0; replace hc1 := (hb5.cell (World.block_lt_of_cell? _ _ hc1)).trans hc1; replace hbW := Below.step hbW hb5) | (go_at_call 21; (with_reducible refine (specIsVector_any _ _ _ _ _ hiD hmk).mono ?_); rw [HIV.out]; rintro e w5 ⟨rfl, rfl⟩)))
                  refine hK.out _ _ ?_ (fun hHeld => ?_)
                  · ((try dsimp only); exact ⟨kW0, kW1, hc0, hc1⟩)
                  clear hK K
                  try simp only [Act.put, List.setIfInBounds_toArray, List.set_cons_zero, List.set_cons_succ]
                  refine WalkU.tk 48 rfl ?_ (Or.inl ⟨by rfl, ?_⟩) hHeld ?_
                  rotate_left
                  · (intro w hSw; (try dsimp only at hSw); go_simp; try with_reducible rfl)
                  try simp only [Act.put, List.setIfInBounds_toArray, List.set_cons_zero, List.set_cons_succ]
                  refine WalkU.last (i := 49) rfl rfl (by kernel_rfl) (by kernel_rfl) (fun K hK => ?_)
                  go_simp
                  refine hK.out _ _ ?_
                  clear hK K
                  try simp only [Act.put, List.setIfInBounds_toArray, List.set_cons_zero, List.set_cons_succ]
                  go_wp2_with fail
                  go_meet
                  exact ⟨rfl, hbW⟩
              · have HIV : Hid (isVec xk = isVec xk) := Lib.hid rfl
                have HPT := Lib.hid hpt
                clear hpt Hwh
                as_aux_lemma =>
                  have hrD := hrW.drew
                  have hiD := hik.drew
                  have hbW := drewBelow W
                  refine wp_region_u 49 50 (fun w' => w'.cell? ⟨bR, 0, none⟩ = some (.int .i64 zr) ∧ w'.cell? ⟨bR, 1, none⟩ = some (.slice qr kr dr) ∧ w'.cell? ⟨bl, ol, none⟩ = some (.slice qk mk dk_) ∧ w'.cell? ⟨bl, ol + 1, none⟩ = some (.int .i64 1)) (by kernel_rfl) rfl (by (try dsimp only); exact ⟨kW0, kW1, hc0, hc1⟩) (fun hHeld => ?_)
                  refine WalkU.tk 0 rfl ?_ (Or.inl ⟨by rfl, ?_⟩) hHeld ?_
                  rotate_left
                  · (intro w hSw; (try dsimp only at hSw); go_simp; try with_reducible rfl)
                  try simp only [Act.put, List.setIfInBounds_toArray, List.set_cons_zero, List.set_cons_succ]
                  refine WalkU.tk 1 rfl ?_ (Or.inl ⟨by rfl, ?_⟩) hHeld ?_
                  rotate_left
                  · (intro w hSw; (try dsimp only at hSw); go_simp; try with_reducible rfl)
                  try simp only [Act.put, List.setIfInBounds_toArray, List.set_cons_zero, List.set_cons_succ]
                  refine WalkU.tk 2 rfl ?_ (Or.inl ⟨by rfl, ?_⟩) hHeld ?_
                  rotate_left
                  · (intro w hSw; (try dsimp only at hSw); go_simp; try with_reducible rfl)
                  try simp only [Act.put, List.setIfInBounds_toArray, List.set_cons_zero, List.set_cons_succ]
                  refine WalkU.tk 3 rfl ?_ (Or.inl ⟨by rfl, ?_⟩) hHeld ?_
                  rotate_left
                  · (intro w hSw; (try dsimp only at hSw); go_simp; try with_reducible rfl)
                  try simp only [Act.put, List.setIfInBounds_toArray, List.set_cons_zero, List.set_cons_succ]
                  refine WalkU.tk 4 rfl ?_ (Or.inl ⟨by rfl, ?_⟩) hHeld ?_
                  rotate_left
                  · (intro w hSw; (try dsimp only at hSw); go_simp; try with_reducible rfl)
                  try simp only [Act.put, List.setIfInBounds_toArray, List.set_cons_zero, List.set_cons_succ]
                  refine WalkU.one (i := 5) rfl (by kernel_rfl) (fun K hK => ?_)
                  first
                    | (first | (go_at_call 14; (with_reducible refine (implHasRat_any _ _ _ _ _ _ _ _ _ _ _ (by omega) hmk hrD hiD).mono ?_); rw [Hhas.out]; rintro e w5 ⟨rfl, hb5⟩; replace hrD := hrD.below hb5; replace hiD := hiD.below hb5; replace kW0 := (hb5.cell (World.block_lt_of_cell? _ _ kW0)).trans kW0; replace kW1 := (hb5.cell (World.block_lt_of_cell? _ _ kW1)).trans kW1; replace hc0 := (hb5.cell (World.block_lt_of_cell? _ _ hc0)).trans hc0; replace hc1 := (hb5.cell (World.block_lt_of_cell? _ _ hc1)).trans hc1; replace hbW := Below.step hbW hb5) | (go_at_call 20; (with_reducible refine (implHas_any _ _ _ _ _ _ _ _ _ _ (by omega) hmk hrD hiD).mono ?_); rw [HPT.out]; rintro e w5 ⟨rfl, hb5⟩; replace hrD := hrD.below hb5; replace hiD := hiD.below hb5; replace kW0 := (hb5.cell (World.block_lt_of_cell? _ _ kW0)).trans kW0; replace kW1 := (hb5.cell (World.block_lt_of_cell? _ _ kW1)).trans kW1; replace hc0 := (hb5.cell (World.block_lt_of_cell? _ _ hc0)).trans hc0; replace hc1 := (hb5.cell (World.block_lt_of_cell? _ _ hc1)).trans hc1; replace hbW := Below.step hbW hb5) | (go_at_call 21; (with_reducible refine (specIsVector_any _ _ _ _ _ hiD hmk).mono ?_); rw [HIV.out]; rintro e w5 ⟨rfl, rfl⟩))
                    | (go_simp; (first | (go_at_call 14; (with_reducible refine (implHasRat_any _ _ _ _ _ _ _ _ _ _ _ (by omega) hmk hrD hiD).mono ?_); rw [Hhas.out]; rintro e w5 ⟨rfl, hb5⟩; replace hrD := hrD.below hb5; replace hiD := hiD.below hb5; replace kW0 := (hb5.cell (World.block_lt_of_cell? _ _ kW0)).trans kW0; replace kW1 := (hb5.cell (World.block_lt_of_cell? _ _ kW1)).trans kW1; replace hc0 := (hb5.cell (World.block_lt_of_cell? _ _ hc0)).trans hc0; replace hc1 := (hb5.cell (World.block_lt_of_cell? _ _ hc1)).trans hc1; replace hbW := Below.step hbW hb5) | (go_at_call 20; (with_reducible refine (implHas_any _ _ _ _ _ _ _ _ _ _ (by omega) hmk hrD hiD).mono ?_); rw [HPT.out]; rintro e w5 ⟨rfl, hb5⟩; replace hrD := hrD.below hb5; replace hiD := hiD.below hb5; replace kW0 := (hb5.cell (World.block_lt_of_cell? _ _ kW0)).trans kW0; replace kW1 := (hb5.cell (World.block_lt_of_cell? _ _ kW1)).trans kW1; replace hc0 := (hb5.cell (World.block_lt_of_cell? _ _ hc0)).trans hc0; replace hc1 := (hb5.cell (World.block_lt_of_cell? _ _ hc1)).trans hc1; replace hbW := Below.step hbW hb5) | (go_at_call 21; (with_reducible refine (specIsVector_any _ _ _ _ _ hiD hmk).mono ?_); rw [HIV.out]; rintro e w5 ⟨rfl, rfl⟩)))
                  refine hK.out _ _ ?_ (fun hHeld => ?_)
                  · ((try dsimp only); exact ⟨kW0, kW1, hc0, hc1⟩)
                  clear hK K
                  try simp only [Act.put, List.setIfInBounds_toArray, List.set_cons_zero, List.set_cons_succ]
                  refine WalkU.tk 6 rfl ?_ (Or.inl ⟨by rfl, ?_⟩) hHeld ?_
                  rotate_left
                  · (intro w hSw; (try dsimp only at hSw); go_simp; try with_reducible rfl)
                  try simp only [Act.put, List.setIfInBounds_toArray, List.set_cons_zero, List.set_cons_succ]
                  refine WalkU.tk 7 rfl ?_ (Or.inl ⟨by rfl, ?_⟩) hHeld ?_
                  rotate_left
                  · (intro w hSw; (try dsimp only at hSw); go_simp; try with_reducible rfl)
                  try simp only [Act.put, List.setIfInBounds_toArray, List.set_cons_zero, List.set_cons_succ]
                  refine WalkU.tk 8 rfl ?_ (Or.inl ⟨by rfl, ?_⟩) hHeld ?_
                  rotate_left
                  · (intro w hSw; (try dsimp only at hSw); go_simp; try with_reducible rfl)
                  try simp only [Act.put, List.setIfInBounds_toArray, List.set_cons_zero, List.set_cons_succ]
                  refine WalkU.tk 9 rfl ?_ (Or.inl ⟨by rfl, ?_⟩) hHeld ?_
                  rotate_left
                  · (intro w hSw; (try dsimp only at hSw); go_simp; try with_reducible rfl)
                  try simp only [Act.put, List.setIfInBounds_toArray, List.set_cons_zero, List.set_cons_succ]
                  refine WalkU.tk 10 rfl ?_ (Or.inl ⟨by rfl, ?_⟩) hHeld ?_
                  rotate_left
                  · (intro w hSw; (try dsimp only at hSw); go_simp; try with_reducible rfl)
                  try simp only [Act.put, List.setIfInBounds_toArray, List.set_cons_zero, List.set_cons_succ]
                  refine WalkU.tk 11 rfl undef (Or.inr ⟨by rfl, rfl⟩) hHeld ?_
                  try simp only [Act.put, List.setIfInBounds_toArray, List.set_cons_zero, List.set_cons_succ]
                  refine WalkU.tk 12 rfl undef (Or.inr ⟨by rfl, rfl⟩) hHeld ?_
                  try simp only [Act.put, List.setIfInBounds_toArray, List.set_cons_zero, List.set_cons_succ]
                  refine WalkU.tk 13 rfl undef (Or.inr ⟨by rfl, rfl⟩) hHeld ?_
                  try simp only [Act.put, List.setIfInBounds_toArray, List.set_cons_zero, List.set_cons_succ]
                  refine WalkU.tk 14 rfl undef (Or.inr ⟨by rfl, rfl⟩) hHeld ?_
                  try simp only [Act.put, List.setIfInBounds_toArray, List.set_cons_zero, List.set_cons_succ]
                  refine WalkU.tk 15 rfl undef (Or.inr ⟨by rfl, rfl⟩) hHeld ?_
                  try simp only [Act.put, List.setIfInBounds_toArray, List.set_cons_zero, List.set_cons_succ]
                  refine WalkU.tk 16 rfl undef (Or.inr ⟨by rfl, rfl⟩) hHeld ?_
                  try simp only [Act.put, List.setIfInBounds_toArray, List.set_cons_zero, List.set_cons_succ]
                  refine WalkU.tk 17 rfl undef (Or.inr ⟨by rfl, rfl⟩) hHeld ?_
                  try simp only [Act.put, List.setIfInBounds_toArray, List.set_cons_zero, List.set_cons_succ]
                  refine WalkU.tk 18 rfl undef (Or.inr ⟨by rfl, rfl⟩) hHeld ?_
                  try simp only [Act.put, List.setIfInBounds_toArray, List.set_cons_zero, List.set_cons_succ]
                  refine WalkU.tk 19 rfl undef (Or.inr ⟨by rfl, rfl⟩) hHeld ?_
                  try simp only [Act.put, List.setIfInBounds_toArray, List.set_cons_zero, List.set_cons_succ]
                  refine WalkU.tk 20 rfl undef (Or.inr ⟨by rfl, rfl⟩) hHeld ?_
                  try simp only [Act.put, List.setIfInBounds_toArray, List.set_cons_zero, List.set_cons_succ]
                  refine WalkU.tk 21 rfl undef (Or.inr ⟨by rfl, rfl⟩) hHeld ?_
                  try simp only [Act.put, List.setIfInBounds_toArray, List.set_cons_zero, List.set_cons_succ]
                  refine WalkU.tk 22 rfl ?_ (Or.inl ⟨by rfl, ?_⟩) hHeld ?_
                  rotate_left
                  · (intro w hSw; (try dsimp only at hSw); go_simp; try with_reducible rfl)
                  try simp only [Act.put, List.setIfInBounds_toArray, List.set_cons_zero, List.set_cons_succ]
                  refine WalkU.tk 23 rfl ?_ (Or.inl ⟨by rfl, ?_⟩) hHeld ?_
                  rotate_left
                  · (intro w hSw; (try dsimp only at hSw); go_simp; try with_reducible rfl)
                  try simp only [Act.put, List.setIfInBounds_toArray, List.set_cons_zero, List.set_cons_succ]
                  refine WalkU.tk 24 rfl ?_ (Or.inl ⟨by rfl, ?_⟩) hHeld ?_
                  rotate_left
                  · (intro w hSw; (try dsimp only at hSw); go_simp; try with_reducible rfl)
                  try simp only [Act.put, List.setIfInBounds_toArray, List.set_cons_zero, List.set_cons_succ]
                  refine WalkU.tk 25 rfl ?_ (Or.inl ⟨by rfl, ?_⟩) hHeld ?_
                  rotate_left
                  · (intro w hSw; (try dsimp only at hSw); go_simp; try with_reducible rfl)
                  try simp only [Act.put, List.setIfInBounds_toArray, List.set_cons_zero, List.set_cons_succ]
                  refine WalkU.tk 26 rfl ?_ (Or.inl ⟨by rfl, ?_⟩) hHeld ?_
                  rotate_left
                  · (intro w hSw; (try dsimp only at hSw); go_simp; try with_reducible rfl)
                  try simp only [Act.put, List.setIfInBounds_toArray, List.set_cons_zero, List.set_cons_succ]
                  refine WalkU.tk 27 rfl ?_ (Or.inl ⟨by rfl, ?_⟩) hHeld ?_
                  rotate_left
                  · (intro w hSw; (try dsimp only at hSw); go_simp; try with_reducible rfl)
                  try simp only [Act.put, List.setIfInBounds_toArray, List.set_cons_zero, List.set_cons_succ]
                  refine WalkU.tk 28 rfl ?_ (Or.inl ⟨by rfl, ?_⟩) hHeld ?_
                  rotate_left
                  · (intro w hSw; (try dsimp only at hSw); go_simp; try with_reducible rfl)
                  try simp only [Act.put, List.setIfInBounds_toArray, List.set_cons_zero, List.set_cons_succ]
                  refine WalkU.tk 29 rfl ?_ (Or.inl ⟨by rfl, ?_⟩) hHeld ?_
                  rotate_left
                  · (intro w hSw; (try dsimp only at hSw); go_simp; try with_reducible rfl)
                  try simp only [Act.put, List.setIfInBounds_toArray, List.set_cons_zero, List.set_cons_succ]
                  refine WalkU.tk 30 rfl ?_ (Or.inl ⟨by rfl, ?_⟩) hHeld ?_
                  rotate_left
                  · (intro w hSw; (try dsimp only at hSw); go_simp; try with_reducible rfl)
                  try simp only [Act.put, List.setIfInBounds_toArray, List.set_cons_zero, List.set_cons_succ]
                  refine WalkU.tk 31 rfl ?_ (Or.inl ⟨by rfl, ?_⟩) hHeld ?_
                  rotate_left
                  · (intro w hSw; (try dsimp only at hSw); go_simp; try with_reducible rfl)
                  try simp only [Act.put, List.setIfInBounds_toArray, List.set_cons_zero, List.set_cons_succ]
                  refine WalkU.tk 32 rfl ?_ (Or.inl ⟨by rfl, ?_⟩) hHeld ?_
                  rotate_left
                  · (intro w hSw; (try dsimp only at hSw); go_simp; try with_reducible rfl)
                  try simp only [Act.put, List.setIfInBounds_toArray, List.set_cons_zero, List.set_cons_succ]
                  refine WalkU.tk 33 rfl ?_ (Or.inl ⟨by rfl, ?_⟩) hHeld ?_
                  rotate_left
                  · (intro w hSw; (try dsimp only at hSw); go_simp; try with_reducible rfl)
                  try simp only [Act.put, List.setIfInBounds_toArray, List.set_cons_zero, List.set_cons_succ]
                  refine WalkU.tk 34 rfl ?_ (Or.inl ⟨by rfl, ?_⟩) hHeld ?_
                  rotate_left
                  · (intro w hSw; (try dsimp only at hSw); go_simp; try with_reducible rfl)
                  try simp only [Act.put, List.setIfInBounds_toArray, List.set_cons_zero, List.set_cons_succ]
                  refine WalkU.tk 35 rfl ?_ (Or.inl ⟨by rfl, ?_⟩) hHeld ?_
                  rotate_left
                  · (intro w hSw; (try dsimp only at hSw); go_simp; try with_reducible rfl)
                  try simp only [Act.put, List.setIfInBounds_toArray, List.set_cons_zero, List.set_cons_succ]
                  refine WalkU.tk 36 rfl ?_ (Or.inl ⟨by rfl, ?_⟩) hHeld ?_
                  rotate_left
                  · (intro w hSw; (try dsimp only at hSw); go_simp; try with_reducible rfl)
                  try simp only [Act.put, List.setIfInBounds_toArray, List.set_cons_zero, List.set_cons_succ]
                  refine WalkU.tk 37 rfl ?_ (Or.inl ⟨by rfl, ?_⟩) hHeld ?_
                  rotate_left
                  · (intro w hSw; (try dsimp only at hSw); go_simp; try with_reducible rfl)
                  try simp only [Act.put, List.setIfInBounds_toArray, List.set_cons_zero, List.set_cons_succ]
                  refine WalkU.one (i := 38) rfl (by kernel_rfl) (fun K hK => ?_)
                  first
                    | (first | (go_at_call 14; (with_reducible refine (implHasRat_any _ _ _ _ _ _ _ _ _ _ _ (by omega) hmk hrD hiD).mono ?_); rw [Hhas.out]; rintro e w5 ⟨rfl, hb5⟩; replace hrD := hrD.below hb5; replace hiD := hiD.below hb5; replace kW0 := (hb5.cell (World.block_lt_of_cell? _ _ kW0)).trans kW0; replace kW1 := (hb5.cell (World.block_lt_of_cell? _ _ kW1)).trans kW1; replace hc0 := (hb5.cell (World.block_lt_of_cell? _ _ hc0)).trans hc0; replace hc1 := (hb5.cell (World.block_lt_of_cell? _ _ hc1)).trans hc1; replace hbW := Below.step hbW hb5) | (go_at_call 20; (with_reducible refine (implHas_any _ _ _ _ _ _ _ _ _ _ (by omega) hmk hrD hiD).mono ?_); rw [HPT.out]; rintro e w5 ⟨rfl, hb5⟩; replace hrD := hrD.below hb5; replace hiD := hiD.below hb5; replace kW0 := (hb5.cell (World.block_lt_of_cell? _ _ kW0)).trans kW0; replace kW1 := (hb5.cell (World.block_lt_of_cell? _ _ kW1)).trans kW1; replace hc0 := (hb5.cell (World.block_lt_of_cell? _ _ hc0)).trans hc0; replace hc1 := (hb5.cell (World.block_lt_of_cell? _ _ hc1)).trans hc1; replace hbW := Below.step hbW hb5) | (go_at_call 21; (with_reducible refine (specIsVector_any _ _ _ _ _ hiD hmk).mono ?_); rw [HIV.out]; rintro e w5 ⟨rfl, rfl⟩))
                    | (go_simp; (first | (go_at_call 14; (with_reducible refine (implHasRat_any _ _ _ _ _ _ _ _ _ _ _ (by omega) hmk hrD hiD).mono ?_); rw [Hhas.out]; rintro e w5 ⟨rfl, hb5⟩; replace hrD := hrD.below hb5; replace hiD := hiD.below hb5; replace kW0 := (hb5.cell (World.block_lt_of_cell? _ _ kW0)).trans kW0; replace kW1 := (hb5.cell (World.block_lt_of_cell? _ _ kW1)).trans kW1; replace hc0 := (hb5.cell (World.block_lt_of_cell? _ _ hc0)).trans hc0; replace hc1 := (hb5.cell (World.block_lt_of_cell? _ _ hc1)).trans hc1; replace hbW := Below.step hbW hb5) | (go_at_call 20; (with_reducible refine (implHas_any _ _ _ _ _ _ _ _ _ _ (by omega) hmk hrD hiD).mono ?_); rw [HPT.out]; rintro e w5 ⟨rfl, hb5⟩; replace hrD := hrD.below hb5; replace hiD := hiD.below hb5; replace kW0 := (hb5.cell (World.block_lt_of_cell? _ _ kW0)).trans kW0; replace kW1 := (hb5.cell (World.block_lt_of_cell? _ _ kW1)).trans kW1; replace hc0 := (hb5.cell (World.block_lt_of_cell? _ _ hc0)).trans hc0; replace hc1 := (hb5.cell (World.block_lt_of_cell? _ _ hc1)).trans hc1; replace hbW := Below.step hbW hb5) | (go_at_call 21; (with_reducible refine (specIsVector_any _ _ _ _ _ hiD hmk).mono ?_); rw [HIV.out]; rintro e w5 ⟨rfl, rfl⟩)))
                  refine hK.out _ _ ?_ (fun hHeld => ?_)
                  · ((try dsimp only); exact ⟨kW0, kW1, hc0, hc1⟩)
                  clear hK K
                  try simp only [Act.put, List.setIfInBounds_toArray, List.set_cons_zero, List.set_cons_succ]
                  refine WalkU.tk 39 rfl ?_ (Or.inl ⟨by rfl, ?_⟩) hHeld ?_
                  rotate_left
                  · (intro w hSw; (try dsimp only at hSw); go_simp; try with_reducible rfl)
                  try simp only [Act.put, List.setIfInBounds_toArray, List.set_cons_zero, List.set_cons_succ]
                  refine WalkU.tk 40 rfl ?_ (Or.inl ⟨by rfl, ?_⟩) hHeld ?_
                  rotate_left
                  · (intro w hSw; (try dsimp only at hSw); go_simp; try with_reducible rfl)
                  try simp only [Act.put, List.setIfInBounds_toArray, List.set_cons_zero, List.set_cons_succ]
                  refine WalkU.tk 41 rfl ?_ (Or.inl ⟨by rfl, ?_⟩) hHeld ?_
                  rotate_left
                  · (intro w hSw; (try dsimp only at hSw); go_simp; try with_reducible rfl)
                  try simp only [Act.put, List.setIfInBounds_toArray, List.set_cons_zero, List.set_cons_succ]
                  refine WalkU.tk 42 rfl undef (Or.inr ⟨by rfl, rfl⟩) hHeld ?_
                  try simp only [Act.put, List.setIfInBounds_toArray, List.set_cons_zero, List.set_cons_succ]
                  refine WalkU.tk 43 rfl undef (Or.inr ⟨by rfl, rfl⟩) hHeld ?_
                  try simp only [Act.put, List.setIfInBounds_toArray, List.set_cons_zero, List.set_cons_succ]
                  refine WalkU.tk 44 rfl undef (Or.inr ⟨by rfl, rfl⟩) hHeld ?_
                  try simp only [Act.put, List.setIfInBounds_toArray, List.set_cons_zero, List.set_cons_succ]
                  refine WalkU.tk 45 rfl undef (Or.inr ⟨by rfl, rfl⟩) hHeld ?_
                  try simp only [Act.put, List.setIfInBounds_toArray, List.set_cons_zero, List.set_cons_succ]
                  refine WalkU.tk 46 rfl undef (Or.inr ⟨by rfl, rfl⟩) hHeld ?_
                  try simp only [Act.put, List.setIfInBounds_toArray, List.set_cons_zero, List.set_cons_succ]
                  refine WalkU.tk 47 rfl undef (Or.inr ⟨by rfl, rfl⟩) hHeld ?_
                  try simp only [Act.put, List.setIfInBounds_toArray, List.set_cons_zero, List.set_cons_succ]
                  refine WalkU.tk 48 rfl ?_ (Or.inl ⟨by rfl, ?_⟩) hHeld ?_
                  rotate_left
                  · (intro w hSw; (try dsimp only at hSw); go_simp; try with_reducible rfl)
                  try simp only [Act.put, List.setIfInBounds_toArray, List.set_cons_zero, List.set_cons_succ]
                  refine WalkU.last (i := 49) rfl rfl (by kernel_rfl) (by kernel_rfl) (fun K hK => ?_)
                  go_simp
                  refine hK.out _ _ ?_
                  clear hK K
                  try simp only [Act.put, List.setIfInBounds_toArray, List.set_cons_zero, List.set_cons_succ]
                  go_wp2_with fail
                  go_meet
                  exact ⟨rfl, hbW⟩
            · have hden2 : (dk == 1) = false := by simpa using hden
              have HIV : Hid (isVec xk = isVec xk) := Lib.hid rfl
              have HPT : Hid (hasPt zr rs xk = hasPt zr rs xk) := Lib.hid rfl
              clear Hwh hden
              as_aux_lemma =>
                have hrD := hrW.drew
                have hiD := hik.drew
                have hbW := drewBelow W
                refine wp_region_u 49 50 (fun w' => w'.cell? ⟨bR, 0, none⟩ = some (.int .i64 zr) ∧ w'.cell? ⟨bR, 1, none⟩ = some (.slice qr kr dr) ∧ w'.cell? ⟨bl, ol, none⟩ = some (.slice qk mk dk_) ∧ w'.cell? ⟨bl, ol + 1, none⟩ = some (.int .i64 dk)) (by kernel_rfl) rfl (by (try dsimp only); exact ⟨kW0, kW1, hc0, hc1⟩) (fun hHeld => ?_)
                refine WalkU.tk 0 rfl ?_ (Or.inl ⟨by rfl, ?_⟩) hHeld ?_
                rotate_left
                · (intro w hSw; (try dsimp only at hSw); go_simp; try with_reducible rfl)
                try simp only [Act.put, List.setIfInBounds_toArray, List.set_cons_zero, List.set_cons_succ]
                refine WalkU.tk 1 rfl ?_ (Or.inl ⟨by rfl, ?_⟩) hHeld ?_
                rotate_left
                · (intro w hSw; (try dsimp only at hSw); go_simp; try with_reducible rfl)
                try simp only [Act.put, List.setIfInBounds_toArray, List.set_cons_zero, List.set_cons_succ]
                refine WalkU.tk 2 rfl ?_ (Or.inl ⟨by rfl, ?_⟩) hHeld ?_
                rotate_left
                · (intro w hSw; (try dsimp only at hSw); go_simp; try with_reducible rfl)
                try simp only [Act.put, List.setIfInBounds_toArray, List.set_cons_zero, List.set_cons_succ]
                refine WalkU.tk 3 rfl ?_ (Or.inl ⟨by rfl, ?_⟩) hHeld ?_
                rotate_left
                · (intro w hSw; (try dsimp only at hSw); go_simp; try with_reducible rfl)
                try simp only [Act.put, List.setIfInBounds_toArray, List.set_cons_zero, List.set_cons_succ]
                refine WalkU.tk 4 rfl ?_ (Or.inl ⟨by rfl, ?_⟩) hHeld ?_
                rotate_left
                · (intro w hSw; (try dsimp only at hSw); go_simp; try with_reducible rfl)
                try simp only [Act.put, List.setIfInBounds_toArray, List.set_cons_zero, List.set_cons_succ]
                refine WalkU.one (i := 5) rfl (by kernel_rfl) (fun K hK => ?_)
                first
                  | (first | (go_at_call 14; (with_reducible refine (implHasRat_any _ _ _ _ _ _ _ _ _ _ _ (by omega) hmk hrD hiD).mono ?_); rw [Hhas.out]; rintro e w5 ⟨rfl, hb5⟩; replace hrD := hrD.below hb5; replace hiD := hiD.below hb5; replace kW0 := (hb5.cell (World.block_lt_of_cell? _ _ kW0)).trans kW0; replace kW1 := (hb5.cell (World.block_lt_of_cell? _ _ kW1)).trans kW1; replace hc0 := (hb5.cell (World.block_lt_of_cell? _ _ hc0)).trans hc0; replace hc1 := (hb5.cell (World.block_lt_of_cell? _ _ hc1)).trans hc1; replace hbW := Below.step hbW hb5) | (go_at_call 20; (with_reducible refine (implHas_any _ _ _ _ _ _ _ _ _ _ (by omega) hmk hrD hiD).mono ?_); rw [HPT.out]; rintro e w5 ⟨rfl, hb5⟩; replace hrD := hrD.below hb5; replace hiD := hiD.below hb5; replace kW0 := (hb5.cell (World.block_lt_of_cell? _ _ kW0)).trans kW0; replace kW1 := (hb5.cell (World.block_lt_of_cell? _ _ kW1)).trans kW1; replace hc0 := (hb5.cell (World.block_lt_of_cell? _ _ hc0)).trans hc0; replace hc1 := (hb5.cell (World.block_lt_of_cell? _ _ hc1)).trans hc1; replace hbW := Below.step hbW hb5) | (go_at_call 21; (with_reducible refine (specIsVector_any _ _ _ _ _ hiD hmk).mono ?_); rw [HIV.out]; rintro e w5 ⟨rfl, rfl⟩))
                  | (go_simp; (first | (go_at_call 14; (with_reducible refine (implHasRat_any _ _ _ _ _ _ _ _ _ _ _ (by omega) hmk hrD hiD).mono ?_); rw [Hhas.out]; rintro e w5 ⟨rfl, hb5⟩; replace hrD := hrD.below hb5; replace hiD := hiD.below hb5; replace kW0 := (hb5.cell (World.block_lt_of_cell? _ _ kW0)).trans kW0; replace kW1 := (hb5.cell (World.block_lt_of_cell? _ _ kW1)).trans kW1; replace hc0 := (hb5.cell (World.block_lt_of_cell? _ _ hc0)).trans hc0; replace hc1 := (hb5.cell (World.block_lt_of_cell? _ _ hc1)).trans hc1; replace hbW := Below.step hbW hb5) | (go_at_call 20; (with_reducible refine (implHas_any _ _ _ _ _ _ _ _ _ _ (by omega) hmk hrD hiD).mono ?_); rw [HPT.out]; rintro e w5 ⟨rfl, hb5⟩; replace hrD := hrD.below hb5; replace hiD := hiD.below hb5; replace kW0 := (hb5.cell (World.block_lt_of_cell? _ _ kW0)).trans kW0; replace kW1 := (hb5.cell (World.block_lt_of_cell? _ _ kW1)).trans kW1; replace hc0 := (hb5.cell (World.block_lt_of_cell? _ _ hc0)).trans hc0; replace hc1 := (hb5.cell (World.block_lt_of_cell? _ _ hc1)).trans hc1; replace hbW := Below.step hbW hb5) | (go_at_call 21; (with_reducible refine (specIsVector_any _ _ _ _ _ hiD hmk).mono ?_); rw [HIV.out]; rintro e w5 ⟨rfl, rfl⟩)))
                refine hK.out _ _ ?_ (fun hHeld => ?_)
                · ((try dsimp only); exact ⟨kW0, kW1, hc0, hc1⟩)
                clear hK K
                try simp only [Act.put, List.setIfInBounds_toArray, List.set_cons_zero, List.set_cons_succ]
                refine WalkU.tk 6 rfl ?_ (Or.inl ⟨by rfl, ?_⟩) hHeld ?_
                rotate_left
                · (intro w hSw; (try dsimp only at hSw); go_simp; try with_reducible rfl)
                try simp only [Act.put, List.setIfInBounds_toArray, List.set_cons_zero, List.set_cons_succ]
                refine WalkU.tk 7 rfl ?_ (Or.inl ⟨by rfl, ?_⟩) hHeld ?_
                rotate_left
                · (intro w hSw; (try dsimp only at hSw); go_simp; try with_reducible rfl)
                try simp only [Act.put, List.setIfInBounds_toArray, List.set_cons_zero, List.set_cons_succ]
                refine WalkU.tk 8 rfl ?_ (Or.inl ⟨by rfl, ?_⟩) hHeld ?_
                rotate_left
                · (intro w hSw; (try dsimp only at hSw); go_simp; try with_reducible rfl)
                try simp only [Act.put, List.setIfInBounds_toArray, List.set_cons_zero, List.set_cons_succ]
                refine WalkU.tk 9 rfl ?_ (Or.inl ⟨by rfl, ?_⟩) hHeld ?_
                rotate_left
                · (intro w hSw; (try dsimp only at hSw); go_simp; try with_reducible rfl)
                try simp only [Act.put, List.setIfInBounds_toArray, List.set_cons_zero, List.set_cons_succ]
                refine WalkU.tk 10 rfl ?_ (Or.inl ⟨by rfl, ?_⟩) hHeld ?_
                rotate_left
                · (intro w hSw; (try dsimp only at hSw); go_simp; try with_reducible rfl)
                try simp only [Act.put, List.setIfInBounds_toArray, List.set_cons_zero, List.set_cons_succ]
                refine WalkU.tk 11 rfl undef (Or.inr ⟨by rfl, rfl⟩) hHeld ?_
                try simp only [Act.put, List.setIfInBounds_toArray, List.set_cons_zero, List.set_cons_succ]
                refine WalkU.tk 12 rfl undef (Or.inr ⟨by rfl, rfl⟩) hHeld ?_
                try simp only [Act.put, List.setIfInBounds_toArray, List.set_cons_zero, List.set_cons_succ]
                refine WalkU.tk 13 rfl undef (Or.inr ⟨by rfl, rfl⟩) hHeld ?_
                try simp only [Act.put, List.setIfInBounds_toArray, List.set_cons_zero, List.set_cons_succ]
                refine WalkU.tk 14 rfl undef (Or.inr ⟨by rfl, rfl⟩) hHeld ?_
                try simp only [Act.put, List.setIfInBounds_toArray, List.set_cons_zero, List.set_cons_succ]
                refine WalkU.tk 15 rfl undef (Or.inr ⟨by rfl, rfl⟩) hHeld ?_
                try simp only [Act.put, List.setIfInBounds_toArray, List.set_cons_zero, List.set_cons_succ]
                refine WalkU.tk 16 rfl undef (Or.inr ⟨by rfl, rfl⟩) hHeld ?_
                try simp only [Act.put, List.setIfInBounds_toArray, List.set_cons_zero, List.set_cons_succ]
                refine WalkU.tk 17 rfl undef (Or.inr ⟨by rfl, rfl⟩) hHeld ?_
                try simp only [Act.put, List.setIfInBounds_toArray, List.set_cons_zero, List.set_cons_succ]
                refine WalkU.tk 18 rfl undef (Or.inr ⟨by rfl, rfl⟩) hHeld ?_
                try simp only [Act.put, List.setIfInBounds_toArray, List.set_cons_zero, List.set_cons_succ]
                refine WalkU.tk 19 rfl undef (Or.inr ⟨by rfl, rfl⟩) hHeld ?_
                try simp only [Act.put, List.setIfInBounds_toArray, List.set_cons_zero, List.set_cons_succ]
                refine WalkU.tk 20 rfl undef (Or.inr ⟨by rfl, rfl⟩) hHeld ?_
                try simp only [Act.put, List.setIfInBounds_toArray, List.set_cons_zero, List.set_cons_succ]
                refine WalkU.tk 21 rfl undef (Or.inr ⟨by rfl, rfl⟩) hHeld ?_
                try simp only [Act.put, List.setIfInBounds_toArray, List.set_cons_zero, List.set_cons_succ]
                refine WalkU.tk 22 rfl ?_ (Or.inl ⟨by rfl, ?_⟩) hHeld ?_
                rotate_left
                · (intro w hSw; (try dsimp only at hSw); go_simp; try with_reducible rfl)
                try simp only [Act.put, List.setIfInBounds_toArray, List.set_cons_zero, List.set_cons_succ]
                refine WalkU.tk 23 rfl ?_ (Or.inl ⟨by rfl, ?_⟩) hHeld ?_
                rotate_left
                · (intro w hSw; (try dsimp only at hSw); go_simp; try with_reducible rfl)
                try simp only [Act.put, List.setIfInBounds_toArray, List.set_cons_zero, List.set_cons_succ]
                refine WalkU.tk 24 rfl ?_ (Or.inl ⟨by rfl, ?_⟩) hHeld ?_
                rotate_left
                · (intro w hSw; (try dsimp only at hSw); go_simp; try with_reducible rfl)
                try simp only [Act.put, List.setIfInBounds_toArray, List.set_cons_zero, List.set_cons_succ]
                refine WalkU.tk 25 rfl ?_ (Or.inl ⟨by rfl, ?_⟩) hHeld ?_
                rotate_left
                · (intro w hSw; (try dsimp only at hSw); go_simp; try with_reducible rfl)
                try simp only [Act.put, List.setIfInBounds_toArray, List.set_cons_zero, List.set_cons_succ]
                refine WalkU.tk 26 rfl ?_ (Or.inl ⟨by rfl, ?_⟩) hHeld ?_
                rotate_left
                · (intro w hSw; (try dsimp only at hSw); go_simp; try with_reducible rfl)
                try simp only [Act.put, List.setIfInBounds_toArray, List.set_cons_zero, List.set_cons_succ]
                refine WalkU.tk 27 rfl ?_ (Or.inl ⟨by rfl, ?_⟩) hHeld ?_
                rotate_left
                · (intro w hSw; (try dsimp only at hSw); go_simp; try with_reducible rfl)
                try simp only [Act.put, List.setIfInBounds_toArray, List.set_cons_zero, List.set_cons_succ]
                refine WalkU.tk 28 rfl ?_ (Or.inl ⟨by rfl, ?_⟩) hHeld ?_
                rotate_left
                · (intro w hSw; (try dsimp only at hSw); go_simp; try with_reducible rfl)
                try simp only [Act.put, List.setIfInBounds_toArray, List.set_cons_zero, List.set_cons_succ]
                refine WalkU.tk 29 rfl ?_ (Or.inl ⟨by rfl, ?_⟩) hHeld ?_
                rotate_left
                · (intro w hSw; (try dsimp only at hSw); go_simp; try with_reducible rfl)
                try simp only [Act.put, List.setIfInBounds_toArray, List.set_cons_zero, List.set_cons_succ]
                refine WalkU.tk 30 rfl ?_ (Or.inl ⟨by rfl, ?_⟩) hHeld ?_
                rotate_left
                · (intro w hSw; (try dsimp only at hSw); go_simp; try with_reducible rfl)
                try simp only [Act.put, List.setIfInBounds_toArray, List.set_cons_zero, List.set_cons_succ]
                refine WalkU.tk 31 rfl ?_ (Or.inl ⟨by rfl, ?_⟩) hHeld ?_
                rotate_left
                · (intro w hSw; (try dsimp only at hSw); go_simp; try with_reducible rfl)
                try simp only [Act.put, List.setIfInBounds_toArray, List.set_cons_zero, List.set_cons_succ]
                refine WalkU.tk 32 rfl undef (Or.inr ⟨by rfl, rfl⟩) hHeld ?_
                try simp only [Act.put, List.setIfInBounds_toArray, List.set_cons_zero, List.set_cons_succ]
                refine WalkU.tk 33 rfl undef (Or.inr ⟨by rfl, rfl⟩) hHeld ?_
                try simp only [Act.put, List.setIfInBounds_toArray, List.set_cons_zero, List.set_cons_succ]
                refine WalkU.tk 34 rfl undef (Or.inr ⟨by rfl, rfl⟩) hHeld ?_
                try simp only [Act.put, List.setIfInBounds_toArray, List.set_cons_zero, List.set_cons_succ]
                refine WalkU.tk 35 rfl undef (Or.inr ⟨by rfl, rfl⟩) hHeld ?_
                try simp only [Act.put, List.setIfInBounds_toArray, List.set_cons_zero, List.set_cons_succ]
                refine WalkU.tk 36 rfl undef (Or.inr ⟨by rfl, rfl⟩) hHeld ?_
                try simp only [Act.put, List.setIfInBounds_toArray, List.set_cons_zero, List.set_cons_succ]
                refine WalkU.tk 37 rfl undef (Or.inr ⟨by rfl, rfl⟩) hHeld ?_
                try simp only [Act.put, List.setIfInBounds_toArray, List.set_cons_zero, List.set_cons_succ]
                refine WalkU.tk 38 rfl undef (Or.inr ⟨by rfl, rfl⟩) hHeld ?_
                try simp only [Act.put, List.setIfInBounds_toArray, List.set_cons_zero, List.set_cons_succ]
                refine WalkU.tk 39 rfl undef (Or.inr ⟨by rfl, rfl⟩) hHeld ?_
                try simp only [Act.put, List.setIfInBounds_toArray, List.set_cons_zero, List.set_cons_succ]
                refine WalkU.tk 40 rfl ?_ (Or.inl ⟨by rfl, ?_⟩) hHeld ?_
                rotate_left
                · (intro w hSw; (try dsimp only at hSw); go_simp; try with_reducible rfl)
                try simp only [Act.put, List.setIfInBounds_toArray, List.set_cons_zero, List.set_cons_succ]
                refine WalkU.tk 41 rfl ?_ (Or.inl ⟨by rfl, ?_⟩) hHeld ?_
                rotate_left
                · (intro w hSw; (try dsimp only at hSw); go_simp; try with_reducible rfl)
                try simp only [Act.put, List.setIfInBounds_toArray, List.set_cons_zero, List.set_cons_succ]
                refine WalkU.tk 42 rfl undef (Or.inr ⟨by rfl, rfl⟩) hHeld ?_
                try simp only [Act.put, List.setIfInBounds_toArray, List.set_cons_zero, List.set_cons_succ]
                refine WalkU.tk 43 rfl undef (Or.inr ⟨by rfl, rfl⟩) hHeld ?_
                try simp only [Act.put, List.setIfInBounds_toArray, List.set_cons_zero, List.set_cons_succ]
                refine WalkU.tk 44 rfl undef (Or.inr ⟨by rfl, rfl⟩) hHeld ?_
                try simp only [Act.put, List.setIfInBounds_toArray, List.set_cons_zero, List.set_cons_succ]
                refine WalkU.tk 45 rfl undef (Or.inr ⟨by rfl, rfl⟩) hHeld ?_
                try simp only [Act.put, List.setIfInBounds_toArray, List.set_cons_zero, List.set_cons_succ]
                refine WalkU.tk 46 rfl undef (Or.inr ⟨by rfl, rfl⟩) hHeld ?_
                try simp only [Act.put, List.setIfInBounds_toArray, List.set_cons_zero, List.set_cons_succ]
                refine WalkU.tk 47 rfl undef (Or.inr ⟨by rfl, rfl⟩) hHeld ?_
                try simp only [Act.put, List.setIfInBounds_toArray, List.set_cons_zero, List.set_cons_succ]
                refine WalkU.tk 48 rfl ?_ (Or.inl ⟨by rfl, ?_⟩) hHeld ?_
                rotate_left
                · (intro w hSw; (try dsimp only at hSw); go_simp; try with_reducible rfl)
                try simp only [Act.put, List.setIfInBounds_toArray, List.set_cons_zero, List.set_cons_succ]
                refine WalkU.last (i := 49) rfl rfl (by kernel_rfl) (by kernel_rfl) (fun K hK => ?_)
                go_simp
                refine hK.out _ _ ?_
                clear hK K
                try simp only [Act.put, List.setIfInBounds_toArray, List.set_cons_zero, List.set_cons_succ]
                go_wp2_with fail
                go_meet
                exact ⟨rfl, hbW⟩
          · obtain ⟨j, rfl⟩ : ∃ j, k = j + 1 := ⟨k - 1, by omega⟩
            have Hord : Hid (cmpRat (nrm (vtxV zr rs) j) (bnd (vtxV zr rs) j) (nrm (vtxV zr rs) (j + 1)) (bnd (vtxV zr rs) (j + 1)) = -1) := Lib.hid (by have := vtx_order (i := j + 1) (by omega) hkm; simpa using this)
            obtain ⟨bl', ol', qj, mj, dj_, eqj, hj0, hj1, hmdj, hd9j, hij⟩ := hlW.cell j (by omega)
            injection eqj with eqj
            injection eqj with e1 e2
            subst e1
            subst e2
            have hmj : mj ≤ 9223372036854775807 := by omega
            clear hmdj hd9j
            have hwj : IntKind.i64.wrap ((j : Int) + 1 - 1) = (j : Int) := by rw [wrapEq, show (j : Int) + 1 - 1 = (j : Int) by omega]; exact wrap64_id (by omega) (by omega)
            have hwj2 : IntKind.i64.wrap (j : Int) = (j : Int) := by rw [wrapEq]; exact wrap64_id (by omega) (by omega)
            have hgt : decide ((0 : Int) < (j : Int) + 1) = true := decide_eq_true (by omega)
            have hzj1 : (0 : Int) ≤ (j : Int) := by omega
            have hzj2 : (j : Int) < (nl : Int) := by omega
            have hzk1 : (0 : Int) ≤ (j : Int) + 1 := by omega
            have hzk2 : (j : Int) + 1 < (nl : Int) := by omega
            have htn : ((j : Int) + 1).toNat = j + 1 := by omega
            generalize nrm (vtxV zr rs) j = xj at *
            generalize bnd (vtxV zr rs) j = dj at *
            generalize nrm (vtxV zr rs) (j + 1) = xk at *
            generalize bnd (vtxV zr rs) (j + 1) = dk at *
            clear Heq Hlen
            by_cases hden : dk = 1
            · subst hden
              cases hpt : hasPt zr rs xk
              · have HIV : Hid (isVec xk = false) := Lib.hid (by
                  cases hv : isVec xk
                  · rfl
                  · have := Hwh.out rfl hv
                    rw [hpt] at this; cases this)
                have HPT := Lib.hid hpt
                clear hpt Hwh
                as_aux_lemma =>
                  have hrD := hrW.drew
                  have hiD := hik.drew
                  have hbW := drewBelow W
                  have hjD := hij.drew
                  refine wp_region_u 49 50 (fun w' => w'.cell? ⟨bR, 0, none⟩ = some (.int .i64 zr) ∧ w'.cell? ⟨bR, 1, none⟩ = some (.slice qr kr dr) ∧ w'.cell? ⟨bl, ol + (j + 1) * 2, none⟩ = some (.slice qk mk dk_) ∧ w'.cell? ⟨bl, ol + (j + 1) * 2 + 1, none⟩ = some (.int .i64 1) ∧ w'.cell? ⟨bl, ol + j * 2, none⟩ = some (.slice qj mj dj_) ∧ w'.cell? ⟨bl, ol + j * 2 + 1, none⟩ = some (.int .i64 dj)) (by kernel_rfl) rfl (by (try dsimp only); exact ⟨kW0, kW1, hc0, hc1, hj0, hj1⟩) (fun hHeld => ?_)
                  refine WalkU.tk 0 rfl ?_ (Or.inl ⟨by rfl, ?_⟩) hHeld ?_
                  rotate_left
                  · (intro w hSw; (try dsimp only at hSw); go_simp; try with_reducible rfl)
                  try simp only [Act.put, List.setIfInBounds_toArray, List.set_cons_zero, List.set_cons_succ]
                  refine WalkU.tk 1 rfl ?_ (Or.inl ⟨by rfl, ?_⟩) hHeld ?_
                  rotate_left
                  · (intro w hSw; (try dsimp only at hSw); go_simp; try with_reducible rfl)
                  try simp only [Act.put, List.setIfInBounds_toArray, List.set_cons_zero, List.set_cons_succ]
                  refine WalkU.tk 2 rfl ?_ (Or.inl ⟨by rfl, ?_⟩) hHeld ?_
                  rotate_left
                  · (intro w hSw; (try dsimp only at hSw); go_simp; try with_reducible rfl)
                  try simp only [Act.put, List.setIfInBounds_toArray, List.set_cons_zero, List.set_cons_succ]
                  refine WalkU.tk 3 rfl ?_ (Or.inl ⟨by rfl, ?_⟩) hHeld ?_
                  rotate_left
                  · (intro w hSw; (try dsimp only at hSw); go_simp; try with_reducible rfl)
                  try simp only [Act.put, List.setIfInBounds_toArray, List.set_cons_zero, List.set_cons_succ]
                  refine WalkU.tk 4 rfl ?_ (Or.inl ⟨by rfl, ?_⟩) hHeld ?_
                  rotate_left
                  · (intro w hSw; (try dsimp only at hSw); go_simp; try with_reducible rfl)
                  try simp only [Act.put, List.setIfInBounds_toArray, List.set_cons_zero, List.set_cons_succ]
                  refine WalkU.one (i := 5) rfl (by kernel_rfl) (fun K hK => ?_)
                  first
                    | (first | (go_at_call 14; (with_reducible refine (implHasRat_any _ _ _ _ _ _ _ _ _ _ _ (by omega) hmk hrD hiD).mono ?_); rw [Hhas.out]; rintro e w5 ⟨rfl, hb5⟩; replace hrD := hrD.below hb5; replace hiD := hiD.below hb5; replace hjD := hjD.below hb5; replace kW0 := (hb5.cell (World.block_lt_of_cell? _ _ kW0)).trans kW0; replace kW1 := (hb5.cell (World.block_lt_of_cell? _ _ kW1)).trans kW1; replace hc0 := (hb5.cell (World.block_lt_of_cell? _ _ hc0)).trans hc0; replace hc1 := (hb5.cell (World.block_lt_of_cell? _ _ hc1)).trans hc1; replace hj0 := (hb5.cell (World.block_lt_of_cell? _ _ hj0)).trans hj0; replace hj1 := (hb5.cell (World.block_lt_of_cell? _ _ hj1)).trans hj1; replace hbW := Below.step hbW hb5) | (go_at_call 16; (with_reducible refine (implCompareRat_any _ _ _ _ _ _ _ _ _ _ _ hmj hmk hjD hiD).mono ?_); rw [Hord.out]; rintro e w5 ⟨rfl, hb5⟩; replace hrD := hrD.below hb5; replace hiD := hiD.below hb5; replace hjD := hjD.below hb5; replace kW0 := (hb5.cell (World.block_lt_of_cell? _ _ kW0)).trans kW0; replace kW1 := (hb5.cell (World.block_lt_of_cell? _ _ kW1)).trans kW1; replace hc0 := (hb5.cell (World.block_lt_of_cell? _ _ hc0)).trans hc0; replace hc1 := (hb5.cell (World.block_lt_of_cell? _ _ hc1)).trans hc1; replace hj0 := (hb5.cell (World.block_lt_of_cell? _ _ hj0)).trans hj0; replace hj1 := (hb5.cell (World.block_lt_of_cell? _ _ hj1)).trans hj1; replace hbW := Below.step hbW hb5) | (go_at_call 20; (with_reducible refine (implHas_any _ _ _ _ _ _ _ _ _ _ (by omega) hmk hrD hiD).mono ?_); rw [HPT.out]; rintro e w5 ⟨rfl, hb5⟩; replace hrD := hrD.below hb5; replace hiD := hiD.below hb5; replace hjD := hjD.below hb5; replace kW0 := (hb5.cell (World.block_lt_of_cell? _ _ kW0)).trans kW0; replace kW1 := (hb5.cell (World.block_lt_of_cell? _ _ kW1)).trans kW1; replace hc0 := (hb5.cell (World.block_lt_of_cell? _ _ hc0)).trans hc0; replace hc1 := (hb5.cell (World.block_lt_of_cell? _ _ hc1)).trans hc1; replace hj0 := (hb5.cell (World.block_lt_of_cell? _ _ hj0)).trans hj0; replace hj1 := (hb5.cell (World.block_lt_of_cell? _ _ hj1)).trans hj1; replace hbW := Below.step hbW hb5) | (go_at_call 21; (with_reducible refine (specIsVector_any _ _ _ _ _ hiD hmk).mono ?_); rw [HIV.out]; rintro e w5 ⟨rfl, rfl⟩))
                    | (go_simp; (first | (go_at_call 14; (with_reducible refine (implHasRat_any _ _ _ _ _ _ _ _ _ _ _ (by omega) hmk hrD hiD).mono ?_); rw [Hhas.out]; rintro e w5 ⟨rfl, hb5⟩; replace hrD := hrD.below hb5; replace hiD := hiD.below hb5; replace hjD := hjD.below hb5; replace kW0 := (hb5.cell (World.block_lt_of_cell? _ _ kW0)).trans kW0; replace kW1 := (hb5.cell (World.block_lt_of_cell? _ _ kW1)).trans kW1; replace hc0 := (hb5.cell (World.block_lt_of_cell? _ _ hc0)).trans hc0; replace hc1 := (hb5.cell (World.block_lt_of_cell? _ _ hc1)).trans hc1; replace hj0 := (hb5.cell (World.block_lt_of_cell? _ _ hj0)).trans hj0; replace hj1 := (hb5.cell (World.block_lt_of_cell? _ _ hj1)).trans hj1; replace hbW := Below.step hbW hb5) | (go_at_call 16; (with_reducible refine (implCompareRat_any _ _ _ _ _ _ _ _ _ _ _ hmj hmk hjD hiD).mono ?_); rw [Hord.out]; rintro e w5 ⟨rfl, hb5⟩; replace hrD := hrD.below hb5; replace hiD := hiD.below hb5; replace hjD := hjD.below hb5; replace kW0 := (hb5.cell (World.block_lt_of_cell? _ _ kW0)).trans kW0; replace kW1 := (hb5.cell (World.block_lt_of_cell? _ _ kW1)).trans kW1; replace hc0 := (hb5.cell (World.block_lt_of_cell? _ _ hc0)).trans hc0; replace hc1 := (hb5.cell (World.block_lt_of_cell? _ _ hc1)).trans hc1; replace hj0 := (hb5.cell (World.block_lt_of_cell? _ _ hj0)).trans hj0; replace hj1 := (hb5.cell (World.block_lt_of_cell? _ _ hj1)).trans hj1; replace hbW := Below.step hbW hb5) | (go_at_call 20; (with_reducible refine (implHas_any _ _ _ _ _ _ _ _ _ _ (by omega) hmk hrD hiD).mono ?_); rw [HPT.out]; rintro e w5 ⟨rfl, hb5⟩; replace hrD := hrD.below hb5; replace hiD := hiD.below hb5; replace hjD := hjD.below hb5; replace kW0 := (hb5.cell (World.block_lt_of_cell? _ _ kW0)).trans kW0; replace kW1 := (hb5.cell (World.block_lt_of_cell? _ _ kW1)).trans kW1; replace hc0 := (hb5.cell (World.block_lt_of_cell? _ _ hc0)).trans hc0; replace hc1 := (hb5.cell (World.block_lt_of_cell? _ _ hc1)).trans hc1; replace hj0 := (hb5.cell (World.block_lt_of_cell? _ _ hj0)).trans hj0; replace hj1 := (hb5.cell (World.block_lt_of_cell? _ _ hj1)).trans hj1; replace hbW := Below.step hbW hb5) | (go_at_call 21; (with_reducible refine (specIsVector_any _ _ _ _ _ hiD hmk).mono ?_); rw [HIV.out]; rintro e w5 ⟨rfl, rfl⟩)))
                  refine hK.out _ _ ?_ (fun hHeld => ?_)
                  · ((try dsimp only); exact ⟨kW0, kW1, hc0, hc1, hj0, hj1⟩)
                  clear hK K
                  try simp only [Act.put, List.setIfInBounds_toArray, List.set_cons_zero, List.set_cons_succ]
                  refine WalkU.tk 6 rfl ?_ (Or.inl ⟨by rfl, ?_⟩) hHeld ?_
                  rotate_left
                  · (intro w hSw; (try dsimp only at hSw); go_simp; try with_reducible rfl)
                  try simp only [Act.put, List.setIfInBounds_toArray, List.set_cons_zero, List.set_cons_succ]
                  refine WalkU.tk 7 rfl ?_ (Or.inl ⟨by rfl, ?_⟩) hHeld ?_
                  rotate_left
                  · (intro w hSw; (try dsimp only at hSw); go_simp; try with_reducible rfl)
                  try simp only [Act.put, List.setIfInBounds_toArray, List.set_cons_zero, List.set_cons_succ]
                  refine WalkU.tk 8 rfl ?_ (Or.inl ⟨by rfl, ?_⟩) hHeld ?_
                  rotate_left
                  · (intro w hSw; (try dsimp only at hSw); go_simp; try with_reducible rfl)
                  try simp only [Act.put, List.setIfInBounds_toArray, List.set_cons_zero, List.set_cons_succ]
                  refine WalkU.tk 9 rfl ?_ (Or.inl ⟨by rfl, ?_⟩) hHeld ?_
                  rotate_left
                  · (intro w hSw; (try dsimp only at hSw); go_simp; try with_reducible rfl)
                  try simp only [Act.put, List.setIfInBounds_toArray, List.set_cons_zero, List.set_cons_succ]
                  refine WalkU.tk 10 rfl ?_ (Or.inl ⟨by rfl, ?_⟩) hHeld ?_
                  rotate_left
                  · (intro w hSw; (try dsimp only at hSw); go_simp; try with_reducible rfl)
                  try simp only [Act.put, List.setIfInBounds_toArray, List.set_cons_zero, List.set_cons_succ]
                  refine WalkU.tk 11 rfl ?_ (Or.inl ⟨by rfl, ?_⟩) hHeld ?_
                  rotate_left
                  · (intro w hSw; (try dsimp only at hSw); go_simp; try with_reducible rfl)
                  try simp only [Act.put, List.setIfInBounds_toArray, List.set_cons_zero, List.set_cons_succ]
                  refine WalkU.tk 12 rfl ?_ (Or.inl ⟨by rfl, ?_⟩) hHeld ?_
                  rotate_left
                  · (intro w hSw; (try dsimp only at hSw); go_simp; try with_reducible rfl)
                  try simp only [Act.put, List.setIfInBounds_toArray, List.set_cons_zero, List.set_cons_succ]
                  refine WalkU.tk 13 rfl ?_ (Or.inl ⟨by rfl, ?_⟩) hHeld ?_
                  rotate_left
                  · (intro w hSw; (try dsimp only at hSw); go_simp; try with_reducible rfl)
                  try simp only [Act.put, List.setIfInBounds_toArray, List.set_cons_zero, List.set_cons_succ]
                  refine WalkU.tk 14 rfl ?_ (Or.inl ⟨by rfl, ?_⟩) hHeld ?_
                  rotate_left
                  · (intro w hSw; (try dsimp only at hSw); go_simp; try with_reducible rfl)
                  try simp only [Act.put, List.setIfInBounds_toArray, List.set_cons_zero, List.set_cons_succ]
                  refine WalkU.tk 15 rfl ?_ (Or.inl ⟨by rfl, ?_⟩) hHeld ?_
                  rotate_left
                  · (intro w hSw; (try dsimp only at hSw); go_simp; try with_reducible rfl)
                  try simp only [Act.put, List.setIfInBounds_toArray, List.set_cons_zero, List.set_cons_succ]
                  refine WalkU.tk 16 rfl ?_ (Or.inl ⟨by rfl, ?_⟩) hHeld ?_
                  rotate_left
                  · (intro w hSw; (try dsimp only at hSw); go_simp; try with_reducible rfl)
                  try simp only [Act.put, List.setIfInBounds_toArray, List.set_cons_zero, List.set_cons_succ]
                  refine WalkU.tk 17 rfl ?_ (Or.inl ⟨by rfl, ?_⟩) hHeld ?_
                  rotate_left
                  · (intro w hSw; (try dsimp only at hSw); go_simp; try with_reducible rfl)
                  try simp only [Act.put, List.setIfInBounds_toArray, List.set_cons_zero, List.set_cons_succ]
                  refine WalkU.tk 18 rfl ?_ (Or.inl ⟨by rfl, ?_⟩) hHeld ?_
                  rotate_left
                  · (intro w hSw; (try dsimp only at hSw); go_simp; try with_reducible rfl)
                  try simp only [Act.put, List.setIfInBounds_toArray, List.set_cons_zero, List.set_cons_succ]
                  refine WalkU.tk 19 rfl ?_ (Or.inl ⟨by rfl, ?_⟩) hHeld ?_
                  rotate_left
                  · (intro w hSw; (try dsimp only at hSw); go_simp; try with_reducible rfl)
                  try simp only [Act.put, List.setIfInBounds_toArray, List.set_cons_zero, List.set_cons_succ]
                  refine WalkU.one (i := 20) rfl (by kernel_rfl) (fun K hK => ?_)
                  first
                    | (first | (go_at_call 14; (with_reducible refine (implHasRat_any _ _ _ _ _ _ _ _ _ _ _ (by omega) hmk hrD hiD).mono ?_); rw [Hhas.out]; rintro e w5 ⟨rfl, hb5⟩; replace hrD := hrD.below hb5; replace hiD := hiD.below hb5; replace hjD := hjD.below hb5; replace kW0 := (hb5.cell (World.block_lt_of_cell? _ _ kW0)).trans kW0; replace kW1 := (hb5.cell (World.block_lt_of_cell? _ _ kW1)).trans kW1; replace hc0 := (hb5.cell (World.block_lt_of_cell? _ _ hc0)).trans hc0; replace hc1 := (hb5.cell (World.block_lt_of_cell? _ _ hc1)).trans hc1; replace hj0 := (hb5.cell (World.block_lt_of_cell? _ _ hj0)).trans hj0; replace hj1 := (hb5.cell (World.block_lt_of_cell? _ _ hj1)).trans hj1; replace hbW := Below.step hbW hb5) | (go_at_call 16; (with_reducible refine (implCompareRat_any _ _ _ _ _ _ _ _ _ _ _ hmj hmk hjD hiD).mono ?_); rw [Hord.out]; rintro e w5 ⟨rfl, hb5⟩; replace hrD := hrD.below hb5; replace hiD := hiD.below hb5; replace hjD := hjD.below hb5; replace kW0 := (hb5.cell (World.block_lt_of_cell? _ _ kW0)).trans kW0; replace kW1 := (hb5.cell (World.block_lt_of_cell? _ _ kW1)).trans kW1; replace hc0 := (hb5.cell (World.block_lt_of_cell? _ _ hc0)).trans hc0; replace hc1 := (hb5.cell (World.block_lt_of_cell? _ _ hc1)).trans hc1; replace hj0 := (hb5.cell (World.block_lt_of_cell? _ _ hj0)).trans hj0; replace hj1 := (hb5.cell (World.block_lt_of_cell? _ _ hj1)).trans hj1; replace hbW := Below.step hbW hb5) | (go_at_call 20; (with_reducible refine (implHas_any _ _ _ _ _ _ _ _ _ _ (by omega) hmk hrD hiD).mono ?_); rw [HPT.out]; rintro e w5 ⟨rfl, hb5⟩; replace hrD := hrD.below hb5; replace hiD := hiD.below hb5; replace hjD := hjD.below hb5; replace kW0 := (hb5.cell (World.block_lt_of_cell? _ _ kW0)).trans kW0; replace kW1 := (hb5.cell (World.block_lt_of_cell? _ _ kW1)).trans kW1; replace hc0 := (hb5.cell (World.block_lt_of_cell? _ _ hc0)).trans hc0; replace hc1 := (hb5.cell (World.block_lt_of_cell? _ _ hc1)).trans hc1; replace hj0 := (hb5.cell (World.block_lt_of_cell? _ _ hj0)).trans hj0; replace hj1 := (hb5.cell (World.block_lt_of_cell? _ _ hj1)).trans hj1; replace hbW := Below.step hbW hb5) | (go_at_call 21; (with_reducible refine (specIsVector_any _ _ _ _ _ hiD hmk).mono ?_); rw [HIV.out]; rintro e w5 ⟨rfl, rfl⟩))
                    | (go_simp; (first | (go_at_call 14; (with_reducible refine (implHasRat_any _ _ _ _ _ _ _ _ _ _ _ (by omega) hmk hrD hiD).mono ?_); rw [Hhas.out]; rintro e w5 ⟨rfl, hb5⟩; replace hrD := hrD.below hb5; replace hiD := hiD.below hb5; replace hjD := hjD.below hb5; replace kW0 := (hb5.cell (World.block_lt_of_cell? _ _ kW0)).trans kW0; replace kW1 := (hb5.cell (World.block_lt_of_cell? _ _ kW1)).trans kW1; replace hc0 := (hb5.cell (World.block_lt_of_cell? _ _ hc0)).trans hc0; replace hc1 := (hb5.cell (World.block_lt_of_cell? _ _ hc1)).trans hc1; replace hj0 := (hb5.cell (World.block_lt_of_cell? _ _ hj0)).trans hj0; replace hj1 := (hb5.cell (World.block_lt_of_cell? _ _ hj1)).trans hj1; replace hbW := Below.step hbW hb5) | (go_at_call 16; (with_reducible refine (implCompareRat_any _ _ _ _ _ _ _ _ _ _ _ hmj hmk hjD hiD).mono ?_); rw [Hord.out]; rintro e w5 ⟨rfl, hb5⟩; replace hrD := hrD.below hb5; replace hiD := hiD.below hb5; replace hjD := hjD.below hb5; replace kW0 := (hb5.cell (World.block_lt_of_cell? _ _ kW0)).trans kW0; replace kW1 := (hb5.cell (World.block_lt_of_cell? _ _ kW1)).trans kW1; replace hc0 := (hb5.cell (World.block_lt_of_cell? _ _ hc0)).trans hc0; replace hc1 := (hb5.cell (World.block_lt_of_cell? _ _ hc1)).trans hc1; replace hj0 := (hb5.cell (World.block_lt_of_cell? _ _ hj0)).trans hj0; replace hj1 := (hb5.cell (World.block_lt_of_cell? _ _ hj1)).trans hj1; replace hbW := Below.step hbW hb5) | (go_at_call 20; (with_reducible refine (implHas_any _ _ _ _ _ _ _ _ _ _ (by omega) hmk hrD hiD).mono ?_); rw [HPT.out]; rintro e w5 ⟨rfl, hb5⟩; replace hrD := hrD.below hb5; replace hiD := hiD.below hb5; replace hjD := hjD.below hb5; replace kW0 := (hb5.cell (World.block_lt_of_cell? _ _ kW0)).trans kW0; replace kW1 := (hb5.cell (World.block_lt_of_cell? _ _ kW1)).trans kW1; replace hc0 := (hb5.cell (World.block_lt_of_cell? _ _ hc0)).trans hc0; replace hc1 := (hb5.cell (World.block_lt_of_cell? _ _ hc1)).trans hc1; replace hj0 := (hb5.cell (World.block_lt_of_cell? _ _ hj0)).trans hj0; replace hj1 := (hb5.cell (World.block_lt_of_cell? _ _ hj1)).trans hj1; replace hbW := Below.step hbW hb5) | (go_at_call 21; (with_reducible refine (specIsVector_any _ _ _ _ _ hiD hmk).mono ?_); rw [HIV.out]; rintro e w5 ⟨rfl, rfl⟩)))
                  refine hK.out _ _ ?_ (fun hHeld => ?_)
                  · ((try dsimp only); exact ⟨kW0, kW1, hc0, hc1, hj0, hj1⟩)
                  clear hK K
                  try simp only [Act.put, List.setIfInBounds_toArray, List.set_cons_zero, List.set_cons_succ]
                  refine WalkU.tk 21 rfl ?_ (Or.inl ⟨by rfl, ?_⟩) hHeld ?_
                  rotate_left
                  · (intro w hSw; (try dsimp only at hSw); go_simp; try with_reducible rfl)
                  try simp only [Act.put, List.setIfInBounds_toArray, List.set_cons_zero, List.set_cons_succ]
                  refine WalkU.tk 22 rfl ?_ (Or.inl ⟨by rfl, ?_⟩) hHeld ?_
                  rotate_left
                  · (intro w hSw; (try dsimp only at hSw); go_simp; try with_reducible rfl)
                  try simp only [Act.put, List.setIfInBounds_toArray, List.set_cons_zero, List.set_cons_succ]
                  refine WalkU.tk 23 rfl ?_ (Or.inl ⟨by rfl, ?_⟩) hHeld ?_
                  rotate_left
                  · (intro w hSw; (try dsimp only at hSw); go_simp; try with_reducible rfl)
                  try simp only [Act.put, List.setIfInBounds_toArray, List.set_cons_zero, List.set_cons_succ]
                  refine WalkU.tk 24 rfl ?_ (Or.inl ⟨by rfl, ?_⟩) hHeld ?_
                  rotate_left
                  · (intro w hSw; (try dsimp only at hSw); go_simp; try with_reducible rfl)
                  try simp only [Act.put, List.setIfInBounds_toArray, List.set_cons_zero, List.set_cons_succ]
                  refine WalkU.tk 25 rfl ?_ (Or.inl ⟨by rfl, ?_⟩) hHeld ?_
                  rotate_left
                  · (intro w hSw; (try dsimp only at hSw); go_simp; try with_reducible rfl)
                  try simp only [Act.put, List.setIfInBounds_toArray, List.set_cons_zero, List.set_cons_succ]
                  refine WalkU.tk 26 rfl ?_ (Or.inl ⟨by rfl, ?_⟩) hHeld ?_
                  rotate_left
                  · (intro w hSw; (try dsimp only at hSw); go_simp; try with_reducible rfl)
                  try simp only [Act.put, List.setIfInBounds_toArray, List.set_cons_zero, List.set_cons_succ]
                  refine WalkU.tk 27 rfl ?_ (Or.inl ⟨by rfl, ?_⟩) hHeld ?_
                  rotate_left
                  · (intro w hSw; (try dsimp only at hSw); go_simp; try with_reducible rfl)
                  try simp only [Act.put, List.setIfInBounds_toArray, List.set_cons_zero, List.set_cons_succ]
                  refine WalkU.tk 28 rfl ?_ (Or.inl ⟨by rfl, ?_⟩) hHeld ?_
                  rotate_left
                  · (intro w hSw; (try dsimp only at hSw); go_simp; try with_reducible rfl)
                  try simp only [Act.put, List.setIfInBounds_toArray, List.set_cons_zero, List.set_cons_succ]
                  refine WalkU.tk 29 rfl ?_ (Or.inl ⟨by rfl, ?_⟩) hHeld ?_
                  rotate_left
                  · (intro w hSw; (try dsimp only at hSw); go_simp; try with_reducible rfl)
                  try simp only [Act.put, List.setIfInBounds_toArray, List.set_cons_zero, List.set_cons_succ]
                  refine WalkU.tk 30 rfl ?_ (Or.inl ⟨by rfl, ?_⟩) hHeld ?_
                  rotate_left
                  · (intro w hSw; (try dsimp only at hSw); go_simp; try with_reducible rfl)
                  try simp only [Act.put, List.setIfInBounds_toArray, List.set_cons_zero, List.set_cons_succ]
                  refine WalkU.tk 31 rfl ?_ (Or.inl ⟨by rfl, ?_⟩) hHeld ?_
                  rotate_left
                  · (intro w hSw; (try dsimp only at hSw); go_simp; try with_reducible rfl)
                  try simp only [Act.put, List.setIfInBounds_toArray, List.set_cons_zero, List.set_cons_succ]
                  refine WalkU.tk 32 rfl ?_ (Or.inl ⟨by rfl, ?_⟩) hHeld ?_
                  rotate_left
                  · (intro w hSw; (try dsimp only at hSw); go_simp; try with_reducible rfl)
                  try simp only [Act.put, List.setIfInBounds_toArray, List.set_cons_zero, List.set_cons_succ]
                  refine WalkU.tk 33 rfl ?_ (Or.inl ⟨by rfl, ?_⟩) hHeld ?_
                  rotate_left
                  · (intro w hSw; (try dsimp only at hSw); go_simp; try with_reducible rfl)
                  try simp only [Act.put, List.setIfInBounds_toArray, List.set_cons_zero, List.set_cons_succ]
                  refine WalkU.tk 34 rfl ?_ (Or.inl ⟨by rfl, ?_⟩) hHeld ?_
                  rotate_left
                  · (intro w hSw; (try dsimp only at hSw); go_simp; try with_reducible rfl)
                  try simp only [Act.put, List.setIfInBounds_toArray, List.set_cons_zero, List.set_cons_succ]
                  refine WalkU.tk 35 rfl ?_ (Or.inl ⟨by rfl, ?_⟩) hHeld ?_
                  rotate_left
                  · (intro w hSw; (try dsimp only at hSw); go_simp; try with_reducible rfl)
                  try simp only [Act.put, List.setIfInBounds_toArray, List.set_cons_zero, List.set_cons_succ]
                  refine WalkU.tk 36 rfl ?_ (Or.inl ⟨by rfl, ?_⟩) hHeld ?_
                  rotate_left
                  · (intro w hSw; (try dsimp only at hSw); go_simp; try with_reducible rfl)
                  try simp only [Act.put, List.setIfInBounds_toArray, List.set_cons_zero, List.set_cons_succ]
                  refine WalkU.tk 37 rfl ?_ (Or.inl ⟨by rfl, ?_⟩) hHeld ?_
                  rotate_left
                  · (intro w hSw; (try dsimp only at hSw); go_simp; try with_reducible rfl)
                  try simp only [Act.put, List.setIfInBounds_toArray, List.set_cons_zero, List.set_cons_succ]
                  refine WalkU.one (i := 38) rfl (by kernel_rfl) (fun K hK => ?_)
                  first
                    | (first | (go_at_call 14; (with_reducible refine (implHasRat_any _ _ _ _ _ _ _ _ _ _ _ (by omega) hmk hrD hiD).mono ?_); rw [Hhas.out]; rintro e w5 ⟨rfl, hb5⟩; replace hrD := hrD.below hb5; replace hiD := hiD.below hb5; replace hjD := hjD.below hb5; replace kW0 := (hb5.cell (World.block_lt_of_cell? _ _ kW0)).trans kW0; replace kW1 := (hb5.cell (World.block_lt_of_cell? _ _ kW1)).trans kW1; replace hc0 := (hb5.cell (World.block_lt_of_cell? _ _ hc0)).trans hc0; replace hc1 := (hb5.cell (World.block_lt_of_cell? _ _ hc1)).trans hc1; replace hj0 := (hb5.cell (World.block_lt_of_cell? _ _ hj0)).trans hj0; replace hj1 := (hb5.cell (World.block_lt_of_cell? _ _ hj1)).trans hj1; replace hbW := Below.step hbW hb5) | (go_at_call 16; (with_reducible refine (implCompareRat_any _ _ _ _ _ _ _ _ _ _ _ hmj hmk hjD hiD).mono ?_); rw [Hord.out]; rintro e w5 ⟨rfl, hb5⟩; replace hrD := hrD.below hb5; replace hiD := hiD.below hb5; replace hjD := hjD.below hb5; replace kW0 := (hb5.cell (World.block_lt_of_cell? _ _ kW0)).trans kW0; replace kW1 := (hb5.cell (World.block_lt_of_cell? _ _ kW1)).trans kW1; replace hc0 := (hb5.cell (World.block_lt_of_cell? _ _ hc0)).trans hc0; replace hc1 := (hb5.cell (World.block_lt_of_cell? _ _ hc1)).trans hc1; replace hj0 := (hb5.cell (World.block_lt_of_cell? _ _ hj0)).trans hj0; replace hj1 := (hb5.cell (World.block_lt_of_cell? _ _ hj1)).trans hj1; replace hbW := Below.step hbW hb5) | (go_at_call 20; (with_reducible refine (implHas_any _ _ _ _ _ _ _ _ _ _ (by omega) hmk hrD hiD).mono ?_); rw [HPT.out]; rintro e w5 ⟨rfl, hb5⟩; replace hrD := hrD.below hb5; replace hiD := hiD.below hb5; replace hjD := hjD.below hb5; replace kW0 := (hb5.cell (World.block_lt_of_cell? _ _ kW0)).trans kW0; replace kW1 := (hb5.cell (World.block_lt_of_cell? _ _ kW1)).trans kW1; replace hc0 := (hb5.cell (World.block_lt_of_cell? _ _ hc0)).trans hc0; replace hc1 := (hb5.cell (World.block_lt_of_cell? _ _ hc1)).trans hc1; replace hj0 := (hb5.cell (World.block_lt_of_cell? _ _ hj0)).trans hj0; replace hj1 := (hb5.cell (World.block_lt_of_cell? _ _ hj1)).trans hj1; replace hbW := Below.step hbW hb5) | (go_at_call 21; (with_reducible refine (specIsVector_any _ _ _ _ _ hiD hmk).mono ?_); rw [HIV.out]; rintro e w5 ⟨rfl, rfl⟩))
                    | (go_simp; (first | (go_at_call 14; (with_reducible refine (implHasRat_any _ _ _ _ _ _ _ _ _ _ _ (by omega) hmk hrD hiD).mono ?_); rw [Hhas.out]; rintro e w5 ⟨rfl, hb5⟩; replace hrD := hrD.below hb5; replace hiD := hiD.below hb5; replace hjD := hjD.below hb5; replace kW0 := (hb5.cell (World.block_lt_of_cell? _ _ kW0)).trans kW0; replace kW1 := (hb5.cell (World.block_lt_of_cell? _ _ kW1)).trans kW1; replace hc0 := (hb5.cell (World.block_lt_of_cell? _ _ hc0)).trans hc0; replace hc1 := (hb5.cell (World.block_lt_of_cell? _ _ hc1)).trans hc1; replace hj0 := (hb5.cell (World.block_lt_of_cell? _ _ hj0)).trans hj0; replace hj1 := (hb5.cell (World.block_lt_of_cell? _ _ hj1)).trans hj1; replace hbW := Below.step hbW hb5) | (go_at_call 16; (with_reducible refine (implCompareRat_any _ _ _ _ _ _ _ _ _ _ _ hmj hmk hjD hiD).mono ?_); rw [Hord.out]; rintro e w5 ⟨rfl, hb5⟩; replace hrD := hrD.below hb5; replace hiD := hiD.below hb5; replace hjD := hjD.below hb5; replace kW0 := (hb5.cell (World.block_lt_of_cell? _ _ kW0)).trans kW0; replace kW1 := (hb5.cell (World.block_lt_of_cell? _ _ kW1)).trans kW1; replace hc0 := (hb5.cell (World.block_lt_of_cell? _ _ hc0)).trans hc0; replace hc1 := (hb5.cell (World.block_lt_of_cell? _ _ hc1)).trans hc1; replace hj0 := (hb5.cell (World.block_lt_of_cell? _ _ hj0)).trans hj0; replace hj1 := (hb5.cell (World.block_lt_of_cell? _ _ hj1)).trans hj1; replace hbW := Below.step hbW hb5) | (go_at_call 20; (with_reducible refine (implHas_any _ _ _ _ _ _ _ _ _ _ (by omega) hmk hrD hiD).mono ?_); rw [HPT.out]; rintro e w5 ⟨rfl, hb5⟩; replace hrD := hrD.below hb5; replace hiD := hiD.below hb5; replace hjD := hjD.below hb5; replace kW0 := (hb5.cell (World.block_lt_of_cell? _ _ kW0)).trans kW0; replace kW1 := (hb5.cell (World.block_lt_of_cell? _ _ kW1)).trans kW1; replace hc0 := (hb5.cell (World.block_lt_of_cell? _ _ hc0)).trans hc0; replace hc1 := (hb5.cell (World.block_lt_of_cell? _ _ hc1)).trans hc1; replace hj0 := (hb5.cell (World.block_lt_of_cell? _ _ hj0)).trans hj0; replace hj1 := (hb5.cell (World.block_lt_of_cell? _ _ hj1)).trans hj1; replace hbW := Below.step hbW hb5) | (go_at_call 21; (with_reducible refine (specIsVector_any _ _ _ _ _ hiD hmk).mono ?_); rw [HIV.out]; rintro e w5 ⟨rfl, rfl⟩)))
                  refine hK.out _ _ ?_ (fun hHeld => ?_)
                  · ((try dsimp only); exact ⟨kW0, kW1, hc0, hc1, hj0, hj1⟩)
                  clear hK K
                  try simp only [Act.put, List.setIfInBounds_toArray, List.set_cons_zero, List.set_cons_succ]
                  refine WalkU.tk 39 rfl ?_ (Or.inl ⟨by rfl, ?_⟩) hHeld ?_
                  rotate_left
                  · (intro w hSw; (try dsimp only at hSw); go_simp; try with_reducible rfl)
                  try simp only [Act.put, List.setIfInBounds_toArray, List.set_cons_zero, List.set_cons_succ]
                  refine WalkU.tk 40 rfl ?_ (Or.inl ⟨by rfl, ?_⟩) hHeld ?_
                  rotate_left
                  · (intro w hSw; (try dsimp only at hSw); go_simp; try with_reducible rfl)
                  try simp only [Act.put, List.setIfInBounds_toArray, List.set_cons_zero, List.set_cons_succ]
                  refine WalkU.tk 41 rfl ?_ (Or.inl ⟨by rfl, ?_⟩) hHeld ?_
                  rotate_left
                  · (intro w hSw; (try dsimp only at hSw); go_simp; try with_reducible rfl)
                  try simp only [Act.put, List.setIfInBounds_toArray, List.set_cons_zero, List.set_cons_succ]
                  refine WalkU.tk 42 rfl ?_ (Or.inl ⟨by rfl, ?_⟩) hHeld ?_
                  rotate_left
                  · (intro w hSw; (try dsimp only at hSw); go_simp; try with_reducible rfl)
                  try simp only [Act.put, List.setIfInBounds_toArray, List.set_cons_zero, List.set_cons_succ]
                  refine WalkU.tk 43 rfl ?_ (Or.inl ⟨by rfl, ?_⟩) hHeld ?_
                  rotate_left
                  · (intro w hSw; (try dsimp only at hSw); go_simp; try with_reducible rfl)
                  try simp only [Act.put, List.setIfInBounds_toArray, List.set_cons_zero, List.set_cons_succ]
                  refine WalkU.tk 44 rfl ?_ (Or.inl ⟨by rfl, ?_⟩) hHeld ?_
                  rotate_left
                  · (intro w hSw; (try dsimp only at hSw); go_simp; try with_reducible rfl)
                  try simp only [Act.put, List.setIfInBounds_toArray, List.set_cons_zero, List.set_cons_succ]
                  refine WalkU.tk 45 rfl ?_ (Or.inl ⟨by rfl, ?_⟩) hHeld ?_
                  rotate_left
                  · (intro w hSw; (try dsimp only at hSw); go_simp; try with_reducible rfl)
                  try simp only [Act.put, List.setIfInBounds_toArray, List.set_cons_zero, List.set_cons_succ]
                  refine WalkU.tk 46 rfl ?_ (Or.inl ⟨by rfl, ?_⟩) hHeld ?_
                  rotate_left
                  · (intro w hSw; (try dsimp only at hSw); go_simp; try with_reducible rfl)
                  try simp only [Act.put, List.setIfInBounds_toArray, List.set_cons_zero, List.set_cons_succ]
                  refine WalkU.one (i := 47) rfl (by kernel_rfl) (fun K hK => ?_)
                  first
                    | (first | (go_at_call 14; (with_reducible refine (implHasRat_any _ _ _ _ _ _ _ _ _ _ _ (by omega) hmk hrD hiD).mono ?_); rw [Hhas.out]; rintro e w5 ⟨rfl, hb5⟩; replace hrD := hrD.below hb5; replace hiD := hiD.below hb5; replace hjD := hjD.below hb5; replace kW0 := (hb5.cell (World.block_lt_of_cell? _ _ kW0)).trans kW0; replace kW1 := (hb5.cell (World.block_lt_of_cell? _ _ kW1)).trans kW1; replace hc0 := (hb5.cell (World.block_lt_of_cell? _ _ hc0)).trans hc0; replace hc1 := (hb5.cell (World.block_lt_of_cell? _ _ hc1)).trans hc1; replace hj0 := (hb5.cell (World.block_lt_of_cell? _ _ hj0)).trans hj0; replace hj1 := (hb5.cell (World.block_lt_of_cell? _ _ hj1)).trans hj1; replace hbW := Below.step hbW hb5) | (go_at_call 16; (with_reducible refine (implCompareRat_any _ _ _ _ _ _ _ _ _ _ _ hmj hmk hjD hiD).mono ?_); rw [Hord.out]; rintro e w5 ⟨rfl, hb5⟩; replace hrD := hrD.below hb5; replace hiD := hiD.below hb5; replace hjD := hjD.below hb5; replace kW0 := (hb5.cell (World.block_lt_of_cell? _ _ kW0)).trans kW0; replace kW1 := (hb5.cell (World.block_lt_of_cell? _ _ kW1)).trans kW1; replace hc0 := (hb5.cell (World.block_lt_of_cell? _ _ hc0)).trans hc0; replace hc1 := (hb5.cell (World.block_lt_of_cell? _ _ hc1)).trans hc1; replace hj0 := (hb5.cell (World.block_lt_of_cell? _ _ hj0)).trans hj0; replace hj1 := (hb5.cell (World.block_lt_of_cell? _ _ hj1)).trans hj1; replace hbW := Below.step hbW hb5) | (go_at_call 20; (with_reducible refine (implHas_any _ _ _ _ _ _ _ _ _ _ (by omega) hmk hrD hiD).mono ?_); rw [HPT.out]; rintro e w5 ⟨rfl, hb5⟩; replace hrD := hrD.below hb5; replace hiD := hiD.below hb5; replace hjD := hjD.below hb5; replace kW0 := (hb5.cell (World.block_lt_of_cell? _ _ kW0)).trans kW0; replace kW1 := (hb5.cell (World.block_lt_of_cell? _ _ kW1)).trans kW1; replace hc0 := (hb5.cell (World.block_lt_of_cell? _ _ hc0)).trans hc0; replace hc1 := (hb5.cell (World.block_lt_of_cell? _ _ hc1)).trans hc1; replace hj0 := (hb5.cell (World.block_lt_of_cell? _ _ hj0)).trans hj0; replace hj1 := (hb5.cell (World.block_lt_of_cell? _ _ hj1)).trans hj1; replace hbW := Below.step hbW hb5) | (go_at_call 21; (with_reducible refine (specIsVector_any _ _ _ _ _ hiD hmk).mono ?_); rw [HIV.out]; rintro e w5 ⟨rfl, rfl⟩))
                    | (go_simp; (first | (go_at_call 14; (with_reducible refine (implHasRat_any _ _ _ _ _ _ _ _ _ _ _ (by omega) hmk hrD hiD).mono ?_); rw [Hhas.out]; rintro e w5 ⟨rfl, hb5⟩; replace hrD := hrD.below hb5; replace hiD := hiD.below hb5; replace hjD := hjD.below hb5; replace kW0 := (hb5.cell (World.block_lt_of_cell? _ _ kW0)).trans kW0; replace kW1 := (hb5.cell (World.block_lt_of_cell? _ _ kW1)).trans kW1; replace hc0 := (hb5.cell (World.block_lt_of_cell? _ _ hc0)).trans hc0; replace hc1 := (hb5.cell (World.block_lt_of_cell? _ _ hc1)).trans hc1; replace hj0 := (hb5.cell (World.block_lt_of_cell? _ _ hj0)).trans hj0; replace hj1 := (hb5.cell (World.block_lt_of_cell? _ _ hj1)).trans hj1; replace hbW := Below.step hbW hb5) | (go_at_call 16; (with_reducible refine (implCompareRat_any _ _ _ _ _ _ _ _ _ _ _ hmj hmk hjD hiD).mono ?_); rw [Hord.out]; rintro e w5 ⟨rfl, hb5⟩; replace hrD := hrD.below hb5; replace hiD := hiD.below hb5; replace hjD := hjD.below hb5; replace kW0 := (hb5.cell (World.block_lt_of_cell? _ _ kW0)).trans kW0; replace kW1 := (hb5.cell (World.block_lt_of_cell? _ _ kW1)).trans kW1; replace hc0 := (hb5.cell (World.block_lt_of_cell? _ _ hc0)).trans hc0; replace hc1 := (hb5.cell (World.block_lt_of_cell? _ _ hc1)).trans hc1; replace hj0 := (hb5.cell (World.block_lt_of_cell? _ _ hj0)).trans hj0; replace hj1 := (hb5.cell (World.block_lt_of_cell? _ _ hj1)).trans hj1; replace hbW := Below.step hbW hb5) | (go_at_call 20; (with_reducible refine (implHas_any _ _ _ _ _ _ _ _ _ _ (by omega) hmk hrD hiD).mono ?_); rw [HPT.out]; rintro e w5 ⟨rfl, hb5⟩; replace hrD := hrD.below hb5; replace hiD := hiD.below hb5; replace hjD := hjD.below hb5; replace kW0 := (hb5.cell (World.block_lt_of_cell? _ _ kW0)).trans kW0; replace kW1 := (hb5.cell (World.block_lt_of_cell? _ _ kW1)).trans kW1; replace hc0 := (hb5.cell (World.block_lt_of_cell? _ _ hc0)).trans hc0; replace hc1 := (hb5.cell (World.block_lt_of_cell? _ _ hc1)).trans hc1; replace hj0 := (hb5.cell (World.block_lt_of_cell? _ _ hj0)).trans hj0; replace hj1 := (hb5.cell (World.block_lt_of_cell? _ _ hj1)).trans hj1; replace hbW := Below.step hbW hb5) | (go_at_call 21; (with_reducible refine (specIsVector_any _ _ _ _ _ hiD hmk).mono ?_); rw [HIV.out]; rintro e w5 ⟨rfl, rfl⟩)))
                  refine hK.out _ _ ?_ (fun hHeld => ?_)
                  · ((try dsimp only); exact ⟨kW0, kW1, hc0, hc1, hj0, hj1⟩)
                  clear hK K
                  try simp only [Act.put, List.setIfInBounds_toArray, List.set_cons_zero, List.set_cons_succ]
                  refine WalkU.tk 48 rfl ?_ (Or.inl ⟨by rfl, ?_⟩) hHeld ?_
                  rotate_left
                  · (intro w hSw; (try dsimp only at hSw); go_simp; try with_reducible rfl)
                  try simp only [Act.put, List.setIfInBounds_toArray, List.set_cons_zero, List.set_cons_succ]
                  refine WalkU.last (i := 49) rfl rfl (by kernel_rfl) (by kernel_rfl) (fun K hK => ?_)
                  go_simp
                  refine hK.out _ _ ?_
                  clear hK K
                  try simp only [Act.put, List.setIfInBounds_toArray, List.set_cons_zero, List.set_cons_succ]
                  go_wp2_with fail
                  go_meet
                  exact ⟨rfl, hbW⟩
              · have HIV : Hid (isVec xk = isVec xk) := Lib.hid rfl
                have HPT := Lib.hid hpt
                clear hpt Hwh
                as_aux_lemma =>
                  have hrD := hrW.drew
                  have hiD := hik.drew
                  have hbW := drewBelow W
                  have hjD := hij.drew
                  refine wp_region_u 49 50 (fun w' => w'.cell? ⟨bR, 0, none⟩ = some (.int .i64 zr) ∧ w'.cell? ⟨bR, 1, none⟩ = some (.slice qr kr dr) ∧ w'.cell? ⟨bl, ol + (j + 1) * 2, none⟩ = some (.slice qk mk dk_) ∧ w'.cell? ⟨bl, ol + (j + 1) * 2 + 1, none⟩ = some (.int .i64 1) ∧ w'.cell? ⟨bl, ol + j * 2, none⟩ = some (.slice qj mj dj_) ∧ w'.cell? ⟨bl, ol + j * 2 + 1, none⟩ = some (.int .i64 dj)) (by kernel_rfl) rfl (by (try dsimp only); exact ⟨kW0, kW1, hc0, hc1, hj0, hj1⟩) (fun hHeld => ?_)
                  refine WalkU.tk 0 rfl ?_ (Or.inl ⟨by rfl, ?_⟩) hHeld ?_
                  rotate_left
                  · (intro w hSw; (try dsimp only at hSw); go_simp; try with_reducible rfl)
                  try simp only [Act.put, List.setIfInBounds_toArray, List.set_cons_zero, List.set_cons_succ]
                  refine WalkU.tk 1 rfl ?_ (Or.inl ⟨by rfl, ?_⟩) hHeld ?_
                  rotate_left
                  · (intro w hSw; (try dsimp only at hSw); go_simp; try with_reducible rfl)
                  try simp only [Act.put, List.setIfInBounds_toArray, List.set_cons_zero, List.set_cons_succ]
                  refine WalkU.tk 2 rfl ?_ (Or.inl ⟨by rfl, ?_⟩) hHeld ?_
                  rotate_left
                  · (intro w hSw; (try dsimp only at hSw); go_simp; try with_reducible rfl)
                  try simp only [Act.put, List.setIfInBounds_toArray, List.set_cons_zero, List.set_cons_succ]
                  refine WalkU.tk 3 rfl ?_ (Or.inl ⟨by rfl, ?_⟩) hHeld ?_
                  rotate_left
                  · (intro w hSw; (try dsimp only at hSw); go_simp; try with_reducible rfl)
                  try simp only [Act.put, List.setIfInBounds_toArray, List.set_cons_zero, List.set_cons_succ]
                  refine WalkU.tk 4 rfl ?_ (Or.inl ⟨by rfl, ?_⟩) hHeld ?_
                  rotate_left
                  · (intro w hSw; (try dsimp only at hSw); go_simp; try with_reducible rfl)
                  try simp only [Act.put, List.setIfInBounds_toArray, List.set_cons_zero, List.set_cons_succ]
                  refine WalkU.one (i := 5) rfl (by kernel_rfl) (fun K hK => ?_)
                  first
                    | (first | (go_at_call 14; (with_reducible refine (implHasRat_any _ _ _ _ _ _ _ _ _ _ _ (by omega) hmk hrD hiD).mono ?_); rw [Hhas.out]; rintro e w5 ⟨rfl, hb5⟩; replace hrD := hrD.below hb5; replace hiD := hiD.below hb5; replace hjD := hjD.below hb5; replace kW0 := (hb5.cell (World.block_lt_of_cell? _ _ kW0)).trans kW0; replace kW1 := (hb5.cell (World.block_lt_of_cell? _ _ kW1)).trans kW1; replace hc0 := (hb5.cell (World.block_lt_of_cell? _ _ hc0)).trans hc0; replace hc1 := (hb5.cell (World.block_lt_of_cell? _ _ hc1)).trans hc1; replace hj0 := (hb5.cell (World.block_lt_of_cell? _ _ hj0)).trans hj0; replace hj1 := (hb5.cell (World.block_lt_of_cell? _ _ hj1)).trans hj1; replace hbW := Below.step hbW hb5) | (go_at_call 16; (with_reducible refine (implCompareRat_any _ _ _ _ _ _ _ _ _ _ _ hmj hmk hjD hiD).mono ?_); rw [Hord.out]; rintro e w5 ⟨rfl, hb5⟩; replace hrD := hrD.below hb5; replace hiD := hiD.below hb5; replace hjD := hjD.below hb5; replace kW0 := (hb5.cell (World.block_lt_of_cell? _ _ kW0)).trans kW0; replace kW1 := (hb5.cell (World.block_lt_of_cell? _ _ kW1)).trans kW1; replace hc0 := (hb5.cell (World.block_lt_of_cell? _ _ hc0)).trans hc0; replace hc1 := (hb5.cell (World.block_lt_of_cell? _ _ hc1)).trans hc1; replace hj0 := (hb5.cell (World.block_lt_of_cell? _ _ hj0)).trans hj0; replace hj1 := (hb5.cell (World.block_lt_of_cell? _ _ hj1)).trans hj1; replace hbW := Below.step hbW hb5) | (go_at_call 20; (with_reducible refine (implHas_any _ _ _ _ _ _ _ _ _ _ (by omega) hmk hrD hiD).mono ?_); rw [HPT.out]; rintro e w5 ⟨rfl, hb5⟩; replace hrD := hrD.below hb5; replace hiD := hiD.below hb5; replace hjD := hjD.below hb5; replace kW0 := (hb5.cell (World.block_lt_of_cell? _ _ kW0)).trans kW0; replace kW1 := (hb5.cell (World.block_lt_of_cell? _ _ kW1)).trans kW1; replace hc0 := (hb5.cell (World.block_lt_of_cell? _ _ hc0)).trans hc0; replace hc1 := (hb5.cell (World.block_lt_of_cell? _ _ hc1)).trans hc1; replace hj0 := (hb5.cell (World.block_lt_of_cell? _ _ hj0)).trans hj0; replace hj1 := (hb5.cell (World.block_lt_of_cell? _ _ hj1)).trans hj1; replace hbW := Below.step hbW hb5) | (go_at_call 21; (with_reducible refine (specIsVector_any _ _ _ _ _ hiD hmk).mono ?_); rw [HIV.out]; rintro e w5 ⟨rfl, rfl⟩))
                    | (go_simp; (first | (go_at_call 14; (with_reducible refine (implHasRat_any _ _ _ _ _ _ _ _ _ _ _ (by omega) hmk hrD hiD).mono ?_); rw [Hhas.out]; rintro e w5 ⟨rfl, hb5⟩; replace hrD := hrD.below hb5; replace hiD := hiD.below hb5; replace hjD := hjD.below hb5; replace kW0 := (hb5.cell (World.block_lt_of_cell? _ _ kW0)).trans kW0; replace kW1 := (hb5.cell (World.block_lt_of_cell? _ _ kW1)).trans kW1; replace hc0 := (hb5.cell (World.block_lt_of_cell? _ _ hc0)).trans hc0; replace hc1 := (hb5.cell (World.block_lt_of_cell? _ _ hc1)).trans hc1; replace hj0 := (hb5.cell (World.block_lt_of_cell? _ _ hj0)).trans hj0; replace hj1 := (hb5.cell (World.block_lt_of_cell? _ _ hj1)).trans hj1; replace hbW := Below.step hbW hb5) | (go_at_call 16; (with_reducible refine (implCompareRat_any _ _ _ _ _ _ _ _ _ _ _ hmj hmk hjD hiD).mono ?_); rw [Hord.out]; rintro e w5 ⟨rfl, hb5⟩; replace hrD := hrD.below hb5; replace hiD := hiD.below hb5; replace hjD := hjD.below hb5; replace kW0 := (hb5.cell (World.block_lt_of_cell? _ _ kW0)).trans kW0; replace kW1 := (hb5.cell (World.block_lt_of_cell? _ _ kW1)).trans kW1; replace hc0 := (hb5.cell (World.block_lt_of_cell? _ _ hc0)).trans hc0; replace hc1 := (hb5.cell (World.block_lt_of_cell? _ _ hc1)).trans hc1; replace hj0 := (hb5.cell (World.block_lt_of_cell? _ _ hj0)).trans hj0; replace hj1 := (hb5.cell (World.block_lt_of_cell? _ _ hj1)).trans hj1; replace hbW := Below.step hbW hb5) | (go_at_call 20; (with_reducible refine (implHas_any _ _ _ _ _ _ _ _ _ _ (by omega) hmk hrD hiD).mono ?_); rw [HPT.out]; rintro e w5 ⟨rfl, hb5⟩; replace hrD := hrD.below hb5; replace hiD := hiD.below hb5; replace hjD := hjD.below hb5; replace kW0 := (hb5.cell (World.block_lt_of_cell? _ _ kW0)).trans kW0; replace kW1 := (hb5.cell (World.block_lt_of_cell? _ _ kW1)).trans kW1; replace hc0 := (hb5.cell (World.block_lt_of_cell? _ _ hc0)).trans hc0; replace hc1 := (hb5.cell (World.block_lt_of_cell? _ _ hc1)).trans hc1; replace hj0 := (hb5.cell (World.block_lt_of_cell? _ _ hj0)).trans hj0; replace hj1 := (hb5.cell (World.block_lt_of_cell? _ _ hj1)).trans hj1; replace hbW := Below.step hbW hb5) | (go_at_call 21; (with_reducible refine (specIsVector_any _ _ _ _ _ hiD hmk).mono ?_); rw [HIV.out]; rintro e w5 ⟨rfl, rfl⟩)))
                  refine hK.out _ _ ?_ (fun hHeld => ?_)
                  · ((try dsimp only); exact ⟨kW0, kW1, hc0, hc1, hj0, hj1⟩)
                  clear hK K
                  try simp only [Act.put, List.setIfInBounds_toArray, List.set_cons_zero, List.set_cons_succ]
                  refine WalkU.tk 6 rfl ?_ (Or.inl ⟨by rfl, ?_⟩) hHeld ?_
                  rotate_left
                  · (intro w hSw; (try dsimp only at hSw); go_simp; try with_reducible rfl)
                  try simp only [Act.put, List.setIfInBounds_toArray, List.set_cons_zero, List.set_cons_succ]
                  refine WalkU.tk 7 rfl ?_ (Or.inl ⟨by rfl, ?_⟩) hHeld ?_
                  rotate_left
                  · (intro w hSw; (try dsimp only at hSw); go_simp; try with_reducible rfl)
                  try simp only [Act.put, List.setIfInBounds_toArray, List.set_cons_zero, List.set_cons_succ]
                  refine WalkU.tk 8 rfl ?_ (Or.inl ⟨by rfl, ?_⟩) hHeld ?_
                  rotate_left
                  · (intro w hSw; (try dsimp only at hSw); go_simp; try with_reducible rfl)
                  try simp only [Act.put, List.setIfInBounds_toArray, List.set_cons_zero, List.set_cons_succ]
                  refine WalkU.tk 9 rfl ?_ (Or.inl ⟨by rfl, ?_⟩) hHeld ?_
                  rotate_left
                  · (intro w hSw; (try dsimp only at hSw); go_simp; try with_reducible rfl)
                  try simp only [Act.put, List.setIfInBounds_toArray, List.set_cons_zero, List.set_cons_succ]
                  refine WalkU.tk 10 rfl ?_ (Or.inl ⟨by rfl, ?_⟩) hHeld ?_
                  rotate_left
                  · (intro w hSw; (try dsimp only at hSw); go_simp; try with_reducible rfl)
                  try simp only [Act.put, List.setIfInBounds_toArray, List.set_cons_zero, List.set_cons_succ]
                  refine WalkU.tk 11 rfl ?_ (Or.inl ⟨by rfl, ?_⟩) hHeld ?_
                  rotate_left
                  · (intro w hSw; (try dsimp only at hSw); go_simp; try with_reducible rfl)
                  try simp only [Act.put, List.setIfInBounds_toArray, List.set_cons_zero, List.set_cons_succ]
                  refine WalkU.tk 12 rfl ?_ (Or.inl ⟨by rfl, ?_⟩) hHeld ?_
                  rotate_left
                  · (intro w hSw; (try dsimp only at hSw); go_simp; try with_reducible rfl)
                  try simp only [Act.put, List.setIfInBounds_toArray, List.set_cons_zero, List.set_cons_succ]
                  refine WalkU.tk 13 rfl ?_ (Or.inl ⟨by rfl, ?_⟩) hHeld ?_
                  rotate_left
                  · (intro w hSw; (try dsimp only at hSw); go_simp; try with_reducible rfl)
                  try simp only [Act.put, List.setIfInBounds_toArray, List.set_cons_zero, List.set_cons_succ]
                  refine WalkU.tk 14 rfl ?_ (Or.inl ⟨by rfl, ?_⟩) hHeld ?_
                  rotate_left
                  · (intro w hSw; (try dsimp only at hSw); go_simp; try with_reducible rfl)
                  try simp only [Act.put, List.setIfInBounds_toArray, List.set_cons_zero, List.set_cons_succ]
                  refine WalkU.tk 15 rfl ?_ (Or.inl ⟨by rfl, ?_⟩) hHeld ?_
                  rotate_left
                  · (intro w hSw; (try dsimp only at hSw); go_simp; try with_reducible rfl)
                  try simp only [Act.put, List.setIfInBounds_toArray, List.set_cons_zero, List.set_cons_succ]
                  refine WalkU.tk 16 rfl ?_ (Or.inl ⟨by rfl, ?_⟩) hHeld ?_
                  rotate_left
                  · (intro w hSw; (try dsimp only at hSw); go_simp; try with_reducible rfl)
                  try simp only [Act.put, List.setIfInBounds_toArray, List.set_cons_zero, List.set_cons_succ]
                  refine WalkU.tk 17 rfl ?_ (Or.inl ⟨by rfl, ?_⟩) hHeld ?_
                  rotate_left
                  · (intro w hSw; (try dsimp only at hSw); go_simp; try with_reducible rfl)
                  try simp only [Act.put, List.setIfInBounds_toArray, List.set_cons_zero, List.set_cons_succ]
                  refine WalkU.tk 18 rfl ?_ (Or.inl ⟨by rfl, ?_⟩) hHeld ?_
                  rotate_left
                  · (intro w hSw; (try dsimp only at hSw); go_simp; try with_reducible rfl)
                  try simp only [Act.put, List.setIfInBounds_toArray, List.set_cons_zero, List.set_cons_succ]
                  refine WalkU.tk 19 rfl ?_ (Or.inl ⟨by rfl, ?_⟩) hHeld ?_
                  rotate_left
                  · (intro w hSw; (try dsimp only at hSw); go_simp; try with_reducible rfl)
                  try simp only [Act.put, List.setIfInBounds_toArray, List.set_cons_zero, List.set_cons_succ]
                  refine WalkU.one (i := 20) rfl (by kernel_rfl) (fun K hK => ?_)
                  first
                    | (first | (go_at_call 14; (with_reducible refine (implHasRat_any _ _ _ _ _ _ _ _ _ _ _ (by omega) hmk hrD hiD).mono ?_); rw [Hhas.out]; rintro e w5 ⟨rfl, hb5⟩; replace hrD := hrD.below hb5; replace hiD := hiD.below hb5; replace hjD := hjD.below hb5; replace kW0 := (hb5.cell (World.block_lt_of_cell? _ _ kW0)).trans kW0; replace kW1 := (hb5.cell (World.block_lt_of_cell? _ _ kW1)).trans kW1; replace hc0 := (hb5.cell (World.block_lt_of_cell? _ _ hc0)).trans hc0; replace hc1 := (hb5.cell (World.block_lt_of_cell? _ _ hc1)).trans hc1; replace hj0 := (hb5.cell (World.block_lt_of_cell? _ _ hj0)).trans hj0; replace hj1 := (hb5.cell (World.block_lt_of_cell? _ _ hj1)).trans hj1; replace hbW := Below.step hbW hb5) | (go_at_call 16; (with_reducible refine (implCompareRat_any _ _ _ _ _ _ _ _ _ _ _ hmj hmk hjD hiD).mono ?_); rw [Hord.out]; rintro e w5 ⟨rfl, hb5⟩; replace hrD := hrD.below hb5; replace hiD := hiD.below hb5; replace hjD := hjD.below hb5; replace kW0 := (hb5.cell (World.block_lt_of_cell? _ _ kW0)).trans kW0; replace kW1 := (hb5.cell (World.block_lt_of_cell? _ _ kW1)).trans kW1; replace hc0 := (hb5.cell (World.block_lt_of_cell? _ _ hc0)).trans hc0; replace hc1 := (hb5.cell (World.block_lt_of_cell? _ _ hc1)).trans hc1; replace hj0 := (hb5.cell (World.block_lt_of_cell? _ _ hj0)).trans hj0; replace hj1 := (hb5.cell (World.block_lt_of_cell? _ _ hj1)).trans hj1; replace hbW := Below.step hbW hb5) | (go_at_call 20; (with_reducible refine (implHas_any _ _ _ _ _ _ _ _ _ _ (by omega) hmk hrD hiD).mono ?_); rw [HPT.out]; rintro e w5 ⟨rfl, hb5⟩; replace hrD := hrD.below hb5; replace hiD := hiD.below hb5; replace hjD := hjD.below hb5; replace kW0 := (hb5.cell (World.block_lt_of_cell? _ _ kW0)).trans kW0; replace kW1 := (hb5.cell (World.block_lt_of_cell? _ _ kW1)).trans kW1; replace hc0 := (hb5.cell (World.block_lt_of_cell? _ _ hc0)).trans hc0; replace hc1 := (hb5.cell (World.block_lt_of_cell? _ _ hc1)).trans hc1; replace hj0 := (hb5.cell (World.block_lt_of_cell? _ _ hj0)).trans hj0; replace hj1 := (hb5.cell (World.block_lt_of_cell? _ _ hj1)).trans hj1; replace hbW := Below.step hbW hb5) | (go_at_call 21; (with_reducible refine (specIsVector_any _ _ _ _ _ hiD hmk).mono ?_); rw [HIV.out]; rintro e w5 ⟨rfl, rfl⟩))
                    | (go_simp; (first | (go_at_call 14; (with_reducible refine (implHasRat_any _ _ _ _ _ _ _ _ _ _ _ (by omega) hmk hrD hiD).mono ?_); rw [Hhas.out]; rintro e w5 ⟨rfl, hb5⟩; replace hrD := hrD.below hb5; replace hiD := hiD.below hb5; replace hjD := hjD.below hb5; replace kW0 := (hb5.cell (World.block_lt_of_cell? _ _ kW0)).trans kW0; replace kW1 := (hb5.cell (World.block_lt_of_cell? _ _ kW1)).trans kW1; replace hc0 := (hb5.cell (World.block_lt_of_cell? _ _ hc0)).trans hc0; replace hc1 := (hb5.cell (World.block_lt_of_cell? _ _ hc1)).trans hc1; replace hj0 := (hb5.cell (World.block_lt_of_cell? _ _ hj0)).trans hj0; replace hj1 := (hb5.cell (World.block_lt_of_cell? _ _ hj1)).trans hj1; replace hbW := Below.step hbW hb5) | (go_at_call 16; (with_reducible refine (implCompareRat_any _ _ _ _ _ _ _ _ _ _ _ hmj hmk hjD hiD).mono ?_); rw [Hord.out]; rintro e w5 ⟨rfl, hb5⟩; replace hrD := hrD.below hb5; replace hiD := hiD.below hb5; replace hjD := hjD.below hb5; replace kW0 := (hb5.cell (World.block_lt_of_cell? _ _ kW0)).trans kW0; replace kW1 := (hb5.cell (World.block_lt_of_cell? _ _ kW1)).trans kW1; replace hc0 := (hb5.cell (World.block_lt_of_cell? _ _ hc0)).trans hc0; replace hc1 := (hb5.cell (World.block_lt_of_cell? _ _ hc1)).trans hc1; replace hj0 := (hb5.cell (World.block_lt_of_cell? _ _ hj0)).trans hj0; replace hj1 := (hb5.cell (World.block_lt_of_cell? _ _ hj1)).trans hj1; replace hbW := Below.step hbW hb5) | (go_at_call 20; (with_reducible refine (implHas_any _ _ _ _ _ _ _ _ _ _ (by omega) hmk hrD hiD).mono ?_); rw [HPT.out]; rintro e w5 ⟨rfl, hb5⟩; replace hrD := hrD.below hb5; replace hiD := hiD.below hb5; replace hjD := hjD.below hb5; replace kW0 := (hb5.cell (World.block_lt_of_cell? _ _ kW0)).trans kW0; replace kW1 := (hb5.cell (World.block_lt_of_cell? _ _ kW1)).trans kW1; replace hc0 := (hb5.cell (World.block_lt_of_cell? _ _ hc0)).trans hc0; replace hc1 := (hb5.cell (World.block_lt_of_cell? _ _ hc1)).trans hc1; replace hj0 := (hb5.cell (World.block_lt_of_cell? _ _ hj0)).trans hj0; replace hj1 := (hb5.cell (World.block_lt_of_cell? _ _ hj1)).trans hj1; replace hbW := Below.step hbW hb5) | (go_at_call 21; (with_reducible refine (specIsVector_any _ _ _ _ _ hiD hmk).mono ?_); rw [HIV.out]; rintro e w5 ⟨rfl, rfl⟩)))
                  refine hK.out _ _ ?_ (fun hHeld => ?_)
                  · ((try dsimp only); exact ⟨kW0, kW1, hc0, hc1, hj0, hj1⟩)
                  clear hK K
                  try simp only [Act.put, List.setIfInBounds_toArray, List.set_cons_zero, List.set_cons_succ]
                  refine WalkU.tk 21 rfl ?_ (Or.inl ⟨by rfl, ?_⟩) hHeld ?_
                  rotate_left
                  · (intro w hSw; (try dsimp only at hSw); go_simp; try with_reducible rfl)
                  try simp only [Act.put, List.setIfInBounds_toArray, List.set_cons_zero, List.set_cons_succ]
                  refine WalkU.tk 22 rfl ?_ (Or.inl ⟨by rfl, ?_⟩) hHeld ?_
                  rotate_left
                  · (intro w hSw; (try dsimp only at hSw); go_simp; try with_reducible rfl)
                  try simp only [Act.put, List.setIfInBounds_toArray, List.set_cons_zero, List.set_cons_succ]
                  refine WalkU.tk 23 rfl ?_ (Or.inl ⟨by rfl, ?_⟩) hHeld ?_
                  rotate_left
                  · (intro w hSw; (try dsimp only at hSw); go_simp; try with_reducible rfl)
                  try simp only [Act.put, List.setIfInBounds_toArray, List.set_cons_zero, List.set_cons_succ]
                  refine WalkU.tk 24 rfl ?_ (Or.inl ⟨by rfl, ?_⟩) hHeld ?_
                  rotate_left
                  · (intro w hSw; (try dsimp only at hSw); go_simp; try with_reducible rfl)
                  try simp only [Act.put, List.setIfInBounds_toArray, List.set_cons_zero, List.set_cons_succ]
                  refine WalkU.tk 25 rfl ?_ (Or.inl ⟨by rfl, ?_⟩) hHeld ?_
                  rotate_left
                  · (intro w hSw; (try dsimp only at hSw); go_simp; try with_reducible rfl)
                  try simp only [Act.put, List.setIfInBounds_toArray, List.set_cons_zero, List.set_cons_succ]
                  refine WalkU.tk 26 rfl ?_ (Or.inl ⟨by rfl, ?_⟩) hHeld ?_
                  rotate_left
                  · (intro w hSw; (try dsimp only at hSw); go_simp; try with_reducible rfl)
                  try simp only [Act.put, List.setIfInBounds_toArray, List.set_cons_zero, List.set_cons_succ]
                  refine WalkU.tk 27 rfl ?_ (Or.inl ⟨by rfl, ?_⟩) hHeld ?_
                  rotate_left
                  · (intro w hSw; (try dsimp only at hSw); go_simp; try with_reducible rfl)
                  try simp only [Act.put, List.setIfInBounds_toArray, List.set_cons_zero, List.set_cons_succ]
                  refine WalkU.tk 28 rfl ?_ (Or.inl ⟨by rfl, ?_⟩) hHeld ?_
                  rotate_left
                  · (intro w hSw; (try dsimp only at hSw); go_simp; try with_reducible rfl)
                  try simp only [Act.put, List.setIfInBounds_toArray, List.set_cons_zero, List.set_cons_succ]
                  refine WalkU.tk 29 rfl ?_ (Or.inl ⟨by rfl, ?_⟩) hHeld ?_
                  rotate_left
                  · (intro w hSw; (try dsimp only at hSw); go_simp; try with_reducible rfl)
                  try simp only [Act.put, List.setIfInBounds_toArray, List.set_cons_zero, List.set_cons_succ]
                  refine WalkU.tk 30 rfl ?_ (Or.inl ⟨by rfl, ?_⟩) hHeld ?_
                  rotate_left
                  · (intro w hSw; (try dsimp only at hSw); go_simp; try with_reducible rfl)
                  try simp only [Act.put, List.setIfInBounds_toArray, List.set_cons_zero, List.set_cons_succ]
                  refine WalkU.tk 31 rfl ?_ (Or.inl ⟨by rfl, ?_⟩) hHeld ?_
                  rotate_left
                  · (intro w hSw; (try dsimp only at hSw); go_simp; try with_reducible rfl)
                  try simp only [Act.put, List.setIfInBounds_toArray, List.set_cons_zero, List.set_cons_succ]
                  refine WalkU.tk 32 rfl ?_ (Or.inl ⟨by rfl, ?_⟩) hHeld ?_
                  rotate_left
                  · (intro w hSw; (try dsimp only at hSw); go_simp; try with_reducible rfl)
                  try simp only [Act.put, List.setIfInBounds_toArray, List.set_cons_zero, List.set_cons_succ]
                  refine WalkU.tk 33 rfl ?_ (Or.inl ⟨by rfl, ?_⟩) hHeld ?_
                  rotate_left
                  · (intro w hSw; (try dsimp only at hSw); go_simp; try with_reducible rfl)
                  try simp only [Act.put, List.setIfInBounds_toArray, List.set_cons_zero, List.set_cons_succ]
                  refine WalkU.tk 34 rfl ?_ (Or.inl ⟨by rfl, ?_⟩) hHeld ?_
                  rotate_left
                  · (intro w hSw; (try dsimp only at hSw); go_simp; try with_reducible rfl)
                  try simp only [Act.put, List.setIfInBounds_toArray, List.set_cons_zero, List.set_cons_succ]
                  refine WalkU.tk 35 rfl ?_ (Or.inl ⟨by rfl, ?_⟩) hHeld ?_
                  rotate_left
                  · (intro w hSw; (try dsimp only at hSw); go_simp; try with_reducible rfl)
                  try simp only [Act.put, List.setIfInBounds_toArray, List.set_cons_zero, List.set_cons_succ]
                  refine WalkU.tk 36 rfl ?_ (Or.inl ⟨by rfl, ?_⟩) hHeld ?_
                  rotate_left
                  · (intro w hSw; (try dsimp only at hSw); go_simp; try with_reducible rfl)
                  try simp only [Act.put, List.setIfInBounds_toArray, List.set_cons_zero, List.set_cons_succ]
                  refine WalkU.tk 37 rfl ?_ (Or.inl ⟨by rfl, ?_⟩) hHeld ?_
                  rotate_left
                  · (intro w hSw; (try dsimp only at hSw); go_simp; try with_reducible rfl)
                  try simp only [Act.put, List.setIfInBounds_toArray, List.set_cons_zero, List.set_cons_succ]
                  refine WalkU.one (i := 38) rfl (by kernel_rfl) (fun K hK => ?_)
                  first
                    | (first | (go_at_call 14; (with_reducible refine (implHasRat_any _ _ _ _ _ _ _ _ _ _ _ (by omega) hmk hrD hiD).mono ?_); rw [Hhas.out]; rintro e w5 ⟨rfl, hb5⟩; replace hrD := hrD.below hb5; replace hiD := hiD.below hb5; replace hjD := hjD.below hb5; replace kW0 := (hb5.cell (World.block_lt_of_cell? _ _ kW0)).trans kW0; replace kW1 := (hb5.cell (World.block_lt_of_cell? _ _ kW1)).trans kW1; replace hc0 := (hb5.cell (World.block_lt_of_cell? _ _ hc0)).trans hc0; replace hc1 := (hb5.cell (World.block_lt_of_cell? _ _ hc1)).trans hc1; replace hj0 := (hb5.cell (World.block_lt_of_cell? _ _ hj0)).trans hj0; replace hj1 := (hb5.cell (World.block_lt_of_cell? _ _ hj1)).trans hj1; replace hbW := Below.step hbW hb5) | (go_at_call 16; (with_reducible refine (implCompareRat_any _ _ _ _ _ _ _ _ _ _ _ hmj hmk hjD hiD).mono ?_); rw [Hord.out]; rintro e w5 ⟨rfl, hb5⟩; replace hrD := hrD.below hb5; replace hiD := hiD.below hb5; replace hjD := hjD.below hb5; replace kW0 := (hb5.cell (World.block_lt_of_cell? _ _ kW0)).trans kW0; replace kW1 := (hb5.cell (World.block_lt_of_cell? _ _ kW1)).trans kW1; replace hc0 := (hb5.cell (World.block_lt_of_cell? _ _ hc0)).trans hc0; replace hc1 := (hb5.cell (World.block_lt_of_cell? _ _ hc1)).trans hc1; replace hj0 := (hb5.cell (World.block_lt_of_cell? _ _ hj0)).trans hj0; replace hj1 := (hb5.cell (World.block_lt_of_cell? _ _ hj1)).trans hj1; replace hbW := Below.step hbW hb5) | (go_at_call 20; (with_reducible refine (implHas_any _ _ _ _ _ _ _ _ _ _ (by omega) hmk hrD hiD).mono ?_); rw [HPT.out]; rintro e w5 ⟨rfl, hb5⟩; replace hrD := hrD.below hb5; replace hiD := hiD.below hb5; replace hjD := hjD.below hb5; replace kW0 := (hb5.cell (World.block_lt_of_cell? _ _ kW0)).trans kW0; replace kW1 := (hb5.cell (World.block_lt_of_cell? _ _ kW1)).trans kW1; replace hc0 := (hb5.cell (World.block_lt_of_cell? _ _ hc0)).trans hc0; replace hc1 := (hb5.cell (World.block_lt_of_cell? _ _ hc1)).trans hc1; replace hj0 := (hb5.cell (World.block_lt_of_cell? _ _ hj0)).trans hj0; replace hj1 := (hb5.cell (World.block_lt_of_cell? _ _ hj1)).trans hj1; replace hbW := Below.step hbW hb5) | (go_at_call 21; (with_reducible refine (specIsVector_any _ _ _ _ _ hiD hmk).mono ?_); rw [HIV.out]; rintro e w5 ⟨rfl, rfl⟩))
                    | (go_simp; (first | (go_at_call 14; (with_reducible refine (implHasRat_any _ _ _ _ _ _ _ _ _ _ _ (by omega) hmk hrD hiD).mono ?_); rw [Hhas.out]; rintro e w5 ⟨rfl, hb5⟩; replace hrD := hrD.below hb5; replace hiD := hiD.below hb5; replace hjD := hjD.below hb5; replace kW0 := (hb5.cell (World.block_lt_of_cell? _ _ kW0)).trans kW0; replace kW1 := (hb5.cell (World.block_lt_of_cell? _ _ kW1)).trans kW1; replace hc0 := (hb5.cell (World.block_lt_of_cell? _ _ hc0)).trans hc0; replace hc1 := (hb5.cell (World.block_lt_of_cell? _ _ hc1)).trans hc1; replace hj0 := (hb5.cell (World.block_lt_of_cell? _ _ hj0)).trans hj0; replace hj1 := (hb5.cell (World.block_lt_of_cell? _ _ hj1)).trans hj1; replace hbW := Below.step hbW hb5) | (go_at_call 16; (with_reducible refine (implCompareRat_any _ _ _ _ _ _ _ _ _ _ _ hmj hmk hjD hiD).mono ?_); rw [Hord.out]; rintro e w5 ⟨rfl, hb5⟩; replace hrD := hrD.below hb5; replace hiD := hiD.below hb5; replace hjD := hjD.below hb5; replace kW0 := (hb5.cell (World.block_lt_of_cell? _ _ kW0)).trans kW0; replace kW1 := (hb5.cell (World.block_lt_of_cell? _ _ kW1)).trans kW1; replace hc0 := (hb5.cell (World.block_lt_of_cell? _ _ hc0)).trans hc0; replace hc1 := (hb5.cell (World.block_lt_of_cell? _ _ hc1)).trans hc1; replace hj0 := (hb5.cell (World.block_lt_of_cell? _ _ hj0)).trans hj0; replace hj1 := (hb5.cell (World.block_lt_of_cell? _ _ hj1)).trans hj1; replace hbW := Below.step hbW hb5) | (go_at_call 20; (with_reducible refine (implHas_any _ _ _ _ _ _ _ _ _ _ (by omega) hmk hrD hiD).mono ?_); rw [HPT.out]; rintro e w5 ⟨rfl, hb5⟩; replace hrD := hrD.below hb5; replace hiD := hiD.below hb5; replace hjD := hjD.below hb5; replace kW0 := (hb5.cell (World.block_lt_of_cell? _ _ kW0)).trans kW0; replace kW1 := (hb5.cell (World.block_lt_of_cell? _ _ kW1)).trans kW1; replace hc0 := (hb5.cell (World.block_lt_of_cell? _ _ hc0)).trans hc0; replace hc1 := (hb5.cell (World.block_lt_of_cell? _ _ hc1)).trans hc1; replace hj0 := (hb5.cell (World.block_lt_of_cell? _ _ hj0)).trans hj0; replace hj1 := (hb5.cell (World.block_lt_of_cell? _ _ hj1)).trans hj1; replace hbW := Below.step hbW hb5) | (go_at_call 21; (with_reducible refine (specIsVector_any _ _ _ _ _ hiD hmk).mono ?_); rw [HIV.out]; rintro e w5 ⟨rfl, rfl⟩)))
                  refine hK.out _ _ ?_ (fun hHeld => ?_)
                  · ((try dsimp only); exact ⟨kW0, kW1, hc0, hc1, hj0, hj1⟩)
                  clear hK K
                  try simp only [Act.put, List.setIfInBounds_toArray, List.set_cons_zero, List.set_cons_succ]
                  refine WalkU.tk 39 rfl ?_ (Or.inl ⟨by rfl, ?_⟩) hHeld ?_
                  rotate_left
                  · (intro w hSw; (try dsimp only at hSw); go_simp; try with_reducible rfl)
                  try simp only [Act.put, List.setIfInBounds_toArray, List.set_cons_zero, List.set_cons_succ]
                  refine WalkU.tk 40 rfl ?_ (Or.inl ⟨by rfl, ?_⟩) hHeld ?_
                  rotate_left
                  · (intro w hSw; (try dsimp only at hSw); go_simp; try with_reducible rfl)
                  try simp only [Act.put, List.setIfInBounds_toArray, List.set_cons_zero, List.set_cons_succ]
                  refine WalkU.tk 41 rfl ?_ (Or.inl ⟨by rfl, ?_⟩) hHeld ?_
                  rotate_left
                  · (intro w hSw; (try dsimp only at hSw); go_simp; try with_reducible rfl)
                  try simp only [Act.put, List.setIfInBounds_toArray, List.set_cons_zero, List.set_cons_succ]
                  refine WalkU.tk 42 rfl undef (Or.inr ⟨by rfl, rfl⟩) hHeld ?_
                  try simp only [Act.put, List.setIfInBounds_toArray, List.set_cons_zero, List.set_cons_succ]
                  refine WalkU.tk 43 rfl undef (Or.inr ⟨by rfl, rfl⟩) hHeld ?_
                  try simp only [Act.put, List.setIfInBounds_toArray, List.set_cons_zero, List.set_cons_succ]
                  refine WalkU.tk 44 rfl undef (Or.inr ⟨by rfl, rfl⟩) hHeld ?_
                  try simp only [Act.put, List.setIfInBounds_toArray, List.set_cons_zero, List.set_cons_succ]
                  refine WalkU.tk 45 rfl undef (Or.inr ⟨by rfl, rfl⟩) hHeld ?_
                  try simp only [Act.put, List.setIfInBounds_toArray, List.set_cons_zero, List.set_cons_succ]
                  refine WalkU.tk 46 rfl undef (Or.inr ⟨by rfl, rfl⟩) hHeld ?_
                  try simp only [Act.put, List.setIfInBounds_toArray, List.set_cons_zero, List.set_cons_succ]
                  refine WalkU.tk 47 rfl undef (Or.inr ⟨by rfl, rfl⟩) hHeld ?_
                  try simp only [Act.put, List.setIfInBounds_toArray, List.set_cons_zero, List.set_cons_succ]
                  refine WalkU.tk 48 rfl ?_ (Or.inl ⟨by rfl, ?_⟩) hHeld ?_
                  rotate_left
                  · (intro w hSw; (try dsimp only at hSw); go_simp; try with_reducible rfl)
                  try simp only [Act.put, List.setIfInBounds_toArray, List.set_cons_zero, List.set_cons_succ]
                  refine WalkU.last (i := 49) rfl rfl (by kernel_rfl) (by kernel_rfl) (fun K hK => ?_)
                  go_simp
                  refine hK.out _ _ ?_
                  clear hK K
                  try simp only [Act.put, List.setIfInBounds_toArray, List.set_cons_zero, List.set_cons_succ]
                  go_wp2_with fail
                  go_meet
                  exact ⟨rfl, hbW⟩
            · have hden2 : (dk == 1) = false := by simpa using hden
              have HIV : Hid (isVec xk = isVec xk) := Lib.hid rfl
              have HPT : Hid (hasPt zr rs xk = hasPt zr rs xk) := Lib.hid rfl
              clear Hwh hden
              as_aux_lemma =>
                have hrD := hrW.drew
                have hiD := hik.drew
                have hbW := drewBelow W
                have hjD := hij.drew
                refine wp_region_u 49 50 (fun w' => w'.cell? ⟨bR, 0, none⟩ = some (.int .i64 zr) ∧ w'.cell? ⟨bR, 1, none⟩ = some (.slice qr kr dr) ∧ w'.cell? ⟨bl, ol + (j + 1) * 2, none⟩ = some (.slice qk mk dk_) ∧ w'.cell? ⟨bl, ol + (j + 1) * 2 + 1, none⟩ = some (.int .i64 dk) ∧ w'.cell? ⟨bl, ol + j * 2, none⟩ = some (.slice qj mj dj_) ∧ w'.cell? ⟨bl, ol + j * 2 + 1, none⟩ = some (.int .i64 dj)) (by kernel_rfl) rfl (by (try dsimp only); exact ⟨kW0, kW1, hc0, hc1, hj0, hj1⟩) (fun hHeld => ?_)
                refine WalkU.tk 0 rfl ?_ (Or.inl ⟨by rfl, ?_⟩) hHeld ?_
                rotate_left
                · (intro w hSw; (try dsimp only at hSw); go_simp; try with_reducible rfl)
                try simp only [Act.put, List.setIfInBounds_toArray, List.set_cons_zero, List.set_cons_succ]
                refine WalkU.tk 1 rfl ?_ (Or.inl ⟨by rfl, ?_⟩) hHeld ?_
                rotate_left
                · (intro w hSw; (try dsimp only at hSw); go_simp; try with_reducible rfl)
                try simp only [Act.put, List.setIfInBounds_toArray, List.set_cons_zero, List.set_cons_succ]
                refine WalkU.tk 2 rfl ?_ (Or.inl ⟨by rfl, ?_⟩) hHeld ?_
                rotate_left
                · (intro w hSw; (try dsimp only at hSw); go_simp; try with_reducible rfl)
                try simp only [Act.put, List.setIfInBounds_toArray, List.set_cons_zero, List.set_cons_succ]
                refine WalkU.tk 3 rfl ?_ (Or.inl ⟨by rfl, ?_⟩) hHeld ?_
                rotate_left
                · (intro w hSw; (try dsimp only at hSw); go_simp; try with_reducible rfl)
                try simp only [Act.put, List.setIfInBounds_toArray, List.set_cons_zero, List.set_cons_succ]
                refine WalkU.tk 4 rfl ?_ (Or.inl ⟨by rfl, ?_⟩) hHeld ?_
                rotate_left
                · (intro w hSw; (try dsimp only at hSw); go_simp; try with_reducible rfl)
                try simp only [Act.put, List.setIfInBounds_toArray, List.set_cons_zero, List.set_cons_succ]
                refine WalkU.one (i := 5) rfl (by kernel_rfl) (fun K hK => ?_)
                first
                  | (first | (go_at_call 14; (with_reducible refine (implHasRat_any _ _ _ _ _ _ _ _ _ _ _ (by omega) hmk hrD hiD).mono ?_); rw [Hhas.out]; rintro e w5 ⟨rfl, hb5⟩; replace hrD := hrD.below hb5; replace hiD := hiD.below hb5; replace hjD := hjD.below hb5; replace kW0 := (hb5.cell (World.block_lt_of_cell? _ _ kW0)).trans kW0; replace kW1 := (hb5.cell (World.block_lt_of_cell? _ _ kW1)).trans kW1; replace hc0 := (hb5.cell (World.block_lt_of_cell? _ _ hc0)).trans hc0; replace hc1 := (hb5.cell (World.block_lt_of_cell? _ _ hc1)).trans hc1; replace hj0 := (hb5.cell (World.block_lt_of_cell? _ _ hj0)).trans hj0; replace hj1 := (hb5.cell (World.block_lt_of_cell? _ _ hj1)).trans hj1; replace hbW := Below.step hbW hb5) | (go_at_call 16; (with_reducible refine (implCompareRat_any _ _ _ _ _ _ _ _ _ _ _ hmj hmk hjD hiD).mono ?_); rw [Hord.out]; rintro e w5 ⟨rfl, hb5⟩; replace hrD := hrD.below hb5; replace hiD := hiD.below hb5; replace hjD := hjD.below hb5; replace kW0 := (hb5.cell (World.block_lt_of_cell? _ _ kW0)).trans kW0; replace kW1 := (hb5.cell (World.block_lt_of_cell? _ _ kW1)).trans kW1; replace hc0 := (hb5.cell (World.block_lt_of_cell? _ _ hc0)).trans hc0; replace hc1 := (hb5.cell (World.block_lt_of_cell? _ _ hc1)).trans hc1; replace hj0 := (hb5.cell (World.block_lt_of_cell? _ _ hj0)).trans hj0; replace hj1 := (hb5.cell (World.block_lt_of_cell? _ _ hj1)).trans hj1; replace hbW := Below.step hbW hb5) | (go_at_call 20; (with_reducible refine (implHas_any _ _ _ _ _ _ _ _ _ _ (by omega) hmk hrD hiD).mono ?_); rw [HPT.out]; rintro e w5 ⟨rfl, hb5⟩; replace hrD := hrD.below hb5; replace hiD := hiD.below hb5; replace hjD := hjD.below hb5; replace kW0 := (hb5.cell (World.block_lt_of_cell? _ _ kW0)).trans kW0; replace kW1 := (hb5.cell (World.block_lt_of_cell? _ _ kW1)).trans kW1; replace hc0 := (hb5.cell (World.block_lt_of_cell? _ _ hc0)).trans hc0; replace hc1 := (hb5.cell (World.block_lt_of_cell? _ _ hc1)).trans hc1; replace hj0 := (hb5.cell (World.block_lt_of_cell? _ _ hj0)).trans hj0; replace hj1 := (hb5.cell (World.block_lt_of_cell? _ _ hj1)).trans hj1; replace hbW := Below.step hbW hb5) | (go_at_call 21; (with_reducible refine (specIsVector_any _ _ _ _ _ hiD hmk).mono ?_); rw [HIV.out]; rintro e w5 ⟨rfl, rfl⟩))
                  | (go_simp; (first | (go_at_call 14; (with_reducible refine (implHasRat_any _ _ _ _ _ _ _ _ _ _ _ (by omega) hmk hrD hiD).mono ?_); rw [Hhas.out]; rintro e w5 ⟨rfl, hb5⟩; replace hrD := hrD.below hb5; replace hiD := hiD.below hb5; replace hjD := hjD.below hb5; replace kW0 := (hb5.cell (World.block_lt_of_cell? _ _ kW0)).trans kW0; replace kW1 := (hb5.cell (World.block_lt_of_cell? _ _ kW1)).trans kW1; replace hc0 := (hb5.cell (World.block_lt_of_cell? _ _ hc0)).trans hc0; replace hc1 := (hb5.cell (World.block_lt_of_cell? _ _ hc1)).trans hc1; replace hj0 := (hb5.cell (World.block_lt_of_cell? _ _ hj0)).trans hj0; replace hj1 := (hb5.cell (World.block_lt_of_cell? _ _ hj1)).trans hj1; replace hbW := Below.step hbW hb5) | (go_at_call 16; (with_reducible refine (implCompareRat_any _ _ _ _ _ _ _ _ _ _ _ hmj hmk hjD hiD).mono ?_); rw [Hord.out]; rintro e w5 ⟨rfl, hb5⟩; replace hrD := hrD.below hb5; replace hiD := hiD.below hb5; replace hjD := hjD.below hb5; replace kW0 := (hb5.cell (World.block_lt_of_cell? _ _ kW0)).trans kW0; replace kW1 := (hb5.cell (World.block_lt_of_cell? _ _ kW1)).trans kW1; replace hc0 := (hb5.cell (World.block_lt_of_cell? _ _ hc0)).trans hc0; replace hc1 := (hb5.cell (World.block_lt_of_cell? _ _ hc1)).trans hc1; replace hj0 := (hb5.cell (World.block_lt_of_cell? _ _ hj0)).trans hj0; replace hj1 := (hb5.cell (World.block_lt_of_cell? _ _ hj1)).trans hj1; replace hbW := Below.step hbW hb5) | (go_at_call 20; (with_reducible refine (implHas_any _ _ _ _ _ _ _ _ _ _ (by omega) hmk hrD hiD).mono ?_); rw [HPT.out]; rintro e w5 ⟨rfl, hb5⟩; replace hrD := hrD.below hb5; replace hiD := hiD.below hb5; replace hjD := hjD.below hb5; replace kW0 := (hb5.cell (World.block_lt_of_cell? _ _ kW0)).trans kW0; replace kW1 := (hb5.cell (World.block_lt_of_cell? _ _ kW1)).trans kW1; replace hc0 := (hb5.cell (World.block_lt_of_cell? _ _ hc0)).trans hc0; replace hc1 := (hb5.cell (World.block_lt_of_cell? _ _ hc1)).trans hc1; replace hj0 := (hb5.cell (World.block_lt_of_cell? _ _ hj0)).trans hj0; replace hj1 := (hb5.cell (World.block_lt_of_cell? _ _ hj1)).trans hj1; replace hbW := Below.step hbW hb5) | (go_at_call 21; (with_reducible refine (specIsVector_any _ _ _ _ _ hiD hmk).mono ?_); rw [HIV.out]; rintro e w5 ⟨rfl, rfl⟩)))
                refine hK.out _ _ ?_ (fun hHeld => ?_)
                · ((try dsimp only); exact ⟨kW0, kW1, hc0, hc1, hj0, hj1⟩)
                clear hK K
                try simp only [Act.put, List.setIfInBounds_toArray, List.set_cons_zero, List.set_cons_succ]
                refine WalkU.tk 6 rfl ?_ (Or.inl ⟨by rfl, ?_⟩) hHeld ?_
                rotate_left
                · (intro w hSw; (try dsimp only at hSw); go_simp; try with_reducible rfl)
                try simp only [Act.put, List.setIfInBounds_toArray, List.set_cons_zero, List.set_cons_succ]
                refine WalkU.tk 7 rfl ?_ (Or.inl ⟨by rfl, ?_⟩) hHeld ?_
                rotate_left
                · (intro w hSw; (try dsimp only at hSw); go_simp; try with_reducible rfl)
                try simp only [Act.put, List.setIfInBounds_toArray, List.set_cons_zero, List.set_cons_succ]
                refine WalkU.tk 8 rfl ?_ (Or.inl ⟨by rfl, ?_⟩) hHeld ?_
                rotate_left
                · (intro w hSw; (try dsimp only at hSw); go_simp; try with_reducible rfl)
                try simp only [Act.put, List.setIfInBounds_toArray, List.set_cons_zero, List.set_cons_succ]
                refine WalkU.tk 9 rfl ?_ (Or.inl ⟨by rfl, ?_⟩) hHeld ?_
                rotate_left
                · (intro w hSw; (try dsimp only at hSw); go_simp; try with_reducible rfl)
                try simp only [Act.put, List.setIfInBounds_toArray, List.set_cons_zero, List.set_cons_succ]
                refine WalkU.tk 10 rfl ?_ (Or.inl ⟨by rfl, ?_⟩) hHeld ?_
                rotate_left
                · (intro w hSw; (try dsimp only at hSw); go_simp; try with_reducible rfl)
                try simp only [Act.put, List.setIfInBounds_toArray, List.set_cons_zero, List.set_cons_succ]
                refine WalkU.tk 11 rfl ?_ (Or.inl ⟨by rfl, ?_⟩) hHeld ?_
                rotate_left
                · (intro w hSw; (try dsimp only at hSw); go_simp; try with_reducible rfl)
                try simp only [Act.put, List.setIfInBounds_toArray, List.set_cons_zero, List.set_cons_succ]
                refine WalkU.tk 12 rfl ?_ (Or.inl ⟨by rfl, ?_⟩) hHeld ?_
                rotate_left
                · (intro w hSw; (try dsimp only at hSw); go_simp; try with_reducible rfl)
                try simp only [Act.put, List.setIfInBounds_toArray, List.set_cons_zero, List.set_cons_succ]
                refine WalkU.tk 13 rfl ?_ (Or.inl ⟨by rfl, ?_⟩) hHeld ?_
                rotate_left
                · (intro w hSw; (try dsimp only at hSw); go_simp; try with_reducible rfl)
                try simp only [Act.put, List.setIfInBounds_toArray, List.set_cons_zero, List.set_cons_succ]
                refine WalkU.tk 14 rfl ?_ (Or.inl ⟨by rfl, ?_⟩) hHeld ?_
                rotate_left
                · (intro w hSw; (try dsimp only at hSw); go_simp; try with_reducible rfl)
                try simp only [Act.put, List.setIfInBounds_toArray, List.set_cons_zero, List.set_cons_succ]
                refine WalkU.tk 15 rfl ?_ (Or.inl ⟨by rfl, ?_⟩) hHeld ?_
                rotate_left
                · (intro w hSw; (try dsimp only at hSw); go_simp; try with_reducible rfl)
                try simp only [Act.put, List.setIfInBounds_toArray, List.set_cons_zero, List.set_cons_succ]
                refine WalkU.tk 16 rfl ?_ (Or.inl ⟨by rfl, ?_⟩) hHeld ?_
                rotate_left
                · (intro w hSw; (try dsimp only at hSw); go_simp; try with_reducible rfl)
                try simp only [Act.put, List.setIfInBounds_toArray, List.set_cons_zero, List.set_cons_succ]
                refine WalkU.tk 17 rfl ?_ (Or.inl ⟨by rfl, ?_⟩) hHeld ?_
                rotate_left
                · (intro w hSw; (try dsimp only at hSw); go_simp; try with_reducible rfl)
                try simp only [Act.put, List.setIfInBounds_toArray, List.set_cons_zero, List.set_cons_succ]
                refine WalkU.tk 18 rfl ?_ (Or.inl ⟨by rfl, ?_⟩) hHeld ?_
                rotate_left
                · (intro w hSw; (try dsimp only at hSw); go_simp; try with_reducible rfl)
                try simp only [Act.put, List.setIfInBounds_toArray, List.set_cons_zero, List.set_cons_succ]
                refine WalkU.tk 19 rfl ?_ (Or.inl ⟨by rfl, ?_⟩) hHeld ?_
                rotate_left
                · (intro w hSw; (try dsimp only at hSw); go_simp; try with_reducible rfl)
                try simp only [Act.put, List.setIfInBounds_toArray, List.set_cons_zero, List.set_cons_succ]
                refine WalkU.one (i := 20) rfl (by kernel_rfl) (fun K hK => ?_)
                first
                  | (first | (go_at_call 14; (with_reducible refine (implHasRat_any _ _ _ _ _ _ _ _ _ _ _ (by omega) hmk hrD hiD).mono ?_); rw [Hhas.out]; rintro e w5 ⟨rfl, hb5⟩; replace hrD := hrD.below hb5; replace hiD := hiD.below hb5; replace hjD := hjD.below hb5; replace kW0 := (hb5.cell (World.block_lt_of_cell? _ _ kW0)).trans kW0; replace kW1 := (hb5.cell (World.block_lt_of_cell? _ _ kW1)).trans kW1; replace hc0 := (hb5.cell (World.block_lt_of_cell? _ _ hc0)).trans hc0; replace hc1 := (hb5.cell (World.block_lt_of_cell? _ _ hc1)).trans hc1; replace hj0 := (hb5.cell (World.block_lt_of_cell? _ _ hj0)).trans hj0; replace hj1 := (hb5.cell (World.block_lt_of_cell? _ _ hj1)).trans hj1; replace hbW := Below.step hbW hb5) | (go_at_call 16; (with_reducible refine (implCompareRat_any _ _ _ _ _ _ _ _ _ _ _ hmj hmk hjD hiD).mono ?_); rw [Hord.out]; rintro e w5 ⟨rfl, hb5⟩; replace hrD := hrD.below hb5; replace hiD := hiD.below hb5; replace hjD := hjD.below hb5; replace kW0 := (hb5.cell (World.block_lt_of_cell? _ _ kW0)).trans kW0; replace kW1 := (hb5.cell (World.block_lt_of_cell? _ _ kW1)).trans kW1; replace hc0 := (hb5.cell (World.block_lt_of_cell? _ _ hc0)).trans hc0; replace hc1 := (hb5.cell (World.block_lt_of_cell? _ _ hc1)).trans hc1; replace hj0 := (hb5.cell (World.block_lt_of_cell? _ _ hj0)).trans hj0; replace hj1 := (hb5.cell (World.block_lt_of_cell? _ _ hj1)).trans hj1; replace hbW := Below.step hbW hb5) | (go_at_call 20; (with_reducible refine (implHas_any _ _ _ _ _ _ _ _ _ _ (by omega) hmk hrD hiD).mono ?_); rw [HPT.out]; rintro e w5 ⟨rfl, hb5⟩; replace hrD := hrD.below hb5; replace hiD := hiD.below hb5; replace hjD := hjD.below hb5; replace kW0 := (hb5.cell (World.block_lt_of_cell? _ _ kW0)).trans kW0; replace kW1 := (hb5.cell (World.block_lt_of_cell? _ _ kW1)).trans kW1; replace hc0 := (hb5.cell (World.block_lt_of_cell? _ _ hc0)).trans hc0; replace hc1 := (hb5.cell (World.block_lt_of_cell? _ _ hc1)).trans hc1; replace hj0 := (hb5.cell (World.block_lt_of_cell? _ _ hj0)).trans hj0; replace hj1 := (hb5.cell (World.block_lt_of_cell? _ _ hj1)).trans hj1; replace hbW := Below.step hbW hb5) | (go_at_call 21; (with_reducible refine (specIsVector_any _ _ _ _ _ hiD hmk).mono ?_); rw [HIV.out]; rintro e w5 ⟨rfl, rfl⟩))
                  | (go_simp; (first | (go_at_call 14; (with_reducible refine (implHasRat_any _ _ _ _ _ _ _ _ _ _ _ (by omega) hmk hrD hiD).mono ?_); rw [Hhas.out]; rintro e w5 ⟨rfl, hb5⟩; replace hrD := hrD.below hb5; replace hiD := hiD.below hb5; replace hjD := hjD.below hb5; replace kW0 := (hb5.cell (World.block_lt_of_cell? _ _ kW0)).trans kW0; replace kW1 := (hb5.cell (World.block_lt_of_cell? _ _ kW1)).trans kW1; replace hc0 := (hb5.cell (World.block_lt_of_cell? _ _ hc0)).trans hc0; replace hc1 := (hb5.cell (World.block_lt_of_cell? _ _ hc1)).trans hc1; replace hj0 := (hb5.cell (World.block_lt_of_cell? _ _ hj0)).trans hj0; replace hj1 := (hb5.cell (World.block_lt_of_cell? _ _ hj1)).trans hj1; replace hbW := Below.step hbW hb5) | (go_at_call 16; (with_reducible refine (implCompareRat_any _ _ _ _ _ _ _ _ _ _ _ hmj hmk hjD hiD).mono ?_); rw [Hord.out]; rintro e w5 ⟨rfl, hb5⟩; replace hrD := hrD.below hb5; replace hiD := hiD.below hb5; replace hjD := hjD.below hb5; replace kW0 := (hb5.cell (World.block_lt_of_cell? _ _ kW0)).trans kW0; replace kW1 := (hb5.cell (World.block_lt_of_cell? _ _ kW1)).trans kW1; replace hc0 := (hb5.cell (World.block_lt_of_cell? _ _ hc0)).trans hc0; replace hc1 := (hb5.cell (World.block_lt_of_cell? _ _ hc1)).trans hc1; replace hj0 := (hb5.cell (World.block_lt_of_cell? _ _ hj0)).trans hj0; replace hj1 := (hb5.cell (World.block_lt_of_cell? _ _ hj1)).trans hj1; replace hbW := Below.step hbW hb5) | (go_at_call 20; (with_reducible refine (implHas_any _ _ _ _ _ _ _ _ _ _ (by omega) hmk hrD hiD).mono ?_); rw [HPT.out]; rintro e w5 ⟨rfl, hb5⟩; replace hrD := hrD.below hb5; replace hiD := hiD.below hb5; replace hjD := hjD.below hb5; replace kW0 := (hb5.cell (World.block_lt_of_cell? _ _ kW0)).trans kW0; replace kW1 := (hb5.cell (World.block_lt_of_cell? _ _ kW1)).trans kW1; replace hc0 := (hb5.cell (World.block_lt_of_cell? _ _ hc0)).trans hc0; replace hc1 := (hb5.cell (World.block_lt_of_cell? _ _ hc1)).trans hc1; replace hj0 := (hb5.cell (World.block_lt_of_cell? _ _ hj0)).trans hj0; replace hj1 := (hb5.cell (World.block_lt_of_cell? _ _ hj1)).trans hj1; replace hbW := Below.step hbW hb5) | (go_at_call 21; (with_reducible refine (specIsVector_any _ _ _ _ _ hiD hmk).mono ?_); rw [HIV.out]; rintro e w5 ⟨rfl, rfl⟩)))
                refine hK.out _ _ ?_ (fun hHeld => ?_)
                · ((try dsimp only); exact ⟨kW0, kW1, hc0, hc1, hj0, hj1⟩)
                clear hK K
                try simp only [Act.put, List.setIfInBounds_toArray, List.set_cons_zero, List.set_cons_succ]
                refine WalkU.tk 21 rfl ?_ (Or.inl ⟨by rfl, ?_⟩) hHeld ?_
                rotate_left
                · (intro w hSw; (try dsimp only at hSw); go_simp; try with_reducible rfl)
                try simp only [Act.put, List.setIfInBounds_toArray, List.set_cons_zero, List.set_cons_succ]
                refine WalkU.tk 22 rfl ?_ (Or.inl ⟨by rfl, ?_⟩) hHeld ?_
                rotate_left
                · (intro w hSw; (try dsimp only at hSw); go_simp; try with_reducible rfl)
                try simp only [Act.put, List.setIfInBounds_toArray, List.set_cons_zero, List.set_cons_succ]
                refine WalkU.tk 23 rfl ?_ (Or.inl ⟨by rfl, ?_⟩) hHeld ?_
                rotate_left
                · (intro w hSw; (try dsimp only at hSw); go_simp; try with_reducible rfl)
                try simp only [Act.put, List.setIfInBounds_toArray, List.set_cons_zero, List.set_cons_succ]
                refine WalkU.tk 24 rfl ?_ (Or.inl ⟨by rfl, ?_⟩) hHeld ?_
                rotate_left
                · (intro w hSw; (try dsimp only at hSw); go_simp; try with_reducible rfl)
                try simp only [Act.put, List.setIfInBounds_toArray, List.set_cons_zero, List.set_cons_succ]
                refine WalkU.tk 25 rfl ?_ (Or.inl ⟨by rfl, ?_⟩) hHeld ?_
                rotate_left
                · (intro w hSw; (try dsimp only at hSw); go_simp; try with_reducible rfl)
                try simp only [Act.put, List.setIfInBounds_toArray, List.set_cons_zero, List.set_cons_succ]
                refine WalkU.tk 26 rfl ?_ (Or.inl ⟨by rfl, ?_⟩) hHeld ?_
                rotate_left
                · (intro w hSw; (try dsimp only at hSw); go_simp; try with_reducible rfl)
                try simp only [Act.put, List.setIfInBounds_toArray, List.set_cons_zero, List.set_cons_succ]
                refine WalkU.tk 27 rfl ?_ (Or.inl ⟨by rfl, ?_⟩) hHeld ?_
                rotate_left
                · (intro w hSw; (try dsimp only at hSw); go_simp; try with_reducible rfl)
                try simp only [Act.put, List.setIfInBounds_toArray, List.set_cons_zero, List.set_cons_succ]
                refine WalkU.tk 28 rfl ?_ (Or.inl ⟨by rfl, ?_⟩) hHeld ?_
                rotate_left
                · (intro w hSw; (try dsimp only at hSw); go_simp; try with_reducible rfl)
                try simp only [Act.put, List.setIfInBounds_toArray, List.set_cons_zero, List.set_cons_succ]
                refine WalkU.tk 29 rfl ?_ (Or.inl ⟨by rfl, ?_⟩) hHeld ?_
                rotate_left
                · (intro w hSw; (try dsimp only at hSw); go_simp; try with_reducible rfl)
                try simp only [Act.put, List.setIfInBounds_toArray, List.set_cons_zero, List.set_cons_succ]
                refine WalkU.tk 30 rfl ?_ (Or.inl ⟨by rfl, ?_⟩) hHeld ?_
                rotate_left
                · (intro w hSw; (try dsimp only at hSw); go_simp; try with_reducible rfl)
                try simp only [Act.put, List.setIfInBounds_toArray, List.set_cons_zero, List.set_cons_succ]
                refine WalkU.tk 31 rfl ?_ (Or.inl ⟨by rfl, ?_⟩) hHeld ?_
                rotate_left
                · (intro w hSw; (try dsimp only at hSw); go_simp; try with_reducible rfl)
                try simp only [Act.put, List.setIfInBounds_toArray, List.set_cons_zero, List.set_cons_succ]
                refine WalkU.tk 32 rfl undef (Or.inr ⟨by rfl, rfl⟩) hHeld ?_
                try simp only [Act.put, List.setIfInBounds_toArray, List.set_cons_zero, List.set_cons_succ]
                refine WalkU.tk 33 rfl undef (Or.inr ⟨by rfl, rfl⟩) hHeld ?_
                try simp only [Act.put, List.setIfInBounds_toArray, List.set_cons_zero, List.set_cons_succ]
                refine WalkU.tk 34 rfl undef (Or.inr ⟨by rfl, rfl⟩) hHeld ?_
                try simp only [Act.put, List.setIfInBounds_toArray, List.set_cons_zero, List.set_cons_succ]
                refine WalkU.tk 35 rfl undef (Or.inr ⟨by rfl, rfl⟩) hHeld ?_
                try simp only [Act.put, List.setIfInBounds_toArray, List.set_cons_zero, List.set_cons_succ]
                refine WalkU.tk 36 rfl undef (Or.inr ⟨by rfl, rfl⟩) hHeld ?_
                try simp only [Act.put, List.setIfInBounds_toArray, List.set_cons_zero, List.set_cons_succ]
                refine WalkU.tk 37 rfl undef (Or.inr ⟨by rfl, rfl⟩) hHeld ?_
                try simp only [Act.put, List.setIfInBounds_toArray, List.set_cons_zero, List.set_cons_succ]
                refine WalkU.tk 38 rfl undef (Or.inr ⟨by rfl, rfl⟩) hHeld ?_
                try simp only [Act.put, List.setIfInBounds_toArray, List.set_cons_zero, List.set_cons_succ]
                refine WalkU.tk 39 rfl undef (Or.inr ⟨by rfl, rfl⟩) hHeld ?_
                try simp only [Act.put, List.setIfInBounds_toArray, List.set_cons_zero, List.set_cons_succ]
                refine WalkU.tk 40 rfl ?_ (Or.inl ⟨by rfl, ?_⟩) hHeld ?_
                rotate_left
                · (intro w hSw; (try dsimp only at hSw); go_simp; try with_reducible rfl)
                try simp only [Act.put, List.setIfInBounds_toArray, List.set_cons_zero, List.set_cons_succ]
                refine WalkU.tk 41 rfl ?_ (Or.inl ⟨by rfl, ?_⟩) hHeld ?_
                rotate_left
                · (intro w hSw; (try dsimp only at hSw); go_simp; try with_reducible rfl)
                try simp only [Act.put, List.setIfInBounds_toArray, List.set_cons_zero, List.set_cons_succ]
                refine WalkU.tk 42 rfl undef (Or.inr ⟨by rfl, rfl⟩) hHeld ?_
                try simp only [Act.put, List.setIfInBounds_toArray, List.set_cons_zero, List.set_cons_succ]
                refine WalkU.tk 43 rfl undef (Or.inr ⟨by rfl, rfl⟩) hHeld ?_
                try simp only [Act.put, List.setIfInBounds_toArray, List.set_cons_zero, List.set_cons_succ]
                refine WalkU.tk 44 rfl undef (Or.inr ⟨by rfl, rfl⟩) hHeld ?_
                try simp only [Act.put, List.setIfInBounds_toArray, List.set_cons_zero, List.set_cons_succ]
                refine WalkU.tk 45 rfl undef (Or.inr ⟨by rfl, rfl⟩) hHeld ?_
                try simp only [Act.put, List.setIfInBounds_toArray, List.set_cons_zero, List.set_cons_succ]
                refine WalkU.tk 46 rfl undef (Or.inr ⟨by rfl, rfl⟩) hHeld ?_
                try simp only [Act.put, List.setIfInBounds_toArray, List.set_cons_zero, List.set_cons_succ]
                refine WalkU.tk 47 rfl undef (Or.inr ⟨by rfl, rfl⟩) hHeld ?_
                try simp only [Act.put, List.setIfInBounds_toArray, List.set_cons_zero, List.set_cons_succ]
                refine WalkU.tk 48 rfl ?_ (Or.inl ⟨by rfl, ?_⟩) hHeld ?_
                rotate_left
                · (intro w hSw; (try dsimp only at hSw); go_simp; try with_reducible rfl)
                try simp only [Act.put, List.setIfInBounds_toArray, List.set_cons_zero, List.set_cons_succ]
                refine WalkU.last (i := 49) rfl rfl (by kernel_rfl) (by kernel_rfl) (fun K hK => ?_)
                go_simp
                refine hK.out _ _ ?_
                clear hK K
                try simp only [Act.put, List.setIfInBounds_toArray, List.set_cons_zero, List.set_cons_succ]
                go_wp2_with fail
                go_meet
                exact ⟨rfl, hbW⟩
        obtain ⟨rfl, hb⟩ := hcut
        have hbU2 := Below.step hbU hb
        have hTV := Below.step hTW hb
        have hrV := hrW.below hb
        have kRV := kRW.below hb
        have kV0 := kRV.c0
        have kV1 := kRV.c1
        have hc0V := (hb.cell (World.block_lt_of_cell? _ _ hc0)).trans hc0
        have hc1V := (hb.cell (World.block_lt_of_cell? _ _ hc1)).trans hc1
        have hikV := hik.below hb
        clear hc0 hc1 kW0 kW1 kRW hik hrW hlW Hhas Hwh hb
        generalize nrm (vtxV zr rs) k = xk at *
        generalize bnd (vtxV zr rs) k = dk at *
        generalize wc = V at *
        go_wp2_with fail
        go_loopw [11, 12] (fun s t wr => ∃ m : Nat, m ≤ kr ∧ t = .int .i64 m ∧ s = .int .i64 (eqTo rs xk dk m) ∧ Below V.heap.size V wr) (fun _ t _ => kr - (intOf t).toNat)
        case atStart => exact ⟨0, Nat.zero_le _, rfl, rfl, Below.refl _ _⟩
        case round =>
          obtain ⟨m, hm, rfl, rfl, hbV⟩ := hrel
          have hTR := Below.step hTV hbV
          have hrR := hrV.below hbV
          have kRR := kRV.below hbV
          have kRR0 := kRR.c0
          have kRR1 := kRR.c1
          have hc0R := (hbV.cell (World.block_lt_of_cell? _ _ hc0V)).trans hc0V
          have hc1R := (hbV.cell (World.block_lt_of_cell? _ _ hc1V)).trans hc1V
          have hikR := hikV.below hbV
          by_cases hlt2 : m < kr
          · have hd4 : decide ((m : Int) < (kr : Int)) = true := by simp; omega
            obtain ⟨bh, oh, qh, mh, dh, eqh, hh0, hh1, hmh, hdh, hih⟩ := hrR.cell m hlt2
            subst eqh
            obtain rfl : mk = mh := by rw [← hih.len, ← hikR.len]; exact (Hlen.out m (by rw [hrl.out]; exact hlt2)).symm
            have hy1 : (0 : Int) ≤ (m : Int) := by omega
            have hy2 : (m : Int) < (kr : Int) := by omega
            have heb := eqTo_in rs xk dk m
            have hw3 : IntKind.i64.wrap (eqTo rs xk dk m + 1) = eqTo rs xk dk m + 1 := by rw [wrapEq]; exact wrap64_id (by omega) (by omega)
            obtain ⟨dd, hdd⟩ : ∃ x, x = dotW (nrm rs m) xk := ⟨_, rfl⟩
            obtain ⟨bb, hbb⟩ : ∃ x, x = wrap64 (bnd rs m * dk) := ⟨_, rfl⟩
            have Hes : Hid (eqTo rs xk dk (m + 1) = if dd = bb then eqTo rs xk dk m + 1 else eqTo rs xk dk m) := Lib.hid (by rw [hdd, hbb]; rfl)
            have hwb : IntKind.i64.wrap (bnd rs m * dk) = bb := by rw [hbb]; exact wrapEq _
            have Hdd := Lib.hid hdd
            clear hdd hbb heb
            generalize wr = R at *
            have hihD := hih.drew
            have hikD := hikR.drew
            have hbW := drewBelow R
            by_cases hdb : dd = bb
            · have hdb2 : (dd == bb) = true := by simpa using hdb
              have Hdb := Lib.hid hdb
              clear hdb
              as_aux_lemma =>
                go_wp2_with fail
                refine wp_region_u 24 25 (fun w' => w'.cell? ⟨bR, 0, none⟩ = some (.int .i64 zr) ∧ w'.cell? ⟨bR, 1, none⟩ = some (.slice (some ⟨bh, oh, none⟩) kr dr) ∧ w'.cell? ⟨bl, ol + k * 2, none⟩ = some (.slice qk mk dk_) ∧ w'.cell? ⟨bl, ol + k * 2 + 1, none⟩ = some (.int .i64 dk) ∧ w'.cell? ⟨bh, oh + m * 2, none⟩ = some (.slice qh mk dh) ∧ w'.cell? ⟨bh, oh + m * 2 + 1, none⟩ = some (.int .i64 (bnd rs m))) (by kernel_rfl) rfl (by (try dsimp only); exact ⟨kRR0, kRR1, hc0R, hc1R, hh0, hh1⟩) (fun hHeld => ?_)
                refine WalkU.tk 0 rfl ?_ (Or.inl ⟨by rfl, ?_⟩) hHeld ?_
                rotate_left
                · (intro w hSw; (try dsimp only at hSw); go_simp; try with_reducible rfl)
                try simp only [Act.put, List.setIfInBounds_toArray, List.set_cons_zero, List.set_cons_succ]
                refine WalkU.tk 1 rfl ?_ (Or.inl ⟨by rfl, ?_⟩) hHeld ?_
                rotate_left
                · (intro w hSw; (try dsimp only at hSw); go_simp; try with_reducible rfl)
                try simp only [Act.put, List.setIfInBounds_toArray, List.set_cons_zero, List.set_cons_succ]
                refine WalkU.tk 2 rfl ?_ (Or.inl ⟨by rfl, ?_⟩) hHeld ?_
                rotate_left
                · (intro w hSw; (try dsimp only at hSw); go_simp; try with_reducible rfl)
                try simp only [Act.put, List.setIfInBounds_toArray, List.set_cons_zero, List.set_cons_succ]
                refine WalkU.tk 3 rfl ?_ (Or.inl ⟨by rfl, ?_⟩) hHeld ?_
                rotate_left
                · (intro w hSw; (try dsimp only at hSw); go_simp; try with_reducible rfl)
                try simp only [Act.put, List.setIfInBounds_toArray, List.set_cons_zero, List.set_cons_succ]
                refine WalkU.tk 4 rfl ?_ (Or.inl ⟨by rfl, ?_⟩) hHeld ?_
                rotate_left
                · (intro w hSw; (try dsimp only at hSw); go_simp; try with_reducible rfl)
                try simp only [Act.put, List.setIfInBounds_toArray, List.set_cons_zero, List.set_cons_succ]
                refine WalkU.tk 5 rfl ?_ (Or.inl ⟨by rfl, ?_⟩) hHeld ?_
                rotate_left
                · (intro w hSw; (try dsimp only at hSw); go_simp; try with_reducible rfl)
                try simp only [Act.put, List.setIfInBounds_toArray, List.set_cons_zero, List.set_cons_succ]
                refine WalkU.tk 6 rfl ?_ (Or.inl ⟨by rfl, ?_⟩) hHeld ?_
                rotate_left
                · (intro w hSw; (try dsimp only at hSw); go_simp; try with_reducible rfl)
                try simp only [Act.put, List.setIfInBounds_toArray, List.set_cons_zero, List.set_cons_succ]
                refine WalkU.tk 7 rfl ?_ (Or.inl ⟨by rfl, ?_⟩) hHeld ?_
                rotate_left
                · (intro w hSw; (try dsimp only at hSw); go_simp; try with_reducible rfl)
                try simp only [Act.put, List.setIfInBounds_toArray, List.set_cons_zero, List.set_cons_succ]
                refine WalkU.tk 8 rfl ?_ (Or.inl ⟨by rfl, ?_⟩) hHeld ?_
                rotate_left
                · (intro w hSw; (try dsimp only at hSw); go_simp; try with_reducible rfl)
                try simp only [Act.put, List.setIfInBounds_toArray, List.set_cons_zero, List.set_cons_succ]
                refine WalkU.tk 9 rfl ?_ (Or.inl ⟨by rfl, ?_⟩) hHeld ?_
                rotate_left
                · (intro w hSw; (try dsimp only at hSw); go_simp; try with_reducible rfl)
                try simp only [Act.put, List.setIfInBounds_toArray, List.set_cons_zero, List.set_cons_succ]
                refine WalkU.tk 10 rfl ?_ (Or.inl ⟨by rfl, ?_⟩) hHeld ?_
                rotate_left
                · (intro w hSw; (try dsimp only at hSw); go_simp; try with_reducible rfl)
                try simp only [Act.put, List.setIfInBounds_toArray, List.set_cons_zero, List.set_cons_succ]
                refine WalkU.tk 12 rfl ?_ (Or.inl ⟨by rfl, ?_⟩) hHeld ?_
                rotate_left
                · (intro w hSw; (try dsimp only at hSw); go_simp; try with_reducible rfl)
                try simp only [Act.put, List.setIfInBounds_toArray, List.set_cons_zero, List.set_cons_succ]
                refine WalkU.tk 13 rfl ?_ (Or.inl ⟨by rfl, ?_⟩) hHeld ?_
                rotate_left
                · (intro w hSw; (try dsimp only at hSw); go_simp; try with_reducible rfl)
                try simp only [Act.put, List.setIfInBounds_toArray, List.set_cons_zero, List.set_cons_succ]
                refine WalkU.tk 14 rfl ?_ (Or.inl ⟨by rfl, ?_⟩) hHeld ?_
                rotate_left
                · (intro w hSw; (try dsimp only at hSw); go_simp; try with_reducible rfl)
                try simp only [Act.put, List.setIfInBounds_toArray, List.set_cons_zero, List.set_cons_succ]
                refine WalkU.tk 15 rfl ?_ (Or.inl ⟨by rfl, ?_⟩) hHeld ?_
                rotate_left
                · (intro w hSw; (try dsimp only at hSw); go_simp; try with_reducible rfl)
                try simp only [Act.put, List.setIfInBounds_toArray, List.set_cons_zero, List.set_cons_succ]
                refine WalkU.tk 16 rfl ?_ (Or.inl ⟨by rfl, ?_⟩) hHeld ?_
                rotate_left
                · (intro w hSw; (try dsimp only at hSw); go_simp; try with_reducible rfl)
                try simp only [Act.put, List.setIfInBounds_toArray, List.set_cons_zero, List.set_cons_succ]
                refine WalkU.tk 17 rfl ?_ (Or.inl ⟨by rfl, ?_⟩) hHeld ?_
                rotate_left
                · (intro w hSw; (try dsimp only at hSw); go_simp; try with_reducible rfl)
                try simp only [Act.put, List.setIfInBounds_toArray, List.set_cons_zero, List.set_cons_succ]
                refine WalkU.tk 18 rfl ?_ (Or.inl ⟨by rfl, ?_⟩) hHeld ?_
                rotate_left
                · (intro w hSw; (try dsimp only at hSw); go_simp; try with_reducible rfl)
                try simp only [Act.put, List.setIfInBounds_toArray, List.set_cons_zero, List.set_cons_succ]
                refine WalkU.tk 19 rfl ?_ (Or.inl ⟨by rfl, ?_⟩) hHeld ?_
                rotate_left
                · (intro w hSw; (try dsimp only at hSw); go_simp; try with_reducible rfl)
                try simp only [Act.put, List.setIfInBounds_toArray, List.set_cons_zero, List.set_cons_succ]
                refine WalkU.tk 20 rfl ?_ (Or.inl ⟨by rfl, ?_⟩) hHeld ?_
                rotate_left
                · (intro w hSw; (try dsimp only at hSw); go_simp; try with_reducible rfl)
                try simp only [Act.put, List.setIfInBounds_toArray, List.set_cons_zero, List.set_cons_succ]
                refine WalkU.tk 21 rfl ?_ (Or.inl ⟨by rfl, ?_⟩) hHeld ?_
                rotate_left
                · (intro w hSw; (try dsimp only at hSw); go_simp; try with_reducible rfl)
                try simp only [Act.put, List.setIfInBounds_toArray, List.set_cons_zero, List.set_cons_succ]
                refine WalkU.tk 22 rfl ?_ (Or.inl ⟨by rfl, ?_⟩) hHeld ?_
                rotate_left
                · (intro w hSw; (try dsimp only at hSw); go_simp; try with_reducible rfl)
                try simp only [Act.put, List.setIfInBounds_toArray, List.set_cons_zero, List.set_cons_succ]
                refine WalkU.tk 23 rfl ?_ (Or.inl ⟨by rfl, ?_⟩) hHeld ?_
                rotate_left
                · (intro w hSw; (try dsimp only at hSw); go_simp; try with_reducible rfl)
                try simp only [Act.put, List.setIfInBounds_toArray, List.set_cons_zero, List.set_cons_succ]
                refine WalkU.one (i := 11) rfl (by kernel_rfl) (fun K hK => ?_)
                first
                  | (first | (go_at_call 22; (with_reducible refine (lawDot_any _ _ _ _ _ _ _ _ hmk hihD hikD).mono ?_); rw [← Hdd.out]; rintro e w5 ⟨rfl, hb5⟩; replace kRR0 := (hb5.cell (World.block_lt_of_cell? _ _ kRR0)).trans kRR0; replace kRR1 := (hb5.cell (World.block_lt_of_cell? _ _ kRR1)).trans kRR1; replace hc0R := (hb5.cell (World.block_lt_of_cell? _ _ hc0R)).trans hc0R; replace hc1R := (hb5.cell (World.block_lt_of_cell? _ _ hc1R)).trans hc1R; replace hh0 := (hb5.cell (World.block_lt_of_cell? _ _ hh0)).trans hh0; replace hh1 := (hb5.cell (World.block_lt_of_cell? _ _ hh1)).trans hh1; replace hbW := Below.step hbW hb5))
                  | (go_simp; (first | (go_at_call 22; (with_reducible refine (lawDot_any _ _ _ _ _ _ _ _ hmk hihD hikD).mono ?_); rw [← Hdd.out]; rintro e w5 ⟨rfl, hb5⟩; replace kRR0 := (hb5.cell (World.block_lt_of_cell? _ _ kRR0)).trans kRR0; replace kRR1 := (hb5.cell (World.block_lt_of_cell? _ _ kRR1)).trans kRR1; replace hc0R := (hb5.cell (World.block_lt_of_cell? _ _ hc0R)).trans hc0R; replace hc1R := (hb5.cell (World.block_lt_of_cell? _ _ hc1R)).trans hc1R; replace hh0 := (hb5.cell (World.block_lt_of_cell? _ _ hh0)).trans hh0; replace hh1 := (hb5.cell (World.block_lt_of_cell? _ _ hh1)).trans hh1; replace hbW := Below.step hbW hb5)))
                refine hK.out _ _ ?_ (fun hHeld => ?_)
                · ((try dsimp only); exact ⟨kRR0, kRR1, hc0R, hc1R, hh0, hh1⟩)
                clear hK K
                try simp only [Act.put, List.setIfInBounds_toArray, List.set_cons_zero, List.set_cons_succ]
                refine WalkU.last (i := 24) rfl rfl (by kernel_rfl) (by kernel_rfl) (fun K hK => ?_)
                go_simp
                refine hK.out _ _ ?_
                clear hK K
                try simp only [Act.put, List.setIfInBounds_toArray, List.set_cons_zero, List.set_cons_succ]
                go_wp2_with fail
                go_roundw
                case rel => exact ⟨m + 1, by omega, by go_num, by rw [Hes.out, if_pos Hdb.out], Below.step hbV hbW⟩
                case measure => simp [intOf]; omega
            · have hdb2 : (dd == bb) = false := by simpa using hdb
              have Hdb := Lib.hid hdb
              clear hdb
              as_aux_lemma =>
                go_wp2_with fail
                refine wp_region_u 24 25 (fun w' => w'.cell? ⟨bR, 0, none⟩ = some (.int .i64 zr) ∧ w'.cell? ⟨bR, 1, none⟩ = some (.slice (some ⟨bh, oh, none⟩) kr dr) ∧ w'.cell? ⟨bl, ol + k * 2, none⟩ = some (.slice qk mk dk_) ∧ w'.cell? ⟨bl, ol + k * 2 + 1, none⟩ = some (.int .i64 dk) ∧ w'.cell? ⟨bh, oh + m * 2, none⟩ = some (.slice qh mk dh) ∧ w'.cell? ⟨bh, oh + m * 2 + 1, none⟩ = some (.int .i64 (bnd rs m))) (by kernel_rfl) rfl (by (try dsimp only); exact ⟨kRR0, kRR1, hc0R, hc1R, hh0, hh1⟩) (fun hHeld => ?_)
                refine WalkU.tk 0 rfl ?_ (Or.inl ⟨by rfl, ?_⟩) hHeld ?_
                rotate_left
                · (intro w hSw; (try dsimp only at hSw); go_simp; try with_reducible rfl)
                try simp only [Act.put, List.setIfInBounds_toArray, List.set_cons_zero, List.set_cons_succ]
                refine WalkU.tk 1 rfl ?_ (Or.inl ⟨by rfl, ?_⟩) hHeld ?_
                rotate_left
                · (intro w hSw; (try dsimp only at hSw); go_simp; try with_reducible rfl)
                try simp only [Act.put, List.setIfInBounds_toArray, List.set_cons_zero, List.set_cons_succ]
                refine WalkU.tk 2 rfl ?_ (Or.inl ⟨by rfl, ?_⟩) hHeld ?_
                rotate_left
                · (intro w hSw; (try dsimp only at hSw); go_simp; try with_reducible rfl)
                try simp only [Act.put, List.setIfInBounds_toArray, List.set_cons_zero, List.set_cons_succ]
                refine WalkU.tk 3 rfl ?_ (Or.inl ⟨by rfl, ?_⟩) hHeld ?_
                rotate_left
                · (intro w hSw; (try dsimp only at hSw); go_simp; try with_reducible rfl)
                try simp only [Act.put, List.setIfInBounds_toArray, List.set_cons_zero, List.set_cons_succ]
                refine WalkU.tk 4 rfl ?_ (Or.inl ⟨by rfl, ?_⟩) hHeld ?_
                rotate_left
                · (intro w hSw; (try dsimp only at hSw); go_simp; try with_reducible rfl)
                try simp only [Act.put, List.setIfInBounds_toArray, List.set_cons_zero, List.set_cons_succ]
                refine WalkU.tk 5 rfl ?_ (Or.inl ⟨by rfl, ?_⟩) hHeld ?_
                rotate_left
                · (intro w hSw; (try dsimp only at hSw); go_simp; try with_reducible rfl)
                try simp only [Act.put, List.setIfInBounds_toArray, List.set_cons_zero, List.set_cons_succ]
                refine WalkU.tk 6 rfl ?_ (Or.inl ⟨by rfl, ?_⟩) hHeld ?_
                rotate_left
                · (intro w hSw; (try dsimp only at hSw); go_simp; try with_reducible rfl)
                try simp only [Act.put, List.setIfInBounds_toArray, List.set_cons_zero, List.set_cons_succ]
                refine WalkU.tk 7 rfl ?_ (Or.inl ⟨by rfl, ?_⟩) hHeld ?_
                rotate_left
                · (intro w hSw; (try dsimp only at hSw); go_simp; try with_reducible rfl)
                try simp only [Act.put, List.setIfInBounds_toArray, List.set_cons_zero, List.set_cons_succ]
                refine WalkU.tk 8 rfl ?_ (Or.inl ⟨by rfl, ?_⟩) hHeld ?_
                rotate_left
                · (intro w hSw; (try dsimp only at hSw); go_simp; try with_reducible rfl)
                try simp only [Act.put, List.setIfInBounds_toArray, List.set_cons_zero, List.set_cons_succ]
                refine WalkU.tk 9 rfl ?_ (Or.inl ⟨by rfl, ?_⟩) hHeld ?_
                rotate_left
                · (intro w hSw; (try dsimp only at hSw); go_simp; try with_reducible rfl)
                try simp only [Act.put, List.setIfInBounds_toArray, List.set_cons_zero, List.set_cons_succ]
                refine WalkU.tk 10 rfl ?_ (Or.inl ⟨by rfl, ?_⟩) hHeld ?_
                rotate_left
                · (intro w hSw; (try dsimp only at hSw); go_simp; try with_reducible rfl)
                try simp only [Act.put, List.setIfInBounds_toArray, List.set_cons_zero, List.set_cons_succ]
                refine WalkU.tk 12 rfl ?_ (Or.inl ⟨by rfl, ?_⟩) hHeld ?_
                rotate_left
                · (intro w hSw; (try dsimp only at hSw); go_simp; try with_reducible rfl)
                try simp only [Act.put, List.setIfInBounds_toArray, List.set_cons_zero, List.set_cons_succ]
                refine WalkU.tk 13 rfl ?_ (Or.inl ⟨by rfl, ?_⟩) hHeld ?_
                rotate_left
                · (intro w hSw; (try dsimp only at hSw); go_simp; try with_reducible rfl)
                try simp only [Act.put, List.setIfInBounds_toArray, List.set_cons_zero, List.set_cons_succ]
                refine WalkU.tk 14 rfl ?_ (Or.inl ⟨by rfl, ?_⟩) hHeld ?_
                rotate_left
                · (intro w hSw; (try dsimp only at hSw); go_simp; try with_reducible rfl)
                try simp only [Act.put, List.setIfInBounds_toArray, List.set_cons_zero, List.set_cons_succ]
                refine WalkU.tk 15 rfl ?_ (Or.inl ⟨by rfl, ?_⟩) hHeld ?_
                rotate_left
                · (intro w hSw; (try dsimp only at hSw); go_simp; try with_reducible rfl)
                try simp only [Act.put, List.setIfInBounds_toArray, List.set_cons_zero, List.set_cons_succ]
                refine WalkU.tk 16 rfl ?_ (Or.inl ⟨by rfl, ?_⟩) hHeld ?_
                rotate_left
                · (intro w hSw; (try dsimp only at hSw); go_simp; try with_reducible rfl)
                try simp only [Act.put, List.setIfInBounds_toArray, List.set_cons_zero, List.set_cons_succ]
                refine WalkU.tk 17 rfl ?_ (Or.inl ⟨by rfl, ?_⟩) hHeld ?_
                rotate_left
                · (intro w hSw; (try dsimp only at hSw); go_simp; try with_reducible rfl)
                try simp only [Act.put, List.setIfInBounds_toArray, List.set_cons_zero, List.set_cons_succ]
                refine WalkU.tk 18 rfl ?_ (Or.inl ⟨by rfl, ?_⟩) hHeld ?_
                rotate_left
                · (intro w hSw; (try dsimp only at hSw); go_simp; try with_reducible rfl)
                try simp only [Act.put, List.setIfInBounds_toArray, List.set_cons_zero, List.set_cons_succ]
                refine WalkU.tk 19 rfl ?_ (Or.inl ⟨by rfl, ?_⟩) hHeld ?_
                rotate_left
                · (intro w hSw; (try dsimp only at hSw); go_simp; try with_reducible rfl)
                try simp only [Act.put, List.setIfInBounds_toArray, List.set_cons_zero, List.set_cons_succ]
                refine WalkU.tk 20 rfl ?_ (Or.inl ⟨by rfl, ?_⟩) hHeld ?_
                rotate_left
                · (intro w hSw; (try dsimp only at hSw); go_simp; try with_reducible rfl)
                try simp only [Act.put, List.setIfInBounds_toArray, List.set_cons_zero, List.set_cons_succ]
                refine WalkU.tk 21 rfl ?_ (Or.inl ⟨by rfl, ?_⟩) hHeld ?_
                rotate_left
                · (intro w hSw; (try dsimp only at hSw); go_simp; try with_reducible rfl)
                try simp only [Act.put, List.setIfInBounds_toArray, List.set_cons_zero, List.set_cons_succ]
                refine WalkU.tk 22 rfl ?_ (Or.inl ⟨by rfl, ?_⟩) hHeld ?_
                rotate_left
                · (intro w hSw; (try dsimp only at hSw); go_simp; try with_reducible rfl)
                try simp only [Act.put, List.setIfInBounds_toArray, List.set_cons_zero, List.set_cons_succ]
                refine WalkU.tk 23 rfl ?_ (Or.inl ⟨by rfl, ?_⟩) hHeld ?_
                rotate_left
                · (intro w hSw; (try dsimp only at hSw); go_simp; try with_reducible rfl)
                try simp only [Act.put, List.setIfInBounds_toArray, List.set_cons_zero, List.set_cons_succ]
                refine WalkU.one (i := 11) rfl (by kernel_rfl) (fun K hK => ?_)
                first
                  | (first | (go_at_call 22; (with_reducible refine (lawDot_any _ _ _ _ _ _ _ _ hmk hihD hikD).mono ?_); rw [← Hdd.out]; rintro e w5 ⟨rfl, hb5⟩; replace kRR0 := (hb5.cell (World.block_lt_of_cell? _ _ kRR0)).trans kRR0; replace kRR1 := (hb5.cell (World.block_lt_of_cell? _ _ kRR1)).trans kRR1; replace hc0R := (hb5.cell (World.block_lt_of_cell? _ _ hc0R)).trans hc0R; replace hc1R := (hb5.cell (World.block_lt_of_cell? _ _ hc1R)).trans hc1R; replace hh0 := (hb5.cell (World.block_lt_of_cell? _ _ hh0)).trans hh0; replace hh1 := (hb5.cell (World.block_lt_of_cell? _ _ hh1)).trans hh1; replace hbW := Below.step hbW hb5))
                  | (go_simp; (first | (go_at_call 22; (with_reducible refine (lawDot_any _ _ _ _ _ _ _ _ hmk hihD hikD).mono ?_); rw [← Hdd.out]; rintro e w5 ⟨rfl, hb5⟩; replace kRR0 := (hb5.cell (World.block_lt_of_cell? _ _ kRR0)).trans kRR0; replace kRR1 := (hb5.cell (World.block_lt_of_cell? _ _ kRR1)).trans kRR1; replace hc0R := (hb5.cell (World.block_lt_of_cell? _ _ hc0R)).trans hc0R; replace hc1R := (hb5.cell (World.block_lt_of_cell? _ _ hc1R)).trans hc1R; replace hh0 := (hb5.cell (World.block_lt_of_cell? _ _ hh0)).trans hh0; replace hh1 := (hb5.cell (World.block_lt_of_cell? _ _ hh1)).trans hh1; replace hbW := Below.step hbW hb5)))
                refine hK.out _ _ ?_ (fun hHeld => ?_)
                · ((try dsimp only); exact ⟨kRR0, kRR1, hc0R, hc1R, hh0, hh1⟩)
                clear hK K
                try simp only [Act.put, List.setIfInBounds_toArray, List.set_cons_zero, List.set_cons_succ]
                refine WalkU.last (i := 24) rfl rfl (by kernel_rfl) (by kernel_rfl) (fun K hK => ?_)
                go_simp
                refine hK.out _ _ ?_
                clear hK K
                try simp only [Act.put, List.setIfInBounds_toArray, List.set_cons_zero, List.set_cons_succ]
                go_wp2_with fail
                go_roundw
                case rel => exact ⟨m + 1, by omega, by go_num, by rw [Hes.out, if_neg Hdb.out], Below.step hbV hbW⟩
                case measure => simp [intOf]; omega
          · obtain rfl : m = kr := by omega
            have hd4 : decide ((m : Int) < (m : Int)) = false := by simp
            have Heq2 := Heq.out
            rw [hrl.out] at Heq2
            have hd5 : decide (eqTo rs xk dk m < zr) = false := decide_eq_false (by omega)
            have hw3 : IntKind.i64.wrap ((k : Int) + 1) = (k : Int) + 1 := by rw [wrapEq]; exact wrap64_id (by omega) (by omega)
            clear Heq2
            go_wp2_with fail
            exact ⟨⟨k + 1, by omega, by go_num, Below.step hbU2 hbV⟩, by simp [intOf]; omega⟩
      · obtain rfl : k = nl := by omega
        have hdk : decide ((k : Int) < (k : Int)) = false := by simp
        go_wp2_with fail
        refine (implWhole_any _ _ _ _ _ _ (by omega) (hr.below hbU)).mono ?_
        rintro e w' ⟨rfl, hb⟩
        have hTE := Below.step hTW hb
        have kRE := (kR.below hbU).below hb
        have kE0 := kRE.c0
        have kE1 := kRE.c1
        clear kW0 kW1 kRW
        by_cases hn0 : k = 0
        · have hd6 : decide ((0 : Int) < (k : Int)) = false := decide_eq_false (by omega)
          have hd6n : decide (0 < k) = false := decide_eq_false (by omega)
          have hwf : wholeV zr rs = false := by unfold wholeV; rw [ll.out, hn0]; simp
          clear hn0
          go_wp2_with fail
          go_ret
          exact ⟨rfl, hTE⟩
        · have hd6 : decide ((0 : Int) < (k : Int)) = true := decide_eq_true (by omega)
          have hd6n : decide (0 < k) = true := decide_eq_true (by omega)
          go_wp2_with fail
          refine (specWhole_any _ _ _ _ _ _ (by omega) ((hr.below hbU).below hb)).mono ?_
          rintro e w'' ⟨rfl, hb2⟩
          go_wp2_with fail
          go_ret
          exact ⟨rfl, Below.step hTE hb2⟩

end Go.Proofs.YtpfklkmmhdpphaaGreatDoor
