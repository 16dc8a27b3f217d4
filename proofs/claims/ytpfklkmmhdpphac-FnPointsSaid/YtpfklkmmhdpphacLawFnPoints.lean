/- The law FnPoints: the walk: for every input it returns true and writes nothing that was there. Conditions: none. -/
import Derived.Test.YtpfklkmmhdpphacPLaw3
import Derived.Test.YtpfklkmmhdpphacRDraw4
import Derived.Test.YtpfklkmmhdpphacMSame
import Derived.Test.YtpfklkmmhdpphacPSame
import Derived.Test.YtpfklkmmhdpphacSliceLen
import Derived.Test.YtpfklkmmhdpphacEqReg2
import Derived.Lib.QuietBelow
import Derived.Deep.DeepCutAuto
import Derived.Deep.RegionHeld3
namespace Go.Proofs.Ytpfklkmmhdpphac
open Go.RowKit
set_option linter.unusedVariables false
set_option linter.unusedSimpArgs false
set_option maxRecDepth 100000

attribute [local go_sem ↓] Go.wp_at_zero Go.wp_at_succ

theorem eqRegV_self (z : Int) (hs : List Pr) : eqRegV z hs z hs = true := by simp [eqRegV, beqH]

set_option maxHeartbeats 16000000 in
theorem lawFnPoints_walk (q0 : Option Addr) (n0 c0 : Nat) (x0 : List Int) (w : World) (fm0 : n0 ≤ 9223372036854775807) (fr0 : BytesZ w q0 n0 x0) :
    Calls Try.prog 3 #[.slice q0 n0 c0] w fun e w' => e = .returned (.bool true) ∧ Below w.heap.size w w' := by
  by_cases hbig : 1048576 < n0
  · have hd : decide (1048576 < n0) = true := by simpa using hbig
    go_enter Try.func3, Try.ntmps3
    go_wp2_with (go_at_call 4; (with_reducible refine (big_any _ _ _ _).mono ?_); rintro e w' ⟨rfl, rfl⟩)
    go_ret
    exact ⟨rfl, Below.refl _ _⟩
  · have hd : decide (1048576 < n0) = false := by simpa using hbig
    go_enter Try.func3, Try.ntmps3
    go_wp2_with (go_at_call 4; (with_reducible refine (big_any _ _ _ _).mono ?_); rintro e w' ⟨rfl, rfl⟩)
    refine (drawPoints_any _ _ _ _ _ (by omega) fr0).mono ?_
    rintro e w' ⟨zr, qr, kr, dr, rs, rfl, ho, zr0, zr4, kr6, lnr, hb⟩
    have hT := hb
    have hr := ho.rd
    clear ho
    have hBx := boxed w' (.cells #[.int .i64 zr, .slice qr kr dr] 26)
    have kR := Box2.new w' (.int .i64 zr) (.slice qr kr dr) 26
    obtain ⟨BkR, hBkR⟩ : ∃ b, b = w'.heap.size := ⟨_, rfl⟩
    have kRx := kR.c0
    have kRy := kR.c1
    replace hr := hr.below hBx
    replace hT := Below.step hT hBx
    have hBs : w'.heap.size < (w'.alloc (.cells #[.int .i64 zr, .slice qr kr dr] 26)).heap.size := by simp
    clear hBkR
    go_wp2_with fail
    generalize w'.alloc (.cells #[.int .i64 zr, .slice qr kr dr] 26) = W_kR at *
    generalize w'.heap.size = b_kR at *
    clear hBx
    refine (implPoints_any _ _ _ _ _ _ (by omega) hr).mono ?_
    rintro e w' ⟨ql, nl, dl, rfl, ho, hb⟩
    replace hr := hr.below hb
    replace kR := kR.below hb
    replace kRx := kR.c0
    replace kRy := kR.c1
    replace hT := Below.step hT hb
    have hl := ho.rd
    have sl := ho.small
    have ll := Lib.hid hl.len
    clear ho
    go_wp2_with fail
    refine (drawLeast_any _ _ _ _ _ (by omega) (fr0.below hT)).mono ?_
    rintro e w' ⟨za, qa, ka, da, as_, qv, nv, dv, xv, rfl, ho, za0, za4, ka6, lna, hov, hnv, hb⟩
    replace hr := hr.below hb
    replace hl := hl.below hb
    replace kR := kR.below hb
    replace kRx := kR.c0
    replace kRy := kR.c1
    replace hT := Below.step hT hb
    have ha := ho.rd
    have hv := hov.ints
    clear ho hov
    have hBx := boxed w' (.cells #[.int .i64 za, .slice qa ka da] 26)
    have kA := Box2.new w' (.int .i64 za) (.slice qa ka da) 26
    obtain ⟨BkA, hBkA⟩ : ∃ b, b = w'.heap.size := ⟨_, rfl⟩
    have kAx := kA.c0
    have kAy := kA.c1
    replace hr := hr.below hBx
    replace hl := hl.below hBx
    replace ha := ha.below hBx
    replace hv := hv.below hBx
    replace kR := kR.below hBx
    replace kRx := kR.c0
    replace kRy := kR.c1
    replace hT := Below.step hT hBx
    have hBs : w'.heap.size < (w'.alloc (.cells #[.int .i64 za, .slice qa ka da] 26)).heap.size := by simp
    clear hBkA
    go_wp2_with fail
    generalize w'.alloc (.cells #[.int .i64 za, .slice qa ka da] 26) = W_kA at *
    generalize w'.heap.size = b_kA at *
    clear hBx
    refine (implLeast_any _ _ _ _ _ _ _ _ _ _ (by omega) (by omega) ha hv).mono ?_
    rintro e w' ⟨qx, nx, dx, rfl, ho, hb⟩
    obtain ⟨PX, hPX⟩ : ∃ P, P = bestV (-1) za as_ xv := ⟨_, rfl⟩
    have HX := Lib.hid hPX
    rw [← hPX] at ho ⊢
    clear hPX
    obtain ⟨xx, one⟩ := PX
    dsimp only at ho ⊢
    replace hr := hr.below hb
    replace hl := hl.below hb
    replace ha := ha.below hb
    replace hv := hv.below hb
    replace kR := kR.below hb
    replace kA := kA.below hb
    replace kRx := kR.c0
    replace kRy := kR.c1
    replace kAx := kA.c0
    replace kAy := kA.c1
    replace hT := Below.step hT hb
    have hx := ho.ints
    have sx := ho.small
    have lx := Lib.hid hx.len
    clear ho
    go_wp2_with fail
    refine (specLeast_any _ _ _ _ _ _ _ _ _ _ (by omega) (by omega) ha hv).mono ?_
    rintro e w' ⟨qx2, nx2, dx2, rfl, ho, hb⟩
    rw [← HX.out] at ho ⊢
    dsimp only at ho ⊢
    replace hr := hr.below hb
    replace hl := hl.below hb
    replace ha := ha.below hb
    replace hv := hv.below hb
    replace hx := hx.below hb
    replace kR := kR.below hb
    replace kA := kA.below hb
    replace kRx := kR.c0
    replace kRy := kR.c1
    replace kAx := kA.c0
    replace kAy := kA.c1
    replace hT := Below.step hT hb
    have hx2 := ho.ints
    obtain rfl : nx2 = nx := by rw [← hx2.len, lx.out]
    clear ho
    go_wp2_with fail
    refine (implMost_any _ _ _ _ _ _ _ _ _ _ (by omega) (by omega) ha hv).mono ?_
    rintro e w' ⟨qz, nz, dz_, rfl, ho, hb⟩
    obtain ⟨PZ, hPZ⟩ : ∃ P, P = bestV 1 za as_ xv := ⟨_, rfl⟩
    have HZ := Lib.hid hPZ
    rw [← hPZ] at ho ⊢
    clear hPZ
    obtain ⟨xz, three⟩ := PZ
    dsimp only at ho ⊢
    replace hr := hr.below hb
    replace hl := hl.below hb
    replace ha := ha.below hb
    replace hv := hv.below hb
    replace hx := hx.below hb
    replace hx2 := hx2.below hb
    replace kR := kR.below hb
    replace kA := kA.below hb
    replace kRx := kR.c0
    replace kRy := kR.c1
    replace kAx := kA.c0
    replace kAy := kA.c1
    replace hT := Below.step hT hb
    have hz := ho.ints
    have sz := ho.small
    have lz := Lib.hid hz.len
    clear ho
    go_wp2_with fail
    refine (specMost_any _ _ _ _ _ _ _ _ _ _ (by omega) (by omega) ha hv).mono ?_
    rintro e w' ⟨qz2, nz2, dz2, rfl, ho, hb⟩
    rw [← HZ.out] at ho ⊢
    dsimp only at ho ⊢
    replace hr := hr.below hb
    replace hl := hl.below hb
    replace ha := ha.below hb
    replace hv := hv.below hb
    replace hx := hx.below hb
    replace hx2 := hx2.below hb
    replace hz := hz.below hb
    replace kR := kR.below hb
    replace kA := kA.below hb
    replace kRx := kR.c0
    replace kRy := kR.c1
    replace kAx := kA.c0
    replace kAy := kA.c1
    replace hT := Below.step hT hb
    have hz2 := ho.ints
    obtain rfl : nz2 = nz := by rw [← hz2.len, lz.out]
    clear ho
    go_wp2_with fail
    refine (drawSlice_any _ _ _ _ _ (by omega) (fr0.below hT)).mono ?_
    rintro e w' ⟨zs, qs, ks, ds, ss, si, sj, rfl, ho, zs0, zs4, ks6, lns, hb⟩
    replace hr := hr.below hb
    replace hl := hl.below hb
    replace ha := ha.below hb
    replace hv := hv.below hb
    replace hx := hx.below hb
    replace hx2 := hx2.below hb
    replace hz := hz.below hb
    replace hz2 := hz2.below hb
    replace kR := kR.below hb
    replace kA := kA.below hb
    replace kRx := kR.c0
    replace kRy := kR.c1
    replace kAx := kA.c0
    replace kAy := kA.c1
    replace hT := Below.step hT hb
    have hs := ho.rd
    clear ho
    have hBx := boxed w' (.cells #[.int .i64 zs, .slice qs ks ds] 26)
    have kS := Box2.new w' (.int .i64 zs) (.slice qs ks ds) 26
    obtain ⟨BkS, hBkS⟩ : ∃ b, b = w'.heap.size := ⟨_, rfl⟩
    have kSx := kS.c0
    have kSy := kS.c1
    replace hr := hr.below hBx
    replace hl := hl.below hBx
    replace ha := ha.below hBx
    replace hv := hv.below hBx
    replace hx := hx.below hBx
    replace hx2 := hx2.below hBx
    replace hz := hz.below hBx
    replace hz2 := hz2.below hBx
    replace hs := hs.below hBx
    replace kR := kR.below hBx
    replace kA := kA.below hBx
    replace kRx := kR.c0
    replace kRy := kR.c1
    replace kAx := kA.c0
    replace kAy := kA.c1
    replace hT := Below.step hT hBx
    have hBs : w'.heap.size < (w'.alloc (.cells #[.int .i64 zs, .slice qs ks ds] 26)).heap.size := by simp
    clear hBkS
    go_wp2_with fail
    generalize w'.alloc (.cells #[.int .i64 zs, .slice qs ks ds] 26) = W_kS at *
    generalize w'.heap.size = b_kS at *
    clear hBx
    refine (implSlice_any _ _ _ _ _ _ _ _ (by omega) hs).mono ?_
    rintro e w' ⟨qt, nt, dt, rfl, ho, hb⟩
    obtain ⟨PT, hPT⟩ : ∃ P, P = sliceV zs si sj ss := ⟨_, rfl⟩
    have HT := Lib.hid hPT
    rw [← hPT] at ho ⊢
    clear hPT
    obtain ⟨⟨zt, ts⟩, five⟩ := PT
    dsimp only at ho ⊢
    replace hr := hr.below hb
    replace hl := hl.below hb
    replace ha := ha.below hb
    replace hv := hv.below hb
    replace hx := hx.below hb
    replace hx2 := hx2.below hb
    replace hz := hz.below hb
    replace hz2 := hz2.below hb
    replace hs := hs.below hb
    replace kR := kR.below hb
    replace kA := kA.below hb
    replace kS := kS.below hb
    replace kRx := kR.c0
    replace kRy := kR.c1
    replace kAx := kA.c0
    replace kAy := kA.c1
    replace kSx := kS.c0
    replace kSy := kS.c1
    replace hT := Below.step hT hb
    have ht := ho.rd
    have st := ho.small
    have lt := Lib.hid ht.len
    clear ho
    have hBx := boxed w' (.cells #[.int .i64 zt, .slice qt nt dt] 26)
    have kT := Box2.new w' (.int .i64 zt) (.slice qt nt dt) 26
    obtain ⟨BkT, hBkT⟩ : ∃ b, b = w'.heap.size := ⟨_, rfl⟩
    have kTx := kT.c0
    have kTy := kT.c1
    replace hr := hr.below hBx
    replace hl := hl.below hBx
    replace ha := ha.below hBx
    replace hv := hv.below hBx
    replace hx := hx.below hBx
    replace hx2 := hx2.below hBx
    replace hz := hz.below hBx
    replace hz2 := hz2.below hBx
    replace hs := hs.below hBx
    replace ht := ht.below hBx
    replace kR := kR.below hBx
    replace kA := kA.below hBx
    replace kS := kS.below hBx
    replace kRx := kR.c0
    replace kRy := kR.c1
    replace kAx := kA.c0
    replace kAy := kA.c1
    replace kSx := kS.c0
    replace kSy := kS.c1
    replace hT := Below.step hT hBx
    have hBs : w'.heap.size < (w'.alloc (.cells #[.int .i64 zt, .slice qt nt dt] 26)).heap.size := by simp
    clear hBkT
    go_wp2_with fail
    generalize w'.alloc (.cells #[.int .i64 zt, .slice qt nt dt] 26) = W_kT at *
    generalize w'.heap.size = b_kT at *
    clear hBx
    refine (specSlice_any _ _ _ _ _ _ _ _ (by omega) hs).mono ?_
    rintro e w' ⟨qu, nu, du, rfl, ho, hb⟩
    rw [← HT.out] at ho ⊢
    dsimp only at ho ⊢
    replace hr := hr.below hb
    replace hl := hl.below hb
    replace ha := ha.below hb
    replace hv := hv.below hb
    replace hx := hx.below hb
    replace hx2 := hx2.below hb
    replace hz := hz.below hb
    replace hz2 := hz2.below hb
    replace hs := hs.below hb
    replace ht := ht.below hb
    replace kR := kR.below hb
    replace kA := kA.below hb
    replace kS := kS.below hb
    replace kT := kT.below hb
    replace kRx := kR.c0
    replace kRy := kR.c1
    replace kAx := kA.c0
    replace kAy := kA.c1
    replace kSx := kS.c0
    replace kSy := kS.c1
    replace kTx := kT.c0
    replace kTy := kT.c1
    replace hT := Below.step hT hb
    have hu := ho.rd
    obtain rfl : nu = nt := by rw [← hu.len, lt.out]
    clear ho
    have hBx := boxed w' (.cells #[.int .i64 zt, .slice qu nu du] 26)
    have kU := Box2.new w' (.int .i64 zt) (.slice qu nu du) 26
    obtain ⟨BkU, hBkU⟩ : ∃ b, b = w'.heap.size := ⟨_, rfl⟩
    have kUx := kU.c0
    have kUy := kU.c1
    replace hr := hr.below hBx
    replace hl := hl.below hBx
    replace ha := ha.below hBx
    replace hv := hv.below hBx
    replace hx := hx.below hBx
    replace hx2 := hx2.below hBx
    replace hz := hz.below hBx
    replace hz2 := hz2.below hBx
    replace hs := hs.below hBx
    replace ht := ht.below hBx
    replace hu := hu.below hBx
    replace kR := kR.below hBx
    replace kA := kA.below hBx
    replace kS := kS.below hBx
    replace kT := kT.below hBx
    replace kRx := kR.c0
    replace kRy := kR.c1
    replace kAx := kA.c0
    replace kAy := kA.c1
    replace kSx := kS.c0
    replace kSy := kS.c1
    replace kTx := kT.c0
    replace kTy := kT.c1
    replace hT := Below.step hT hBx
    have hBs : w'.heap.size < (w'.alloc (.cells #[.int .i64 zt, .slice qu nu du] 26)).heap.size := by simp
    clear hBkU
    go_wp2_with fail
    generalize w'.alloc (.cells #[.int .i64 zt, .slice qu nu du] 26) = W_kU at *
    generalize w'.heap.size = b_kU at *
    clear hBx
    generalize W_kU = U at *
    clear fr0
    have hE := Lib.hid (eqRegV_self zt ts)
    have hcc := Lib.hid (rfl : countV zr rs = countV zr rs)
    go_cut [129] (fun v wx => v = .bool false ∧ Below U.heap.size U wx)
    case first =>
      clear ha hv hs kA kS kAx kAy kSx kSy hT
      have hc := Below.refl U.heap.size U
      have hb := drewBelow U
      replace hr := hr.below hb
      replace hl := hl.below hb
      replace hx := hx.below hb
      replace hx2 := hx2.below hb
      replace hz := hz.below hb
      replace hz2 := hz2.below hb
      replace ht := ht.below hb
      replace hu := hu.below hb
      replace kR := kR.below hb
      replace kT := kT.below hb
      replace kU := kU.below hb
      replace hc := Below.step hc hb
      replace kRx := kR.c0
      replace kRy := kR.c1
      replace kTx := kT.c0
      replace kTy := kT.c1
      replace kUx := kU.c0
      replace kUy := kU.c1
      go_region_held3 (fun w' => w'.cell? ⟨b_kR, 0, none⟩ = some (.int .i64 zr) ∧ w'.cell? ⟨b_kR, 1, none⟩ = some (.slice qr kr dr) ∧ w'.cell? ⟨b_kT, 0, none⟩ = some (.int .i64 zt) ∧ w'.cell? ⟨b_kT, 1, none⟩ = some (.slice qt nu dt) ∧ w'.cell? ⟨b_kU, 0, none⟩ = some (.int .i64 zt) ∧ w'.cell? ⟨b_kU, 1, none⟩ = some (.slice qu nu du)) (first | exact ⟨kRx, kRy, kTx, kTy, kUx, kUy⟩) (first | (go_simp; go_at_call 16; (with_reducible refine (specPoints_any _ _ _ _ _ _ (by omega) hr).mono ?_); rintro e w' ⟨qm, nm, dm, rfl, ho, hb⟩; replace hr := hr.below hb; replace hl := hl.below hb; replace hx := hx.below hb; replace hx2 := hx2.below hb; replace hz := hz.below hb; replace hz2 := hz2.below hb; replace ht := ht.below hb; replace hu := hu.below hb; replace kR := kR.below hb; replace kT := kT.below hb; replace kU := kU.below hb; replace hc := Below.step hc hb; replace kRx := kR.c0; replace kRy := kR.c1; replace kTx := kT.c0; replace kTy := kT.c1; replace kUx := kU.c0; replace kUy := kU.c1; have hm := ho.rd; obtain rfl : nm = nl := by rw [← hm.len, ← hl.len]) | (go_simp; go_at_call 15; (with_reducible refine (sameLists_self _ _ _ _ _ _ _ sl hl hm).mono ?_); rintro e w' ⟨rfl, hb⟩; replace hr := hr.below hb; replace hl := hl.below hb; replace hx := hx.below hb; replace hx2 := hx2.below hb; replace hz := hz.below hb; replace hz2 := hz2.below hb; replace ht := ht.below hb; replace hu := hu.below hb; replace kR := kR.below hb; replace kT := kT.below hb; replace kU := kU.below hb; replace hc := Below.step hc hb; replace kRx := kR.c0; replace kRy := kR.c1; replace kTx := kT.c0; replace kTy := kT.c1; replace kUx := kU.c0; replace kUy := kU.c1) | (go_simp; go_at_call 17; (with_reducible refine (implCount_any _ _ _ _ _ _ (by omega) hr).mono ?_); rintro e w' ⟨rfl, hb⟩; replace hr := hr.below hb; replace hl := hl.below hb; replace hx := hx.below hb; replace hx2 := hx2.below hb; replace hz := hz.below hb; replace hz2 := hz2.below hb; replace ht := ht.below hb; replace hu := hu.below hb; replace kR := kR.below hb; replace kT := kT.below hb; replace kU := kU.below hb; replace hc := Below.step hc hb; replace kRx := kR.c0; replace kRy := kR.c1; replace kTx := kT.c0; replace kTy := kT.c1; replace kUx := kU.c0; replace kUy := kU.c1) | (go_simp; go_at_call 18; (with_reducible refine (specCount_any _ _ _ _ _ _ (by omega) hr).mono ?_); rintro e w' ⟨rfl, hb⟩; replace hr := hr.below hb; replace hl := hl.below hb; replace hx := hx.below hb; replace hx2 := hx2.below hb; replace hz := hz.below hb; replace hz2 := hz2.below hb; replace ht := ht.below hb; replace hu := hu.below hb; replace kR := kR.below hb; replace kT := kT.below hb; replace kU := kU.below hb; replace hc := Below.step hc hb; replace kRx := kR.c0; replace kRy := kR.c1; replace kTx := kT.c0; replace kTy := kT.c1; replace kUx := kU.c0; replace kUy := kU.c1) | (go_simp; go_at_call 19; (with_reducible refine (sameInts_self _ _ _ _ _ _ _ sx hx hx2).mono ?_); rintro e w' ⟨rfl, hb⟩; replace hr := hr.below hb; replace hl := hl.below hb; replace hx := hx.below hb; replace hx2 := hx2.below hb; replace hz := hz.below hb; replace hz2 := hz2.below hb; replace ht := ht.below hb; replace hu := hu.below hb; replace kR := kR.below hb; replace kT := kT.below hb; replace kU := kU.below hb; replace hc := Below.step hc hb; replace kRx := kR.c0; replace kRy := kR.c1; replace kTx := kT.c0; replace kTy := kT.c1; replace kUx := kU.c0; replace kUy := kU.c1) | (go_simp; go_at_call 19; (with_reducible refine (sameInts_self _ _ _ _ _ _ _ sz hz hz2).mono ?_); rintro e w' ⟨rfl, hb⟩; replace hr := hr.below hb; replace hl := hl.below hb; replace hx := hx.below hb; replace hx2 := hx2.below hb; replace hz := hz.below hb; replace hz2 := hz2.below hb; replace ht := ht.below hb; replace hu := hu.below hb; replace kR := kR.below hb; replace kT := kT.below hb; replace kU := kU.below hb; replace hc := Below.step hc hb; replace kRx := kR.c0; replace kRy := kR.c1; replace kTx := kT.c0; replace kTy := kT.c1; replace kUx := kU.c0; replace kUy := kU.c1) | (go_simp; go_at_call 20; (with_reducible refine (specEqReg_any _ _ _ _ _ _ _ _ _ _ _ ht hu st st).mono ?_); rw [hE.out]; rintro e w' ⟨rfl, hb⟩; replace hr := hr.below hb; replace hl := hl.below hb; replace hx := hx.below hb; replace hx2 := hx2.below hb; replace hz := hz.below hb; replace hz2 := hz2.below hb; replace ht := ht.below hb; replace hu := hu.below hb; replace kR := kR.below hb; replace kT := kT.below hb; replace kU := kU.below hb; replace hc := Below.step hc hb; replace kRx := kR.c0; replace kRy := kR.c1; replace kTx := kT.c0; replace kTy := kT.c1; replace kUx := kU.c0; replace kUy := kU.c1))
      all_goals
        go_wp2_with fail
        go_meet
        exact ⟨rfl, hc⟩
    obtain ⟨rfl, hb⟩ := hcut
    clear hx2 hz2 ht hu hs kS kT kU kSx kSy kTx kTy kUx kUy hE hcc
    replace hr := hr.below hb
    replace hl := hl.below hb
    replace ha := ha.below hb
    replace hv := hv.below hb
    replace hx := hx.below hb
    replace hz := hz.below hb
    replace kR := kR.below hb
    replace kA := kA.below hb
    replace kRx := kR.c0
    replace kRy := kR.c1
    replace kAx := kA.c0
    replace kAy := kA.c1
    replace hT := Below.step hT hb
    generalize wc = U2 at *
    go_upto_region 15 with fail
    go_cut [151] (fun v wx => v = .bool false ∧ Below U2.heap.size U2 wx)
    case first =>
      cases one
      · go_wp2_with fail
        go_meet
        exact ⟨rfl, Below.refl _ _⟩
      · obtain ⟨y, hy, hle, hp1, hp2, l1, l2⟩ := best_law (show bestV (-1) za as_ xv = (xx, true) from HX.out.symm)
        obtain ⟨rfl, rfl⟩ := Prod.mk.inj (HZ.out.trans hy)
        clear hy
        have hp1 := Lib.hid hp1
        have hp2 := Lib.hid hp2
        obtain rfl : nv = nx2 := by rw [← hx.len, ← hv.len, l1]
        obtain rfl : nv = nz2 := by rw [← hz.len, ← hv.len, l2]
        clear l1 l2 hT
        have hT := Below.refl U2.heap.size U2
        obtain ⟨d1, hd1⟩ : ∃ d, d = dotW xx xv := ⟨_, rfl⟩
        obtain ⟨d2, hd2⟩ : ∃ d, d = dotW xz xv := ⟨_, rfl⟩
        have hle2 := Lib.hid hle
        rw [← hd1, ← hd2] at hle
        have hd1 := Lib.hid hd1
        have hd2 := Lib.hid hd2
        have hdd : decide (d2 < d1) = false := by simp; omega
        go_wp2_with fail
        refine (lawDot_any _ _ _ _ _ _ _ _ sx hx hv).mono ?_
        rw [← hd1.out]
        rintro e w' ⟨rfl, hb⟩
        replace ha := ha.below hb
        replace hv := hv.below hb
        replace hx := hx.below hb
        replace hz := hz.below hb
        replace kA := kA.below hb
        replace kAx := kA.c0
        replace kAy := kA.c1
        replace hT := Below.step hT hb
        go_wp2_with fail
        refine (lawDot_any _ _ _ _ _ _ _ _ sx hz hv).mono ?_
        rw [← hd2.out]
        rintro e w' ⟨rfl, hb⟩
        replace ha := ha.below hb
        replace hv := hv.below hb
        replace hx := hx.below hb
        replace hz := hz.below hb
        replace kA := kA.below hb
        replace kAx := kA.c0
        replace kAy := kA.c1
        replace hT := Below.step hT hb
        go_wp2_with fail
        refine (implHas_any _ _ _ _ _ _ _ _ _ _ (by omega) sx ha hx).mono ?_
        rw [hp1.out]
        rintro e w' ⟨rfl, hb⟩
        replace ha := ha.below hb
        replace hv := hv.below hb
        replace hx := hx.below hb
        replace hz := hz.below hb
        replace kA := kA.below hb
        replace kAx := kA.c0
        replace kAy := kA.c1
        replace hT := Below.step hT hb
        go_wp2_with fail
        refine (implHas_any _ _ _ _ _ _ _ _ _ _ (by omega) sx ha hz).mono ?_
        rw [hp2.out]
        rintro e w' ⟨rfl, hb⟩
        replace ha := ha.below hb
        replace hv := hv.below hb
        replace hx := hx.below hb
        replace hz := hz.below hb
        replace kA := kA.below hb
        replace kAx := kA.c0
        replace kAy := kA.c1
        replace hT := Below.step hT hb
        go_wp2_with fail
        go_meet
        refine ⟨?_, hT⟩
        first | rfl | (rw [decide_eq_false (Int.not_lt.2 hle2.out)])
    obtain ⟨rfl, hb⟩ := hcut
    clear ha hv hx hz kA kAx kAy
    replace hr := hr.below hb
    replace hl := hl.below hb
    replace kR := kR.below hb
    replace kRx := kR.c0
    replace kRy := kR.c1
    replace hT := Below.step hT hb
    generalize wc = U3 at *
    go_wp2_with fail
    refine (specIsRegion_any _ _ _ _ _ _ (by omega) hr).mono ?_
    cases hreg : isReg zr rs
    · rintro e w' ⟨rfl, hb⟩
      replace hT := Below.step hT hb
      go_wp2_with fail
      go_ret
      exact ⟨rfl, hT⟩
    rintro e w' ⟨rfl, hb⟩
    replace hr := hr.below hb
    replace hl := hl.below hb
    replace kR := kR.below hb
    replace kRx := kR.c0
    replace kRy := kR.c1
    replace hT := Below.step hT hb
    by_cases hz2 : zr < 2
    · have hd2 : decide (zr < 2) = true := by simpa using hz2
      go_wp2_with fail
      go_ret
      exact ⟨rfl, hT⟩
    have hd2 : decide (zr < 2) = false := by simpa using hz2
    have hzb := isReg_facts hreg
    obtain ⟨n, hn, hn1⟩ : ∃ n : Nat, zr = (n : Int) + 1 ∧ 1 ≤ n := ⟨(zr - 1).toNat, by omega, by omega⟩
    have Hn := Lib.hid hn
    have Hreg := Lib.hid hreg
    clear hzb hn hreg
    generalize w' = U4 at *
    go_wp2_with fail
    go_loopw [22, 23] (fun s i wr => ∃ k : Nat, k ≤ 13 ∧ i = .int .i64 (-6 + (k : Int)) ∧ s = .int .i64 (sumTo zr rs k) ∧ Hid (∀ j : Nat, j < k → (sliceV zr 0 (-6 + (j : Int)) rs).2 = true ∨ ∀ t, t < rs.length → -60 ≤ bnd rs t ∧ bnd rs t ≤ 60) ∧ Below U4.heap.size U4 wr) (fun _ i _ => 13 - (intOf i + 6).toNat)
    case atStart => exact ⟨0, Nat.zero_le _, rfl, rfl, Lib.hid fun j hj => by omega, Below.refl _ _⟩
    case round =>
      obtain ⟨k, hk, rfl, rfl, hok, hbU⟩ := hrel
      have hTW := Below.step hT hbU
      have hrW := hr.below hbU
      have hlW := hl.below hbU
      have kRW := kR.below hbU
      have kW0 := kRW.c0
      have kW1 := kRW.c1
      by_cases hlt : k < 13
      · have hd3 : decide (-6 + (k : Int) ≤ 6) = true := by simp; omega
        generalize wr = W at *
        obtain ⟨PT, hPT⟩ : ∃ P, P = sliceV zr 0 (-6 + (k : Int)) rs := ⟨_, rfl⟩
        have HP := Lib.hid hPT
        clear hPT
        obtain ⟨⟨zp, ps⟩, okp⟩ := PT
        go_wp2_with fail
        refine (implSlice_any _ _ _ _ _ _ _ _ (by omega) hrW).mono ?_
        rw [← HP.out]
        rintro e w' ⟨qp, np, dp_, rfl, ho, hb⟩
        dsimp only at ho ⊢
        have hp := ho.rd
        have sp := ho.small
        clear ho
        have hBx := boxed w' (.cells #[.int .i64 zp, .slice qp np dp_] 26)
        have kP := Box2.new w' (.int .i64 zp) (.slice qp np dp_) 26
        have hbU2 := Below.step (Below.step hbU hb) hBx
        have hpP := hp.below hBx
        have kP0 := kP.c0
        have kP1 := kP.c1
        have hrP := (hrW.below hb).below hBx
        have kRP := (kRW.below hb).below hBx
        have kRP0 := kRP.c0
        have kRP1 := kRP.c1
        have hTP := Below.step (Below.step hTW hb) hBx
        clear kW0 kW1
        cases okp
        · go_wp2_with fail
          generalize w'.alloc (.cells #[.int .i64 zp, .slice qp np dp_] 26) = V at *
          refine (specSlice_any _ _ _ _ _ _ _ _ (by omega) hrP).mono ?_
          rw [← HP.out]
          rintro e w' ⟨qp2, np2, dp2, rfl, ho, hb5⟩
          dsimp only at ho ⊢
          clear ho
          have hBx := boxed w' (.cells #[.int .i64 zp, .slice qp2 np2 dp2] 26)
          have hbU3 := Below.step (Below.step hbU2 hb5) hBx
          have hrQ := (hrP.below hb5).below hBx
          have kRQ := (kRP.below hb5).below hBx
          have kRQ0 := kRQ.c0
          have kRQ1 := kRQ.c1
          have hTQ := Below.step (Below.step hTP hb5) hBx
          clear kRP0 kRP1 kRP hrP kP0 kP1 kP hpP hp hb5 hBx
          go_wp2_with fail
          generalize w'.alloc (.cells #[.int .i64 zp, .slice qp2 np2 dp2] 26) = V2 at *
          go_loopw [28, 29] (fun b t wr => ∃ (m : Nat) (B : Bool), m ≤ kr ∧ t = .int .i64 m ∧ b = .bool B ∧ Hid (B = false → ∀ t, t < m → -60 ≤ bnd rs t ∧ bnd rs t ≤ 60) ∧ Below V2.heap.size V2 wr) (fun _ t _ => kr - (intOf t).toNat)
          case atStart => exact ⟨0, false, Nat.zero_le _, rfl, rfl, Lib.hid fun _ t ht => by omega, Below.refl _ _⟩
          case round =>
            obtain ⟨m, B, hm, rfl, rfl, hB, hbV⟩ := hrel
            have hTR := Below.step hTQ hbV
            have hrR := hrQ.below hbV
            have kRR := kRQ.below hbV
            have kRR0 := kRR.c0
            have kRR1 := kRR.c1
            by_cases hlt2 : m < kr
            · have hd4 : decide ((m : Int) < (kr : Int)) = true := by simp; omega
              have hw3 : IntKind.i64.wrap ((m : Int) + 1) = (m : Int) + 1 := by rw [wrapEq]; exact wrap64_id (by omega) (by omega)
              cases B
              · have hbd := (isHalf_facts ((isReg_facts Hreg.out).2.2.2 m (by rw [hrR.len]; exact hlt2))).2.2.2
                obtain ⟨bh, oh, qh, mh, dh, eq0, hc0, hc1, _⟩ := hrR.cell m hlt2
                rw [eq0] at kRR1
                obtain ⟨bb, hbb⟩ : ∃ bb, bb = bnd rs m := ⟨_, rfl⟩
                rw [← hbb] at hc1 hbd
                have Hbb := Lib.hid hbb
                have Hbd := Lib.hid hbd
                clear hbb hbd
                by_cases hn0 : bb < 0
                · have hd5 : decide (bb < 0) = true := by simpa using hn0
                  have hw5 : wrap64 (-bb) = -bb := wrap64_id (by have := Hbd.out; omega) (by have := Hbd.out; omega)
                  by_cases h60 : 60 < -bb
                  · have hd6 : decide (60 < -bb) = true := by simpa using h60
                    go_wp2
                    go_roundw
                    case rel => exact ⟨m + 1, true, by omega, by go_num, rfl, Lib.hid fun hB0 => by simp at hB0, hbV⟩
                    case measure => simp [intOf]; omega
                  · have hd6 : decide (60 < -bb) = false := by simpa using h60
                    have H60 := Lib.hid h60
                    clear h60
                    go_wp2
                    go_roundw
                    case rel => exact ⟨m + 1, false, by omega, by go_num, rfl, Lib.hid fun hB0 t ht => by
                      by_cases e : t = m
                      · have := H60.out
                        have := Hbb.out
                        rw [e]; omega
                      · exact hB.out hB0 t (by omega), hbV⟩
                    case measure => simp [intOf]; omega
                · have hd5 : decide (bb < 0) = false := by simpa using hn0
                  by_cases h60 : 60 < bb
                  · have hd6 : decide (60 < bb) = true := by simpa using h60
                    go_wp2
                    go_roundw
                    case rel => exact ⟨m + 1, true, by omega, by go_num, rfl, Lib.hid fun hB0 => by simp at hB0, hbV⟩
                    case measure => simp [intOf]; omega
                  · have hd6 : decide (60 < bb) = false := by simpa using h60
                    have H60 := Lib.hid h60
                    clear h60
                    go_wp2
                    go_roundw
                    case rel => exact ⟨m + 1, false, by omega, by go_num, rfl, Lib.hid fun hB0 t ht => by
                      by_cases e : t = m
                      · have := H60.out
                        have := Hbb.out
                        rw [e]; omega
                      · exact hB.out hB0 t (by omega), hbV⟩
                    case measure => simp [intOf]; omega
              · go_wp2_with fail
                go_roundw
                case rel => exact ⟨m + 1, true, by omega, by go_num, rfl, Lib.hid fun hB0 => by simp at hB0, hbV⟩
                case measure => simp [intOf]; omega
            · obtain rfl : m = kr := by omega
              have hd4 : decide ((m : Int) < (m : Int)) = false := by simp
              have hw2 : IntKind.i64.wrap (-6 + (k : Int) + 1) = -6 + (k : Int) + 1 := by rw [wrapEq]; exact wrap64_id (by omega) (by omega)
              cases B
              · go_wp2_with fail
                refine ⟨⟨k + 1, by omega, by rw [show -6 + ((k + 1 : Nat) : Int) = -6 + (k : Int) + 1 by omega], ?_, Lib.hid fun j hj => ?_, Below.step hbU3 hbV⟩, ?_⟩
                · rw [sumTo, slCnt, ← HP.out]; simp
                · by_cases e : j = k
                  · exact .inr fun t ht => hB.out rfl t (by rw [hrR.len] at ht; exact ht)
                  · exact hok.out j (by omega)
                · simp [intOf]; omega
              · go_wp2_with fail
                go_ret
                exact ⟨rfl, hTR⟩
        · go_wp2_with fail
          generalize w'.alloc (.cells #[.int .i64 zp, .slice qp np dp_] 26) = V at *
          refine (implCount_any _ _ _ _ _ _ (by omega) hpP).mono ?_
          rintro e w' ⟨rfl, hb5⟩
          have hcb := countV_in zp ps
          have hsb := sumTo_in zr rs k (by omega)
          have hw1 : IntKind.i64.wrap (sumTo zr rs k + countV zp ps) = sumTo zr rs k + countV zp ps := by rw [wrapEq]; exact wrap64_id (by omega) (by omega)
          have hw2 : IntKind.i64.wrap (-6 + (k : Int) + 1) = -6 + (k : Int) + 1 := by rw [wrapEq]; exact wrap64_id (by omega) (by omega)
          go_wp2_with fail
          refine ⟨⟨k + 1, by omega, by rw [show -6 + ((k + 1 : Nat) : Int) = -6 + (k : Int) + 1 by omega], ?_, Lib.hid fun j hj => ?_, Below.step hbU2 hb5⟩, ?_⟩
          · rw [sumTo, slCnt, ← HP.out]; simp
          · by_cases e : j = k
            · exact .inl (by rw [e, ← HP.out])
            · exact hok.out j (by omega)
          · simp [intOf]; omega
      · obtain rfl : k = 13 := by omega
        have hd3 : decide (-6 + ((13 : Nat) : Int) ≤ 6) = false := by decide
        have hs13 := sumTo_all Hreg.out Hn.out hn1 hok.out
        rw [ll.out] at hs13
        go_wp2_with fail
        go_ret
        exact ⟨rfl, hTW⟩

end Go.Proofs.Ytpfklkmmhdpphac
