/- The law FnPolygons: the walk: for every input it returns true and writes nothing that was there. Conditions: the library's variables hold what their initialisers lay. -/
import Derived.Test.YthdonnkekggbbaaGreatDoorPolD3
import Derived.Test.YthdonnkekggbbaaGreatDoorPolLaw2
import Derived.Test.YthdonnkekggbbaaGreatDoorPpts2
import Derived.Test.YthdonnkekggbbaaGreatDoorPpts
import Derived.Test.YthdonnkekggbbaaGreatDoorMSame
namespace Go.Proofs.YthdonnkekggbbaaGreatDoor
open Go.RowKit
set_option linter.unusedVariables false
set_option linter.unusedSimpArgs false
set_option maxRecDepth 100000

set_option maxHeartbeats 16000000 in
theorem lawFnPolygons_walk (q0 : Option Addr) (n0 c0 : Nat) (x0 : List Int) (w : World) (fm0 : n0 ≤ 9223372036854775807) (fr0 : BytesZ w q0 n0 x0) (h_tab : TabW w) (h_err : ErrW w) (h_max : MaxW w) :
    Calls Tryz.prog 3 #[.slice q0 n0 c0] w fun e w' => e = .returned (.bool true) ∧ Below w.heap.size w w' := by
  by_cases hbig : 1048576 < n0
  · have hd : decide (1048576 < n0) = true := by simpa using hbig
    go_enter Tryz.func3, Tryz.ntmps3
    go_wp2_with (go_at_call 4; (with_reducible refine (big_any _ _ _ _).mono ?_); rintro e w' ⟨rfl, rfl⟩)
    go_ret
    exact ⟨rfl, Below.refl _ _⟩
  · have hd : decide (1048576 < n0) = false := by simpa using hbig
    go_enter Tryz.func3, Tryz.ntmps3
    go_wp2_with (go_at_call 4; (with_reducible refine (big_any _ _ _ _).mono ?_); rintro e w' ⟨rfl, rfl⟩)
    refine (drawPoly_any _ _ _ _ _ (by omega) fr0).mono ?_
    rintro e w' ⟨qp, kp, dp_, ps, rfl, hp, kp12, hb⟩
    have hT := hb
    clear hb
    go_wp2_with fail
    refine (implPolygonPoints_any _ _ _ _ _ (by omega) hp).mono ?_
    rintro e w' ⟨ql, nl, dl, rfl, ho, hb⟩
    replace hp := hp.below hb
    replace hT := Below.step hT hb
    clear hb
    have hl := ho.rd
    have shl := ho.small
    have ll := Lib.hid hl.len
    clear ho
    go_wp2_with fail
    refine (drawHull_any _ _ _ _ _ (by omega) (fr0.below hT)).mono ?_
    rintro e w' ⟨qh, kh, dh, hs, rfl, hh, kh12, hb⟩
    replace hp := hp.below hb
    replace hl := hl.below hb
    replace hT := Below.step hT hb
    clear hb
    go_wp2_with fail
    refine (implHullOf_any _ _ _ _ _ (by omega) hh).mono ?_
    rintro e w' ⟨qq, nq, dq, rfl, ho, hb⟩
    obtain ⟨PQ, hPQ⟩ : ∃ P, P = hullV hs := ⟨_, rfl⟩
    have HPQ := Lib.hid hPQ
    rw [← hPQ] at ho ⊢
    clear hPQ
    obtain ⟨qs, okq⟩ := PQ
    dsimp only at ho ⊢
    replace hp := hp.below hb
    replace hl := hl.below hb
    replace hh := hh.below hb
    replace hT := Below.step hT hb
    clear hb
    have hq := ho.rd
    have shq := ho.small
    clear ho
    go_wp2_with fail
    refine (specHull_any _ _ _ _ _ (by omega) hh).mono ?_
    rintro e w' ⟨qw, nw, dw, rfl, ho, hb⟩
    rw [← HPQ.out] at ho ⊢
    dsimp only at ho ⊢
    replace hp := hp.below hb
    replace hl := hl.below hb
    replace hh := hh.below hb
    replace hq := hq.below hb
    replace hT := Below.step hT hb
    clear hb
    have hw_ := ho.rd
    have shw_ := ho.small
    clear ho
    go_wp2_with fail
    refine (drawPlace_any _ _ _ _ _ (by omega) (fr0.below hT)).mono ?_
    rintro e w' ⟨qa, ka, da, as_, qx, nx, dx, xx, rfl, ha, ka12, hx_, nx3, hb⟩
    replace hp := hp.below hb
    replace hl := hl.below hb
    replace hh := hh.below hb
    replace hq := hq.below hb
    replace hw_ := hw_.below hb
    replace hT := Below.step hT hb
    clear hb
    go_wp2_with fail
    refine (drawPPol_any _ _ _ _ _ (by omega) (fr0.below hT)).mono ?_
    rintro e w' ⟨tx, rfl, htl, hb⟩
    replace hp := hp.below hb
    replace hl := hl.below hb
    replace hh := hh.below hb
    replace hq := hq.below hb
    replace hw_ := hw_.below hb
    replace ha := ha.below hb
    replace hx_ := hx_.below hb
    replace hT := Below.step hT hb
    clear hb
    go_wp2_with fail
    refine (implPPol_any _ _ htl (h_tab.below hT) (h_err.below hT) (h_max.below hT)).mono ?_
    rintro e w' ⟨qu, nu, du, rfl, ho, hb⟩
    obtain ⟨PU, hPU⟩ : ∃ P, P = ppolV tx := ⟨_, rfl⟩
    have HPU := Lib.hid hPU
    rw [← hPU] at ho ⊢
    clear hPU
    obtain ⟨us, read⟩ := PU
    dsimp only at ho ⊢
    replace hp := hp.below hb
    replace hl := hl.below hb
    replace hh := hh.below hb
    replace hq := hq.below hb
    replace hw_ := hw_.below hb
    replace ha := ha.below hb
    replace hx_ := hx_.below hb
    replace hT := Below.step hT hb
    clear hb
    have hu_ := ho.rd
    have shu_ := ho.small
    clear ho
    go_wp2_with fail
    refine (specPPol_any _ _ htl).mono ?_
    rintro e w' ⟨qv, nv, dv, rfl, ho, hb⟩
    rw [← HPU.out] at ho ⊢
    dsimp only at ho ⊢
    replace hp := hp.below hb
    replace hl := hl.below hb
    replace hh := hh.below hb
    replace hq := hq.below hb
    replace hw_ := hw_.below hb
    replace ha := ha.below hb
    replace hx_ := hx_.below hb
    replace hu_ := hu_.below hb
    replace hT := Below.step hT hb
    clear hb
    have hv_ := ho.rd
    have shv_ := ho.small
    clear ho
    go_wp2_with fail
    obtain rfl : nw = nq := by rw [← hw_.len, ← hq.len]
    obtain rfl : nv = nu := by rw [← hv_.len, ← hu_.len]
    clear fr0
    have htab := h_tab.below hT
    have herr := h_err.below hT
    have hmax := h_max.below hT
    clear h_tab h_err h_max
    refine (specPolygonPoints_any _ _ _ _ _ (by omega) hp).mono ?_
    rintro e w' ⟨qm, nm, dm, rfl, ho, hb⟩
    replace hp := hp.below hb
    replace hl := hl.below hb
    replace hh := hh.below hb
    replace hq := hq.below hb
    replace hw_ := hw_.below hb
    replace ha := ha.below hb
    replace hx_ := hx_.below hb
    replace hu_ := hu_.below hb
    replace hv_ := hv_.below hb
    replace htab := htab.below hb
    replace herr := herr.below hb
    replace hmax := hmax.below hb
    replace hT := Below.step hT hb
    clear hb
    have hm := ho.rd
    obtain rfl : nm = nl := by rw [← hm.len, ll.out]
    clear ho
    go_wp2_with fail
    refine (sameLists_self _ _ _ _ _ _ _ shl hl hm).mono ?_
    rintro e w' ⟨rfl, hb⟩
    replace hp := hp.below hb
    replace hl := hl.below hb
    replace hh := hh.below hb
    replace hq := hq.below hb
    replace hw_ := hw_.below hb
    replace ha := ha.below hb
    replace hx_ := hx_.below hb
    replace hu_ := hu_.below hb
    replace hv_ := hv_.below hb
    replace htab := htab.below hb
    replace herr := herr.below hb
    replace hmax := hmax.below hb
    replace hT := Below.step hT hb
    clear hb
    go_wp2_with fail
    clear hm
    refine (sameLists_self _ _ _ _ _ _ _ shw_ hq hw_).mono ?_
    rintro e w' ⟨rfl, hb⟩
    replace hp := hp.below hb
    replace hl := hl.below hb
    replace hh := hh.below hb
    replace hq := hq.below hb
    replace hw_ := hw_.below hb
    replace ha := ha.below hb
    replace hx_ := hx_.below hb
    replace hu_ := hu_.below hb
    replace hv_ := hv_.below hb
    replace htab := htab.below hb
    replace herr := herr.below hb
    replace hmax := hmax.below hb
    replace hT := Below.step hT hb
    clear hb
    go_wp2_with fail
    refine (implPlaceOf_any _ _ _ _ _ _ _ _ _ (by omega) (by omega) ha hx_).mono ?_
    rintro e w' ⟨rfl, hb⟩
    replace hp := hp.below hb
    replace hl := hl.below hb
    replace hh := hh.below hb
    replace hq := hq.below hb
    replace hw_ := hw_.below hb
    replace ha := ha.below hb
    replace hx_ := hx_.below hb
    replace hu_ := hu_.below hb
    replace hv_ := hv_.below hb
    replace htab := htab.below hb
    replace herr := herr.below hb
    replace hmax := hmax.below hb
    replace hT := Below.step hT hb
    clear hb
    go_wp2_with fail
    refine (specPlaceOf_any _ _ _ _ _ _ _ _ _ (by omega) (by omega) ha hx_).mono ?_
    rintro e w' ⟨rfl, hb⟩
    replace hp := hp.below hb
    replace hl := hl.below hb
    replace hh := hh.below hb
    replace hq := hq.below hb
    replace hw_ := hw_.below hb
    replace ha := ha.below hb
    replace hx_ := hx_.below hb
    replace hu_ := hu_.below hb
    replace hv_ := hv_.below hb
    replace htab := htab.below hb
    replace herr := herr.below hb
    replace hmax := hmax.below hb
    replace hT := Below.step hT hb
    clear hb
    go_wp2_with fail
    refine (sameLists_self _ _ _ _ _ _ _ shv_ hu_ hv_).mono ?_
    rintro e w' ⟨rfl, hb⟩
    replace hp := hp.below hb
    replace hl := hl.below hb
    replace hh := hh.below hb
    replace hq := hq.below hb
    replace hw_ := hw_.below hb
    replace ha := ha.below hb
    replace hx_ := hx_.below hb
    replace hu_ := hu_.below hb
    replace hv_ := hv_.below hb
    replace htab := htab.below hb
    replace herr := herr.below hb
    replace hmax := hmax.below hb
    replace hT := Below.step hT hb
    clear hb
    go_wp2_with fail
    refine (implAreaTwice_any _ _ _ _ _ (by omega) hp).mono ?_
    rintro e w' ⟨rfl, hb⟩
    replace hp := hp.below hb
    replace hl := hl.below hb
    replace hh := hh.below hb
    replace hq := hq.below hb
    replace hw_ := hw_.below hb
    replace ha := ha.below hb
    replace hx_ := hx_.below hb
    replace hu_ := hu_.below hb
    replace hv_ := hv_.below hb
    replace htab := htab.below hb
    replace herr := herr.below hb
    replace hmax := hmax.below hb
    replace hT := Below.step hT hb
    clear hb
    go_wp2_with fail
    refine (specAreaTwice_any _ _ _ _ _ (by omega) hp).mono ?_
    rintro e w' ⟨rfl, hb⟩
    replace hp := hp.below hb
    replace hl := hl.below hb
    replace hh := hh.below hb
    replace hq := hq.below hb
    replace hw_ := hw_.below hb
    replace ha := ha.below hb
    replace hx_ := hx_.below hb
    replace hu_ := hu_.below hb
    replace hv_ := hv_.below hb
    replace htab := htab.below hb
    replace herr := herr.below hb
    replace hmax := hmax.below hb
    replace hT := Below.step hT hb
    clear hb
    go_wp2_with fail
    refine (implBoundaryCount_any _ _ _ _ _ (by omega) hp).mono ?_
    rintro e w' ⟨rfl, hb⟩
    replace hp := hp.below hb
    replace hl := hl.below hb
    replace hh := hh.below hb
    replace hq := hq.below hb
    replace hw_ := hw_.below hb
    replace ha := ha.below hb
    replace hx_ := hx_.below hb
    replace hu_ := hu_.below hb
    replace hv_ := hv_.below hb
    replace htab := htab.below hb
    replace herr := herr.below hb
    replace hmax := hmax.below hb
    replace hT := Below.step hT hb
    clear hb
    go_wp2_with fail
    refine (specBoundaryCount_any _ _ _ _ _ (by omega) hp).mono ?_
    rintro e w' ⟨rfl, hb⟩
    replace hp := hp.below hb
    replace hl := hl.below hb
    replace hh := hh.below hb
    replace hq := hq.below hb
    replace hw_ := hw_.below hb
    replace ha := ha.below hb
    replace hx_ := hx_.below hb
    replace hu_ := hu_.below hb
    replace hv_ := hv_.below hb
    replace htab := htab.below hb
    replace herr := herr.below hb
    replace hmax := hmax.below hb
    replace hT := Below.step hT hb
    clear hb
    go_wp2_with fail
    refine (implInnerCount_any _ _ _ _ _ (by omega) hp).mono ?_
    rintro e w' ⟨rfl, hb⟩
    replace hp := hp.below hb
    replace hl := hl.below hb
    replace hh := hh.below hb
    replace hq := hq.below hb
    replace hw_ := hw_.below hb
    replace ha := ha.below hb
    replace hx_ := hx_.below hb
    replace hu_ := hu_.below hb
    replace hv_ := hv_.below hb
    replace htab := htab.below hb
    replace herr := herr.below hb
    replace hmax := hmax.below hb
    replace hT := Below.step hT hb
    clear hb
    go_wp2_with fail
    refine (specInnerCount_any _ _ _ _ _ (by omega) hp).mono ?_
    rintro e w' ⟨rfl, hb⟩
    replace hp := hp.below hb
    replace hl := hl.below hb
    replace hh := hh.below hb
    replace hq := hq.below hb
    replace hw_ := hw_.below hb
    replace ha := ha.below hb
    replace hx_ := hx_.below hb
    replace hu_ := hu_.below hb
    replace hv_ := hv_.below hb
    replace htab := htab.below hb
    replace herr := herr.below hb
    replace hmax := hmax.below hb
    replace hT := Below.step hT hb
    clear hb
    go_wp2_with fail
    refine (implIsPolygon_any _ _ _ _ _ (by omega) hp).mono ?_
    rintro e w' ⟨rfl, hb⟩
    replace hp := hp.below hb
    replace hl := hl.below hb
    replace hh := hh.below hb
    replace hq := hq.below hb
    replace hw_ := hw_.below hb
    replace ha := ha.below hb
    replace hx_ := hx_.below hb
    replace hu_ := hu_.below hb
    replace hv_ := hv_.below hb
    replace htab := htab.below hb
    replace herr := herr.below hb
    replace hmax := hmax.below hb
    replace hT := Below.step hT hb
    clear hb
    go_wp2_with fail
    refine (specIsPolygon_any _ _ _ _ _ (by omega) hp).mono ?_
    rintro e w' ⟨rfl, hb⟩
    replace hp := hp.below hb
    replace hl := hl.below hb
    replace hh := hh.below hb
    replace hq := hq.below hb
    replace hw_ := hw_.below hb
    replace ha := ha.below hb
    replace hx_ := hx_.below hb
    replace hu_ := hu_.below hb
    replace hv_ := hv_.below hb
    replace htab := htab.below hb
    replace herr := herr.below hb
    replace hmax := hmax.below hb
    replace hT := Below.step hT hb
    clear hb
    go_wp2_with fail
    clear hw_ ha hx_ hu_ hv_
    refine (implPolyText_any _ _ _ _ _ (by omega) hp htab).mono ?_
    rintro e w' ⟨rfl, hb⟩
    replace hp := hp.below hb
    replace hl := hl.below hb
    replace hh := hh.below hb
    replace hq := hq.below hb
    replace htab := htab.below hb
    replace herr := herr.below hb
    replace hmax := hmax.below hb
    replace hT := Below.step hT hb
    clear hb
    have htl2 := polyT_length ps
    have hZ : ppolV (polyT ps) = if polyB ps = true then (ps, true) else ([], false) := by
      cases hpoly : polyB ps
      · rw [ppol_none hpoly]; rfl
      · rw [ppol_text hpoly]; rfl
    go_wp2_with fail
    refine (implPPol_any _ _ htl2 htab herr hmax).mono ?_
    rintro e w' ⟨qz, nz, dz, rfl, ho, hb⟩
    obtain ⟨PZ, hPZ⟩ : ∃ P, P = ppolV (polyT ps) := ⟨_, rfl⟩
    have HPZ := Lib.hid hPZ
    rw [← hPZ] at ho ⊢
    clear hPZ
    obtain ⟨zs, bk⟩ := PZ
    dsimp only at ho ⊢
    replace hp := hp.below hb
    replace hl := hl.below hb
    replace hh := hh.below hb
    replace hq := hq.below hb
    replace htab := htab.below hb
    replace herr := herr.below hb
    replace hmax := hmax.below hb
    replace hT := Below.step hT hb
    clear hb
    have hz_ := ho.rd
    have shz_ := ho.small
    clear ho
    go_wp2_with fail
    refine (specPolyText_any _ _ _ _ _ (by omega) hp).mono ?_
    rintro e w' ⟨rfl, hb⟩
    replace hp := hp.below hb
    replace hl := hl.below hb
    replace hh := hh.below hb
    replace hq := hq.below hb
    replace htab := htab.below hb
    replace herr := herr.below hb
    replace hmax := hmax.below hb
    replace hz_ := hz_.below hb
    replace hT := Below.step hT hb
    clear hb
    go_wp2_with fail
    refine (specIsPolygon_any _ _ _ _ _ (by omega) hp).mono ?_
    rintro e w' ⟨rfl, hb⟩
    replace hp := hp.below hb
    replace hl := hl.below hb
    replace hh := hh.below hb
    replace hq := hq.below hb
    replace htab := htab.below hb
    replace herr := herr.below hb
    replace hmax := hmax.below hb
    replace hz_ := hz_.below hb
    replace hT := Below.step hT hb
    clear hb
    rw [← HPZ.out] at hZ
    clear HPZ htab herr hmax
    cases hpoly : polyB ps
    · rw [hpoly] at hZ
      obtain ⟨rfl, rfl⟩ : zs = [] ∧ bk = false := Prod.mk.inj hZ
      clear hz_ hZ
      have Hpoly := Lib.hid hpoly
      clear hpoly
      go_wp2_with fail
      generalize w' = U0 at *
      go_loopw [20] (fun i wr => ∃ j : Nat, j ≤ kh ∧ i = .int .i64 j ∧ Below U0.heap.size U0 wr) (fun i _ => kh - (intOf i).toNat)
      case atStart => exact ⟨0, Nat.zero_le _, rfl, Below.refl _ _⟩
      case round =>
        obtain ⟨j, hj, rfl, hbU⟩ := hrel
        have hTj := Below.step hT hbU
        have hqj := hq.below hbU
        have hhj := hh.below hbU
        by_cases hlt : j < kh
        · have hdj : decide ((j : Int) < (kh : Int)) = true := decide_eq_true (by omega)
          cases okq
          ·
            go_wp2_with fail
            go_ret
            exact ⟨rfl, hTj⟩
          · have hhl : j < hs.length := by rw [hh.len]; exact hlt
            have hin := hull_in (xs := hs) (by rw [← HPQ.out]) (nthR_mem hhl)
            rw [← HPQ.out] at hin
            dsimp only at hin
            obtain ⟨bh, oh, qe, me, de, eqh, hce, hme, hie⟩ := hhj.cell j hlt
            subst eqh
            have hz1 : (0 : Int) ≤ (j : Int) := by omega
            have hz2 : (j : Int) < (kh : Int) := by omega
            have hpl : decide (placeOfV qs (nthR hs j) < 0) = false := decide_eq_false (by omega)
            generalize nthR hs j = xe at *
            generalize wr = R at *
            have hRd := drewBelow R
            go_wp2_with fail
            refine (implPlaceOf_any _ _ _ _ _ _ _ _ _ (by omega) hme hqj hie).mono ?_
            rintro e w' ⟨rfl, hb⟩
            generalize placeOfV qs xe = pv at *
            go_wp2_with fail
            go_roundw
            case rel => exact ⟨j + 1, by omega, by go_num, Below.step hbU hb⟩
            case measure => simp [intOf]; omega
        · obtain rfl : j = kh := by omega
          have hdj : decide ((j : Int) < (j : Int)) = false := by simp
          go_wp2_with fail
          go_ret
          exact ⟨rfl, hTj⟩
    · rw [hpoly] at hZ
      obtain ⟨hzs, rfl⟩ : zs = ps ∧ bk = true := Prod.mk.inj hZ
      obtain rfl := hzs.symm
      have Hpoly := Lib.hid hpoly
      clear hpoly hZ
      go_wp2_with fail
      obtain rfl : kp = nz := by rw [← hz_.len, ← hp.len]
      refine (sameLists_self _ _ _ _ _ _ _ shz_ hz_ hp).mono ?_
      rintro e w' ⟨rfl, hb⟩
      replace hp := hp.below hb
      replace hl := hl.below hb
      replace hh := hh.below hb
      replace hq := hq.below hb
      replace hT := Below.step hT hb
      clear hb hz_
      go_wp2_with fail
      generalize w' = U1 at *
      go_loopw [20] (fun i wr => ∃ j : Nat, j ≤ kh ∧ i = .int .i64 j ∧ Below U1.heap.size U1 wr) (fun i _ => kh - (intOf i).toNat)
      case atStart => exact ⟨0, Nat.zero_le _, rfl, Below.refl _ _⟩
      case round =>
        obtain ⟨j, hj, rfl, hbU⟩ := hrel
        have hTj := Below.step hT hbU
        have hqj := hq.below hbU
        have hhj := hh.below hbU
        have hpj := hp.below hbU
        have hlj := hl.below hbU
        by_cases hlt : j < kh
        · have hdj : decide ((j : Int) < (kh : Int)) = true := decide_eq_true (by omega)
          cases okq
          ·
            by_cases hl0 : nm = 0
            · have hd0 : ((nm : Int) == 0) = true := by simp; omega
              go_wp2_with fail
              go_ret
              exact ⟨rfl, hTj⟩
            have hd0 : ((nm : Int) == 0) = false := by simp; omega
            have hne : ptsPV ps ≠ [] := fun e0 => by have := ll.out; rw [e0] at this; simp at this; omega
            obtain ⟨hI, hS, hIS⟩ := pick_law Hpoly.out hne
            rw [ll.out] at hI hS hIS
            have HI := Lib.hid hI
            have HS := Lib.hid hS
            have HIS := Lib.hid hIS
            clear hI hS hIS hne
            generalize wr = V at *
            go_wp2_with fail
            go_loopw [21, 22, 23] (fun a b i wr => ∃ t : Nat, t ≤ nm ∧ i = .int .i64 t ∧ a = .int .i64 (plcTo ps 1 (ptsPV ps) t) ∧ b = .int .i64 (plcTo ps 0 (ptsPV ps) t) ∧ Below V.heap.size V wr) (fun _ _ i _ => nm - (intOf i).toNat)
            case atStart => exact ⟨0, Nat.zero_le _, rfl, rfl, rfl, Below.refl _ _⟩
            case round =>
              obtain ⟨t, ht, rfl, rfl, rfl, hbV⟩ := hrel
              have hTt := Below.step hTj hbV
              have hpt := hpj.below hbV
              have hlt_ := hlj.below hbV
              by_cases hlt3 : t < nm
              · have hdt : decide ((t : Int) < (nm : Int)) = true := decide_eq_true (by omega)
                obtain ⟨bl, ol, qe, me, de, eql, hce, hme, hie⟩ := hlt_.cell t hlt3
                subst eql
                have hz1 : (0 : Int) ≤ (t : Int) := by omega
                have hz2 : (t : Int) < (nm : Int) := by omega
                have hpv := sumT_place Hpoly.out (nthR_mem (show t < (ptsPV ps).length by rw [ll.out]; exact hlt3))
                have h01 := plac_01 ps (nthR (ptsPV ps) t)
                have ha := plcTo_in ps 1 (ptsPV ps) t
                have hb_ := plcTo_in ps 0 (ptsPV ps) t
                have e1 : plcTo ps 1 (ptsPV ps) (t + 1) = if placV ps (nthR (ptsPV ps) t) = 1 then plcTo ps 1 (ptsPV ps) t + 1 else plcTo ps 1 (ptsPV ps) t := rfl
                have e2 : plcTo ps 0 (ptsPV ps) (t + 1) = if placV ps (nthR (ptsPV ps) t) = 0 then plcTo ps 0 (ptsPV ps) t + 1 else plcTo ps 0 (ptsPV ps) t := rfl
                have E1 := Lib.hid e1
                have E2 := Lib.hid e2
                have Hpv := Lib.hid hpv
                clear e1 e2 hpv
                have hw1 : IntKind.i64.wrap (plcTo ps 1 (ptsPV ps) t + 1) = plcTo ps 1 (ptsPV ps) t + 1 := by rw [wrapEq]; exact wrap64_id (by omega) (by omega)
                have hw2 : IntKind.i64.wrap (plcTo ps 0 (ptsPV ps) t + 1) = plcTo ps 0 (ptsPV ps) t + 1 := by rw [wrapEq]; exact wrap64_id (by omega) (by omega)
                clear ha hb_
                generalize plcTo ps 1 (ptsPV ps) t = A1 at *
                generalize plcTo ps 0 (ptsPV ps) t = A0 at *
                generalize wr = R at *
                go_wp2_with fail
                refine (implPlaceOf_any _ _ _ _ _ _ _ _ _ (by omega) hme hpt hie).mono ?_
                rw [Hpv.out]
                rintro e w' ⟨rfl, hb⟩
                generalize placV ps (nthR (ptsPV ps) t) = pv at *
                rcases h01 with rfl | rfl | rfl
                all_goals
                  go_wp2_with fail
                  go_roundw
                  case rel => exact ⟨t + 1, by omega, by go_num, by rw [E1.out]; rfl, by rw [E2.out]; rfl, Below.step hbV hb⟩
                  case measure => simp [intOf]; omega
              · obtain rfl : t = nm := by omega
                have hdt : decide ((t : Int) < (t : Int)) = false := by simp
                go_wp2_with fail
                refine (implHullOf_any _ _ _ _ _ (by omega) hpt).mono ?_
                rw [hull_self Hpoly.out]
                rintro e w' ⟨qg, ng, dg, rfl, ho, hb⟩
                have hTg := Below.step hTt hb
                have hpg := hpt.below hb
                have hag := ho.rd
                have sag := ho.small
                obtain rfl : kp = ng := by rw [← hag.len, ← hpg.len]
                clear ho
                go_wp2_with fail
                refine (implInnerCount_any _ _ _ _ _ (by omega) hpg).mono ?_
                rw [← HI.out]
                rintro e w'' ⟨rfl, hb2⟩
                have hTi := Below.step hTg hb2
                have hpi := hpg.below hb2
                have hai := hag.below hb2
                go_wp2_with fail
                refine (implBoundaryCount_any _ _ _ _ _ (by omega) hpi).mono ?_
                rw [← HS.out]
                rintro e w3 ⟨rfl, hb3⟩
                have hTb := Below.step hTi hb3
                have hpb := hpi.below hb3
                have hab := hai.below hb3
                have ha := plcTo_in ps 1 (ptsPV ps) t
                have hb_ := plcTo_in ps 0 (ptsPV ps) t
                have hw3 : IntKind.i64.wrap (plcTo ps 1 (ptsPV ps) t + plcTo ps 0 (ptsPV ps) t) = (t : Int) := by rw [wrapEq, HIS.out]; exact wrap64_id (by omega) (by omega)
                clear ha hb_
                go_wp2_with fail
                refine (sameLists_self _ _ _ _ _ _ _ sag hab hpb).mono ?_
                rintro e w4 ⟨rfl, hb4⟩
                go_wp2_with fail
                go_ret
                exact ⟨rfl, Below.step hTb hb4⟩
          · have hhl : j < hs.length := by rw [hh.len]; exact hlt
            have hin := hull_in (xs := hs) (by rw [← HPQ.out]) (nthR_mem hhl)
            rw [← HPQ.out] at hin
            dsimp only at hin
            obtain ⟨bh, oh, qe, me, de, eqh, hce, hme, hie⟩ := hhj.cell j hlt
            subst eqh
            have hz1 : (0 : Int) ≤ (j : Int) := by omega
            have hz2 : (j : Int) < (kh : Int) := by omega
            have hpl : decide (placeOfV qs (nthR hs j) < 0) = false := decide_eq_false (by omega)
            generalize nthR hs j = xe at *
            generalize wr = R at *
            have hRd := drewBelow R
            go_wp2_with fail
            refine (implPlaceOf_any _ _ _ _ _ _ _ _ _ (by omega) hme hqj hie).mono ?_
            rintro e w' ⟨rfl, hb⟩
            generalize placeOfV qs xe = pv at *
            go_wp2_with fail
            go_roundw
            case rel => exact ⟨j + 1, by omega, by go_num, Below.step hbU hb⟩
            case measure => simp [intOf]; omega
        · obtain rfl : j = kh := by omega
          have hdj : decide ((j : Int) < (j : Int)) = false := by simp
          by_cases hl0 : nm = 0
          · have hd0 : ((nm : Int) == 0) = true := by simp; omega
            go_wp2_with fail
            go_ret
            exact ⟨rfl, hTj⟩
          have hd0 : ((nm : Int) == 0) = false := by simp; omega
          have hne : ptsPV ps ≠ [] := fun e0 => by have := ll.out; rw [e0] at this; simp at this; omega
          obtain ⟨hI, hS, hIS⟩ := pick_law Hpoly.out hne
          rw [ll.out] at hI hS hIS
          have HI := Lib.hid hI
          have HS := Lib.hid hS
          have HIS := Lib.hid hIS
          clear hI hS hIS hne
          generalize wr = V at *
          go_wp2_with fail
          go_loopw [21, 22, 23] (fun a b i wr => ∃ t : Nat, t ≤ nm ∧ i = .int .i64 t ∧ a = .int .i64 (plcTo ps 1 (ptsPV ps) t) ∧ b = .int .i64 (plcTo ps 0 (ptsPV ps) t) ∧ Below V.heap.size V wr) (fun _ _ i _ => nm - (intOf i).toNat)
          case atStart => exact ⟨0, Nat.zero_le _, rfl, rfl, rfl, Below.refl _ _⟩
          case round =>
            obtain ⟨t, ht, rfl, rfl, rfl, hbV⟩ := hrel
            have hTt := Below.step hTj hbV
            have hpt := hpj.below hbV
            have hlt_ := hlj.below hbV
            by_cases hlt3 : t < nm
            · have hdt : decide ((t : Int) < (nm : Int)) = true := decide_eq_true (by omega)
              obtain ⟨bl, ol, qe, me, de, eql, hce, hme, hie⟩ := hlt_.cell t hlt3
              subst eql
              have hz1 : (0 : Int) ≤ (t : Int) := by omega
              have hz2 : (t : Int) < (nm : Int) := by omega
              have hpv := sumT_place Hpoly.out (nthR_mem (show t < (ptsPV ps).length by rw [ll.out]; exact hlt3))
              have h01 := plac_01 ps (nthR (ptsPV ps) t)
              have ha := plcTo_in ps 1 (ptsPV ps) t
              have hb_ := plcTo_in ps 0 (ptsPV ps) t
              have e1 : plcTo ps 1 (ptsPV ps) (t + 1) = if placV ps (nthR (ptsPV ps) t) = 1 then plcTo ps 1 (ptsPV ps) t + 1 else plcTo ps 1 (ptsPV ps) t := rfl
              have e2 : plcTo ps 0 (ptsPV ps) (t + 1) = if placV ps (nthR (ptsPV ps) t) = 0 then plcTo ps 0 (ptsPV ps) t + 1 else plcTo ps 0 (ptsPV ps) t := rfl
              have E1 := Lib.hid e1
              have E2 := Lib.hid e2
              have Hpv := Lib.hid hpv
              clear e1 e2 hpv
              have hw1 : IntKind.i64.wrap (plcTo ps 1 (ptsPV ps) t + 1) = plcTo ps 1 (ptsPV ps) t + 1 := by rw [wrapEq]; exact wrap64_id (by omega) (by omega)
              have hw2 : IntKind.i64.wrap (plcTo ps 0 (ptsPV ps) t + 1) = plcTo ps 0 (ptsPV ps) t + 1 := by rw [wrapEq]; exact wrap64_id (by omega) (by omega)
              clear ha hb_
              generalize plcTo ps 1 (ptsPV ps) t = A1 at *
              generalize plcTo ps 0 (ptsPV ps) t = A0 at *
              generalize wr = R at *
              go_wp2_with fail
              refine (implPlaceOf_any _ _ _ _ _ _ _ _ _ (by omega) hme hpt hie).mono ?_
              rw [Hpv.out]
              rintro e w' ⟨rfl, hb⟩
              generalize placV ps (nthR (ptsPV ps) t) = pv at *
              rcases h01 with rfl | rfl | rfl
              all_goals
                go_wp2_with fail
                go_roundw
                case rel => exact ⟨t + 1, by omega, by go_num, by rw [E1.out]; rfl, by rw [E2.out]; rfl, Below.step hbV hb⟩
                case measure => simp [intOf]; omega
            · obtain rfl : t = nm := by omega
              have hdt : decide ((t : Int) < (t : Int)) = false := by simp
              go_wp2_with fail
              refine (implHullOf_any _ _ _ _ _ (by omega) hpt).mono ?_
              rw [hull_self Hpoly.out]
              rintro e w' ⟨qg, ng, dg, rfl, ho, hb⟩
              have hTg := Below.step hTt hb
              have hpg := hpt.below hb
              have hag := ho.rd
              have sag := ho.small
              obtain rfl : kp = ng := by rw [← hag.len, ← hpg.len]
              clear ho
              go_wp2_with fail
              refine (implInnerCount_any _ _ _ _ _ (by omega) hpg).mono ?_
              rw [← HI.out]
              rintro e w'' ⟨rfl, hb2⟩
              have hTi := Below.step hTg hb2
              have hpi := hpg.below hb2
              have hai := hag.below hb2
              go_wp2_with fail
              refine (implBoundaryCount_any _ _ _ _ _ (by omega) hpi).mono ?_
              rw [← HS.out]
              rintro e w3 ⟨rfl, hb3⟩
              have hTb := Below.step hTi hb3
              have hpb := hpi.below hb3
              have hab := hai.below hb3
              have ha := plcTo_in ps 1 (ptsPV ps) t
              have hb_ := plcTo_in ps 0 (ptsPV ps) t
              have hw3 : IntKind.i64.wrap (plcTo ps 1 (ptsPV ps) t + plcTo ps 0 (ptsPV ps) t) = (t : Int) := by rw [wrapEq, HIS.out]; exact wrap64_id (by omega) (by omega)
              clear ha hb_
              go_wp2_with fail
              refine (sameLists_self _ _ _ _ _ _ _ sag hab hpb).mono ?_
              rintro e w4 ⟨rfl, hb4⟩
              go_wp2_with fail
              go_ret
              exact ⟨rfl, Below.step hTb hb4⟩

end Go.Proofs.YthdonnkekggbbaaGreatDoor
