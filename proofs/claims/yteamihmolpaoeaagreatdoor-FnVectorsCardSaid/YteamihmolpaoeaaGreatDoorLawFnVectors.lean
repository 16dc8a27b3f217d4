/- The law FnVectors: the walk: for every input it returns true and writes nothing that was there. Conditions: the library's variables. -/
import Derived.Test.YteamihmolpaoeaaGreatDoorVecLaws
import Derived.Test.YteamihmolpaoeaaGreatDoorVecDraw4
import Derived.Test.YteamihmolpaoeaaGreatDoorSameI
import Derived.Lib.QuietBelow
namespace Go.Proofs.YteamihmolpaoeaaGreatDoor
open Go.RowKit
set_option linter.unusedVariables false
set_option linter.unusedSimpArgs false
set_option maxRecDepth 100000

theorem scaled_any (p : Option Addr) (n c : Nat) (xs : List Int) (u : Int) (w : World) (hn : n ≤ 17592186040000) (hx : Ints w p n xs) :
    Calls Tryz.prog 29 #[.slice p n c, .int .i64 u] w (NewInts w n (scaleW xs u)) := by
  have hl := Lib.hid hx.len
  have hl3 := Lib.hid (scaleW_length xs u)
  go_enter Tryz.func29, Tryz.ntmps29
  go_wp2
  go_loopw [5, 6] (fun v i wr => ∃ (k : Nat) (p' : Option Addr) (c' : Nat), k ≤ n ∧ i = .int .i64 k ∧ v = .slice p' k c' ∧ Own wr w.heap.size wr.heap.size p' k c' ((scaleW xs u).take k) ∧ Below w.heap.size w wr) (fun _ i _ => n - (intOf i).toNat)
  case atStart => exact ⟨0, _, _, Nat.zero_le _, rfl, rfl, (Own.empty w).up, (Below.refl _ _).alloc (Nat.le_refl _) _⟩
  case round =>
    obtain ⟨k, p', c', hk, rfl, rfl, hown, hb⟩ := hrel
    by_cases hlt : k < n
    · obtain ⟨b, o, rfl, hc⟩ := (hx.below hb).cell k hlt
      go_wp2_with (at_builtin; refine append_int rfl _ _ rfl _ w.heap.size _ _ _ _ _ rfl (hown.alloc _) wr.heap.size _ rfl (cellNew _ _ _) (by omega) (sizeNew hb _) ?_; intro p2 c2 w2 hown2 hg2)
      have hb2 := hg2.belowO (hown.alloc _) (sizeNew hb _)
      go_roundw
      case rel =>
        refine ⟨k + 1, _, _, by omega, by go_num, rfl, ?_, Below.new hb _ hb2⟩
        rw [take_nth (by have := hl.out; have := hl3.out; omega), scaleW_nth (by rw [hl.out]; exact hlt)]
        exact hown2
      case measure => simp [intOf]; omega
    · go_wp2
      go_ret
      obtain rfl : k = n := by omega
      refine ⟨_, _, rfl, ?_, hb⟩
      rw [List.take_of_length_le (by have := hl.out; have := hl3.out; omega)] at hown
      exact hown
theorem scaled_back {xs : List Int} (hv : isVec xs = true) {g : Int} (h : ∀ j, j < xs.length → nth (quoW xs g) j * g = nth xs j) : scaleW (quoW xs g) g = xs := by
  refine nth_ext (by rw [scaleW_length, quoW_length]) fun j hj => ?_
  rw [scaleW_length, quoW_length] at hj
  rw [scaleW_nth (by rw [quoW_length]; exact hj), h j hj]
  have := isVec_at hv hj
  exact wrap64_id (by omega) (by omega)

set_option maxHeartbeats 8000000 in
theorem lawFnVectors_walk (q0 : Option Addr) (n0 c0 : Nat) (x0 : List Int) (w : World) (fm0 : n0 ≤ 9223372036854775807) (fr0 : BytesZ w q0 n0 x0) (h_tab : TabW w) (h_err : ErrW w) (h_max : MaxW w) :
    Calls Tryz.prog 3 #[.slice q0 n0 c0] w fun e w' => e = .returned (.bool true) ∧ Below w.heap.size w w' := by
  by_cases hbig : 1048576 < n0
  · have hd : decide (1048576 < n0) = true := by simpa using hbig
    go_enter Tryz.func3, Tryz.ntmps3
    go_wp2_with (go_at_call 4; (with_reducible refine (big_any _ _ _ _).mono ?_); rintro e w' ⟨rfl, rfl⟩)
    go_ret
    exact ⟨rfl, Below.refl _ _⟩
  · have hd : decide (1048576 < n0) = false := by simpa using hbig
    go_enter Tryz.func3, Tryz.ntmps3
    go_wp2_with (go_at_call 4; (with_reducible refine (big_any _ _ _ _).mono ?_); rintro e w' ⟨rfl, rfl⟩)
    refine (drawGcd_any _ _ _ _ _ (by omega) fr0).mono ?_
    rintro e w' ⟨qv, nv, dv, xv, rfl, hv, hnv, hb⟩
    have hT := hb
    obtain ⟨G, hG⟩ : ∃ G, G = gcdV xv := ⟨_, rfl⟩
    have HG := Lib.hid hG
    clear hG
    go_wp2_with fail
    refine (ret_of_drew (implGcdOf_any _ _ _ _ _ (by omega) hv)).mono ?_
    rintro e w' ⟨rfl, hb⟩
    replace hv := hv.below hb
    replace hT := Below.step hT hb
    rw [← HG.out]
    obtain ⟨Pv, hPv⟩ : ∃ P, P = primV xv := ⟨_, rfl⟩
    have HP := Lib.hid hPv
    clear hPv
    obtain ⟨pv, ok⟩ := Pv
    go_wp2_with fail
    refine (implPrimitive_any _ _ _ _ _ (by omega) hv).mono ?_
    rintro e w' ⟨qp, np, dp, rfl, hop, hb⟩
    replace hv := hv.below hb
    replace hT := Below.step hT hb
    rw [← HP.out] at hop ⊢
    have hp := hop.ints
    have lp := Lib.hid hop.len
    have sp := hop.small
    clear hop
    go_wp2_with fail
    refine (specPrimitive_any _ _ _ _ _ (by omega) hv).mono ?_
    rintro e w' ⟨qw, nw, dw, rfl, how, hb⟩
    replace hv := hv.below hb
    replace hp := hp.below hb
    replace hT := Below.step hT hb
    rw [← HP.out] at how ⊢
    have hw := how.ints
    obtain rfl : nw = np := by rw [← how.len, lp.out]
    clear how
    go_wp2_with fail
    refine (drawAdd_any _ _ _ _ _ (by omega) (fr0.below hT)).mono ?_
    rintro e w' ⟨qa, na, da, xa, qb, nb, db, xb, rfl, ha, hna, hbb, hnb, hb⟩
    replace hv := hv.below hb
    replace hp := hp.below hb
    replace hw := hw.below hb
    replace hT := Below.step hT hb
    obtain ⟨Pv, hPv⟩ : ∃ P, P = addV xa xb := ⟨_, rfl⟩
    have HA := Lib.hid hPv
    clear hPv
    obtain ⟨ax, one⟩ := Pv
    go_wp2_with fail
    refine (implAdd_any _ _ _ _ _ _ _ _ _ (by omega) (by omega) ha hbb).mono ?_
    rintro e w' ⟨qx0, nx0, dx0, rfl, hox, hb⟩
    replace hv := hv.below hb
    replace hp := hp.below hb
    replace hw := hw.below hb
    replace ha := ha.below hb
    replace hbb := hbb.below hb
    replace hT := Below.step hT hb
    rw [← HA.out] at hox ⊢
    have hx0 := hox.ints
    have lx := Lib.hid hox.len
    have sx := hox.small
    clear hox
    go_wp2_with fail
    refine (specAdd_any _ _ _ _ _ _ _ _ _ (by omega) (by omega) ha hbb).mono ?_
    rintro e w' ⟨qx1, nx1, dx1, rfl, hox, hb⟩
    replace hv := hv.below hb
    replace hp := hp.below hb
    replace hw := hw.below hb
    replace ha := ha.below hb
    replace hbb := hbb.below hb
    replace hx0 := hx0.below hb
    replace hT := Below.step hT hb
    rw [← HA.out] at hox ⊢
    have hx1 := hox.ints
    obtain rfl : nx1 = nx0 := by rw [← hox.len, lx.out]
    clear hox
    go_wp2_with fail
    refine (drawScale_any _ _ _ _ _ (by omega) (fr0.below hT)).mono ?_
    rintro e w' ⟨qs, ns, ds, xs, u, rfl, hs, hns, hb⟩
    replace hv := hv.below hb
    replace hp := hp.below hb
    replace hw := hw.below hb
    replace ha := ha.below hb
    replace hbb := hbb.below hb
    replace hx0 := hx0.below hb
    replace hx1 := hx1.below hb
    replace hT := Below.step hT hb
    obtain ⟨Pv, hPv⟩ : ∃ P, P = scaleV xs u := ⟨_, rfl⟩
    have HS := Lib.hid hPv
    clear hPv
    obtain ⟨zx, three⟩ := Pv
    go_wp2_with fail
    refine (implScale_any _ _ _ _ _ _ (by omega) hs).mono ?_
    rintro e w' ⟨qz0, nz0, dz0, rfl, hoz, hb⟩
    replace hv := hv.below hb
    replace hp := hp.below hb
    replace hw := hw.below hb
    replace ha := ha.below hb
    replace hbb := hbb.below hb
    replace hx0 := hx0.below hb
    replace hx1 := hx1.below hb
    replace hs := hs.below hb
    replace hT := Below.step hT hb
    rw [← HS.out] at hoz ⊢
    have hz0 := hoz.ints
    have lz := Lib.hid hoz.len
    have sz := hoz.small
    clear hoz
    go_wp2_with fail
    refine (specScale_any _ _ _ _ _ _ (by omega) hs).mono ?_
    rintro e w' ⟨qz1, nz1, dz1, rfl, hoz, hb⟩
    replace hv := hv.below hb
    replace hp := hp.below hb
    replace hw := hw.below hb
    replace ha := ha.below hb
    replace hbb := hbb.below hb
    replace hx0 := hx0.below hb
    replace hx1 := hx1.below hb
    replace hs := hs.below hb
    replace hz0 := hz0.below hb
    replace hT := Below.step hT hb
    rw [← HS.out] at hoz ⊢
    have hz1 := hoz.ints
    obtain rfl : nz1 = nz0 := by rw [← hoz.len, lz.out]
    clear hoz
    go_wp2_with fail
    refine (drawBefore_any _ _ _ _ _ (by omega) (fr0.below hT)).mono ?_
    rintro e w' ⟨qc, nc, dc, xc, qd, nd, dd, xd, rfl, hc, hnc, hdd, hnd, hb⟩
    replace hv := hv.below hb
    replace hp := hp.below hb
    replace hw := hw.below hb
    replace ha := ha.below hb
    replace hbb := hbb.below hb
    replace hx0 := hx0.below hb
    replace hx1 := hx1.below hb
    replace hs := hs.below hb
    replace hz0 := hz0.below hb
    replace hz1 := hz1.below hb
    replace hT := Below.step hT hb
    go_wp2_with fail
    refine (drawPVec_any _ _ _ _ _ (by omega) (fr0.below hT)).mono ?_
    rintro e w' ⟨t, rfl, htl, hb⟩
    replace hv := hv.below hb
    replace hp := hp.below hb
    replace hw := hw.below hb
    replace ha := ha.below hb
    replace hbb := hbb.below hb
    replace hx0 := hx0.below hb
    replace hx1 := hx1.below hb
    replace hs := hs.below hb
    replace hz0 := hz0.below hb
    replace hz1 := hz1.below hb
    replace hc := hc.below hb
    replace hdd := hdd.below hb
    replace hT := Below.step hT hb
    obtain ⟨Pv, hPv⟩ : ∃ P, P = pvecV t := ⟨_, rfl⟩
    have HU := Lib.hid hPv
    clear hPv
    obtain ⟨ux, rd⟩ := Pv
    go_wp2_with fail
    refine (implPVec_any _ _ htl (h_tab.below hT) (h_err.below hT) (h_max.below hT)).mono ?_
    rintro e w' ⟨qu0, nu0, du0, rfl, hou, hb⟩
    replace hv := hv.below hb
    replace hp := hp.below hb
    replace hw := hw.below hb
    replace ha := ha.below hb
    replace hbb := hbb.below hb
    replace hx0 := hx0.below hb
    replace hx1 := hx1.below hb
    replace hs := hs.below hb
    replace hz0 := hz0.below hb
    replace hz1 := hz1.below hb
    replace hc := hc.below hb
    replace hdd := hdd.below hb
    replace hT := Below.step hT hb
    rw [← HU.out] at hou ⊢
    have hu0 := hou.ints
    have lu := Lib.hid hou.len
    have nub := hou.small
    clear hou
    go_wp2_with fail
    refine (specPVec_any _ _ htl).mono ?_
    rintro e w' ⟨qu1, nu1, du1, rfl, hou, hb⟩
    replace hv := hv.below hb
    replace hp := hp.below hb
    replace hw := hw.below hb
    replace ha := ha.below hb
    replace hbb := hbb.below hb
    replace hx0 := hx0.below hb
    replace hx1 := hx1.below hb
    replace hs := hs.below hb
    replace hz0 := hz0.below hb
    replace hz1 := hz1.below hb
    replace hc := hc.below hb
    replace hdd := hdd.below hb
    replace hu0 := hu0.below hb
    replace hT := Below.step hT hb
    rw [← HU.out] at hou ⊢
    have hu1 := hou.ints
    obtain rfl : nu1 = nu0 := by rw [← hou.len, lu.out]
    clear hou
    have lpn := hp.len
    have np3 := Lib.hid (primV_len xv)
    go_wp2_with fail
    refine (ret_of_same (specGcdOf_any _ _ _ _ _ (by omega) hv)).mono ?_
    rw [← HG.out]
    rintro e w' ⟨rfl, hb⟩
    replace hv := hv.below hb
    replace hp := hp.below hb
    replace hw := hw.below hb
    replace ha := ha.below hb
    replace hbb := hbb.below hb
    replace hx0 := hx0.below hb
    replace hx1 := hx1.below hb
    replace hs := hs.below hb
    replace hz0 := hz0.below hb
    replace hz1 := hz1.below hb
    replace hc := hc.below hb
    replace hdd := hdd.below hb
    replace hu0 := hu0.below hb
    replace hu1 := hu1.below hb
    replace hT := Below.step hT hb
    go_wp2_with fail
    refine (sameInts_self _ _ _ _ _ _ _ (by omega) hp hw).mono ?_
    rintro e w' ⟨rfl, hb⟩
    replace hv := hv.below hb
    replace hp := hp.below hb
    replace hw := hw.below hb
    replace ha := ha.below hb
    replace hbb := hbb.below hb
    replace hx0 := hx0.below hb
    replace hx1 := hx1.below hb
    replace hs := hs.below hb
    replace hz0 := hz0.below hb
    replace hz1 := hz1.below hb
    replace hc := hc.below hb
    replace hdd := hdd.below hb
    replace hu0 := hu0.below hb
    replace hu1 := hu1.below hb
    replace hT := Below.step hT hb
    go_wp2_with fail
    refine (sameInts_self _ _ _ _ _ _ _ (by omega) hx0 hx1).mono ?_
    rintro e w' ⟨rfl, hb⟩
    replace hv := hv.below hb
    replace hp := hp.below hb
    replace hw := hw.below hb
    replace ha := ha.below hb
    replace hbb := hbb.below hb
    replace hx0 := hx0.below hb
    replace hx1 := hx1.below hb
    replace hs := hs.below hb
    replace hz0 := hz0.below hb
    replace hz1 := hz1.below hb
    replace hc := hc.below hb
    replace hdd := hdd.below hb
    replace hu0 := hu0.below hb
    replace hu1 := hu1.below hb
    replace hT := Below.step hT hb
    go_wp2_with fail
    refine (sameInts_self _ _ _ _ _ _ _ (by omega) hz0 hz1).mono ?_
    rintro e w' ⟨rfl, hb⟩
    replace hv := hv.below hb
    replace hp := hp.below hb
    replace hw := hw.below hb
    replace ha := ha.below hb
    replace hbb := hbb.below hb
    replace hx0 := hx0.below hb
    replace hx1 := hx1.below hb
    replace hs := hs.below hb
    replace hz0 := hz0.below hb
    replace hz1 := hz1.below hb
    replace hc := hc.below hb
    replace hdd := hdd.below hb
    replace hu0 := hu0.below hb
    replace hu1 := hu1.below hb
    replace hT := Below.step hT hb
    go_wp2_with fail
    refine (ret_of_same (implBefore_any _ _ _ _ _ _ _ _ _ (by omega) (by omega) hc hdd)).mono ?_
    rintro e w' ⟨rfl, hb⟩
    replace hv := hv.below hb
    replace hp := hp.below hb
    replace hw := hw.below hb
    replace ha := ha.below hb
    replace hbb := hbb.below hb
    replace hx0 := hx0.below hb
    replace hx1 := hx1.below hb
    replace hs := hs.below hb
    replace hz0 := hz0.below hb
    replace hz1 := hz1.below hb
    replace hc := hc.below hb
    replace hdd := hdd.below hb
    replace hu0 := hu0.below hb
    replace hu1 := hu1.below hb
    replace hT := Below.step hT hb
    go_wp2_with fail
    refine (ret_of_drew (specBefore_any _ _ _ _ _ _ _ _ _ (by omega) (by omega) hc hdd)).mono ?_
    rintro e w' ⟨rfl, hb⟩
    replace hv := hv.below hb
    replace hp := hp.below hb
    replace hw := hw.below hb
    replace ha := ha.below hb
    replace hbb := hbb.below hb
    replace hx0 := hx0.below hb
    replace hx1 := hx1.below hb
    replace hs := hs.below hb
    replace hz0 := hz0.below hb
    replace hz1 := hz1.below hb
    replace hc := hc.below hb
    replace hdd := hdd.below hb
    replace hu0 := hu0.below hb
    replace hu1 := hu1.below hb
    replace hT := Below.step hT hb
    go_wp2_with fail
    refine (sameInts_self _ _ _ _ _ _ _ (by omega) hu0 hu1).mono ?_
    rintro e w' ⟨rfl, hb⟩
    replace hv := hv.below hb
    replace hp := hp.below hb
    replace hw := hw.below hb
    replace ha := ha.below hb
    replace hbb := hbb.below hb
    replace hx0 := hx0.below hb
    replace hx1 := hx1.below hb
    replace hs := hs.below hb
    replace hz0 := hz0.below hb
    replace hz1 := hz1.below hb
    replace hc := hc.below hb
    replace hdd := hdd.below hb
    replace hu0 := hu0.below hb
    replace hu1 := hu1.below hb
    replace hT := Below.step hT hb
    go_wp2_with fail
    refine (ret_of_drew (implDotOf_any _ _ _ _ _ _ _ _ _ (by omega) (by omega) ha hbb)).mono ?_
    rintro e w' ⟨rfl, hb⟩
    replace hv := hv.below hb
    replace hp := hp.below hb
    replace hw := hw.below hb
    replace ha := ha.below hb
    replace hbb := hbb.below hb
    replace hx0 := hx0.below hb
    replace hx1 := hx1.below hb
    replace hs := hs.below hb
    replace hz0 := hz0.below hb
    replace hz1 := hz1.below hb
    replace hc := hc.below hb
    replace hdd := hdd.below hb
    replace hu0 := hu0.below hb
    replace hu1 := hu1.below hb
    replace hT := Below.step hT hb
    go_wp2_with fail
    refine (ret_of_drew (specDotOf_any _ _ _ _ _ _ _ _ _ (by omega) (by omega) ha hbb)).mono ?_
    rintro e w' ⟨rfl, hb⟩
    replace hv := hv.below hb
    replace hp := hp.below hb
    replace hw := hw.below hb
    replace ha := ha.below hb
    replace hbb := hbb.below hb
    replace hx0 := hx0.below hb
    replace hx1 := hx1.below hb
    replace hs := hs.below hb
    replace hz0 := hz0.below hb
    replace hz1 := hz1.below hb
    replace hc := hc.below hb
    replace hdd := hdd.below hb
    replace hu0 := hu0.below hb
    replace hu1 := hu1.below hb
    replace hT := Below.step hT hb
    go_wp2_with fail
    refine (ret_of_same (implIsVector_any _ _ _ _ _ hv (by omega))).mono ?_
    rintro e w' ⟨rfl, hb⟩
    replace hv := hv.below hb
    replace hp := hp.below hb
    replace hw := hw.below hb
    replace ha := ha.below hb
    replace hbb := hbb.below hb
    replace hx0 := hx0.below hb
    replace hx1 := hx1.below hb
    replace hs := hs.below hb
    replace hz0 := hz0.below hb
    replace hz1 := hz1.below hb
    replace hc := hc.below hb
    replace hdd := hdd.below hb
    replace hu0 := hu0.below hb
    replace hu1 := hu1.below hb
    replace hT := Below.step hT hb
    go_wp2_with fail
    refine (ret_of_same (specIsVector_any _ _ _ _ _ hv (by omega))).mono ?_
    rintro e w' ⟨rfl, hb⟩
    replace hv := hv.below hb
    replace hp := hp.below hb
    replace hw := hw.below hb
    replace ha := ha.below hb
    replace hbb := hbb.below hb
    replace hx0 := hx0.below hb
    replace hx1 := hx1.below hb
    replace hs := hs.below hb
    replace hz0 := hz0.below hb
    replace hz1 := hz1.below hb
    replace hc := hc.below hb
    replace hdd := hdd.below hb
    replace hu0 := hu0.below hb
    replace hu1 := hu1.below hb
    replace hT := Below.step hT hb
    have hsl : (vecT xv).length ≤ 1048576 := by
      unfold vecT
      split
      · rename_i h
        have h1 := commaT_length (vec_in h)
        have h2 := isVec_len h
        omega
      · simp
    obtain ⟨Pv, hPv⟩ : ∃ P, P = pvecV (vecT xv) := ⟨_, rfl⟩
    have HF := Lib.hid hPv
    clear hPv
    obtain ⟨fv, back⟩ := Pv
    go_wp2_with fail
    refine (implVecText_any _ _ _ _ _ hv (by omega) (h_tab.below hT)).mono ?_
    rintro e w' ⟨rfl, hb⟩
    replace hv := hv.below hb
    replace hp := hp.below hb
    replace hw := hw.below hb
    replace ha := ha.below hb
    replace hbb := hbb.below hb
    replace hx0 := hx0.below hb
    replace hx1 := hx1.below hb
    replace hs := hs.below hb
    replace hz0 := hz0.below hb
    replace hz1 := hz1.below hb
    replace hc := hc.below hb
    replace hdd := hdd.below hb
    replace hu0 := hu0.below hb
    replace hu1 := hu1.below hb
    replace hT := Below.step hT hb
    go_wp2_with fail
    refine (implPVec_any _ _ hsl (h_tab.below hT) (h_err.below hT) (h_max.below hT)).mono ?_
    rintro e w' ⟨qf, nf, df, rfl, hof, hb⟩
    replace hv := hv.below hb
    replace hp := hp.below hb
    replace hw := hw.below hb
    replace ha := ha.below hb
    replace hbb := hbb.below hb
    replace hx0 := hx0.below hb
    replace hx1 := hx1.below hb
    replace hs := hs.below hb
    replace hz0 := hz0.below hb
    replace hz1 := hz1.below hb
    replace hc := hc.below hb
    replace hdd := hdd.below hb
    replace hu0 := hu0.below hb
    replace hu1 := hu1.below hb
    replace hT := Below.step hT hb
    rw [← HF.out] at hof ⊢
    have hf := hof.ints
    have lf := Lib.hid hof.len
    clear hof
    have hlv := hv.len
    cases hvv : isVec xv
    · have HB : Hid (back = false) := Lib.hid (by
        have h1 := HF.out
        rw [show vecT xv = [] by simp [vecT, hvv], pvec_none] at h1
        exact congrArg Prod.snd h1)
      have HO : Hid (ok = false) := Lib.hid (by
        have h1 := HP.out
        rw [show primV xv = ([], false) by simp [primV, hvv]] at h1
        exact congrArg Prod.snd h1)
      obtain rfl := HB.out
      obtain rfl := HO.out
      go_wp2_with fail
      refine (specVecText_any _ _ _ _ _ hv (by omega)).mono ?_
      rintro e w' ⟨rfl, hb⟩
      replace hv := hv.below hb
      replace hp := hp.below hb
      replace hw := hw.below hb
      replace ha := ha.below hb
      replace hbb := hbb.below hb
      replace hx0 := hx0.below hb
      replace hx1 := hx1.below hb
      replace hs := hs.below hb
      replace hz0 := hz0.below hb
      replace hz1 := hz1.below hb
      replace hc := hc.below hb
      replace hdd := hdd.below hb
      replace hu0 := hu0.below hb
      replace hu1 := hu1.below hb
      replace hf := hf.below hb
      replace hT := Below.step hT hb
      go_wp2_with fail
      refine (ret_of_same (specIsVector_any _ _ _ _ _ hv (by omega))).mono ?_
      rw [hvv]
      rintro e w' ⟨rfl, hb⟩
      replace hT := Below.step hT hb
      go_wp2_with fail
      go_ret
      exact ⟨rfl, hT⟩
    · have hF2 := HF.out
      rw [show vecT xv = commaT xv by simp [vecT, hvv], pvec_text hvv] at hF2
      obtain ⟨rfl, rfl⟩ := Prod.mk.inj hF2
      clear hF2
      have hnf : nf = nv := by rw [← lf.out, hlv]
      subst hnf
      go_wp2_with fail
      refine (specVecText_any _ _ _ _ _ hv (by omega)).mono ?_
      rintro e w' ⟨rfl, hb⟩
      replace hv := hv.below hb
      replace hp := hp.below hb
      replace hw := hw.below hb
      replace ha := ha.below hb
      replace hbb := hbb.below hb
      replace hx0 := hx0.below hb
      replace hx1 := hx1.below hb
      replace hs := hs.below hb
      replace hz0 := hz0.below hb
      replace hz1 := hz1.below hb
      replace hc := hc.below hb
      replace hdd := hdd.below hb
      replace hu0 := hu0.below hb
      replace hu1 := hu1.below hb
      replace hf := hf.below hb
      replace hT := Below.step hT hb
      go_wp2_with fail
      refine (ret_of_same (specIsVector_any _ _ _ _ _ hv (by omega))).mono ?_
      rw [hvv]
      rintro e w' ⟨rfl, hb⟩
      replace hT := Below.step hT hb
      replace hv := hv.below hb
      replace hp := hp.below hb
      replace hw := hw.below hb
      replace ha := ha.below hb
      replace hbb := hbb.below hb
      replace hx0 := hx0.below hb
      replace hx1 := hx1.below hb
      replace hs := hs.below hb
      replace hz0 := hz0.below hb
      replace hz1 := hz1.below hb
      replace hc := hc.below hb
      replace hdd := hdd.below hb
      replace hu0 := hu0.below hb
      replace hu1 := hu1.below hb
      replace hf := hf.below hb
      go_wp2_with fail
      refine (sameInts_self _ _ _ _ _ _ _ (by omega) hf hv).mono ?_
      rintro e w' ⟨rfl, hb⟩
      replace hv := hv.below hb
      replace hp := hp.below hb
      replace hw := hw.below hb
      replace ha := ha.below hb
      replace hbb := hbb.below hb
      replace hx0 := hx0.below hb
      replace hx1 := hx1.below hb
      replace hs := hs.below hb
      replace hz0 := hz0.below hb
      replace hz1 := hz1.below hb
      replace hc := hc.below hb
      replace hdd := hdd.below hb
      replace hu0 := hu0.below hb
      replace hu1 := hu1.below hb
      replace hf := hf.below hb
      replace hT := Below.step hT hb
      cases ok
      · go_wp2_with fail
        go_ret
        exact ⟨rfl, hT⟩
      · obtain ⟨_, hg1, hpe, hpv, hpg, hpm⟩ := prim_law (show (primV fv).2 = true by rw [← HP.out])
        have hpe2 : pv = quoW fv (gcdL fv) := by rw [← hpe, ← HP.out]
        have HGe : Hid (G = gcdL fv) := Lib.hid (by rw [HG.out, gcdV, hvv]; rfl)
        have hGp : 0 < G := by rw [HGe.out]; omega
        have hGd : decide (0 < G) = true := by simpa using hGp
        have HSc : Hid (scaleW pv G = fv) := Lib.hid (by rw [hpe2, HGe.out]; exact scaled_back hvv hpm)
        have HGp : Hid (gcdV pv = 1) := Lib.hid (by rw [hpe2, gcdV, hpv, if_pos rfl]; exact hpg)
        have hlp := hp.len
        have hnp : nw = nf := by
          have h1 := lf.out
          rw [hpe2, quoW_length] at hlp
          omega
        subst hnp
        clear hpe hpe2 hpm hpv hpg
        go_wp2_with fail
        refine (scaled_any _ _ _ _ _ _ (by omega) hp).mono ?_
        rw [HSc.out]
        rintro e w' ⟨q9, d9, rfl, ho9, hb⟩
        replace hv := hv.below hb
        replace hp := hp.below hb
        replace hT := Below.step hT hb
        go_wp2_with fail
        refine (sameInts_self _ _ _ _ _ _ _ (by omega) ho9.ints hv).mono ?_
        rintro e w' ⟨rfl, hb⟩
        replace hp := hp.below hb
        replace hT := Below.step hT hb
        go_wp2_with fail
        refine (ret_of_drew (implGcdOf_any _ _ _ _ _ (by omega) hp)).mono ?_
        rw [HGp.out]
        rintro e w' ⟨rfl, hb⟩
        replace hT := Below.step hT hb
        go_wp2_with fail
        go_ret
        exact ⟨rfl, hT⟩

end Go.Proofs.YteamihmolpaoeaaGreatDoor
