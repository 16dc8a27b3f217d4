/- The law FnMatrices: the walk: for every input it returns true and writes nothing that was there. Conditions: none. -/
import Derived.Test.YtdchckljggjaaaaMLawH
import Derived.Test.YtdchckljggjaaaaMLawT
import Derived.Test.YtdchckljggjaaaaMDraw3
import Derived.Test.YtdchckljggjaaaaMSame
import Derived.Lib.QuietBelow
import Derived.Deep.DeepCutAuto
namespace Go.Proofs.Ytdchckljggjaaaa
open Go.RowKit
set_option linter.unusedVariables false
set_option linter.unusedSimpArgs false
set_option maxRecDepth 100000

theorem unitL_nth {n r : Nat} (h : r < n) : nthR (unitL n) r = (List.range n).map fun k => if r = k then (1 : Int) else 0 := by
  rw [nthR_eq (by simp [unitL]; exact h)]; simp [unitL]
theorem unitL_ent {n r k : Nat} (h : r < n) (hk : k < n) : nth (nthR (unitL n) r) k = if r = k then 1 else 0 := by
  rw [unitL_nth h, nth_eq (by simp; exact hk)]; simp

set_option maxHeartbeats 16000000 in
theorem lawFnMatrices_walk (q0 : Option Addr) (n0 c0 : Nat) (x0 : List Int) (w : World) (fm0 : n0 ≤ 9223372036854775807) (fr0 : BytesZ w q0 n0 x0) :
    Calls Try.prog 5 #[.slice q0 n0 c0] w fun e w' => e = .returned (.bool true) ∧ Below w.heap.size w w' := by
  by_cases hbig : 1048576 < n0
  · have hd : decide (1048576 < n0) = true := by simpa using hbig
    go_enter Try.func5, Try.ntmps5
    go_wp2_with (go_at_call 13; (with_reducible refine (big_any _ _ _ _).mono ?_); rintro e w' ⟨rfl, rfl⟩)
    go_ret
    exact ⟨rfl, Below.refl _ _⟩
  · have hd : decide (1048576 < n0) = false := by simpa using hbig
    go_enter Try.func5, Try.ntmps5
    go_wp2_with (go_at_call 13; (with_reducible refine (big_any _ _ _ _).mono ?_); rintro e w' ⟨rfl, rfl⟩)
    refine (drawTimes_any _ _ _ _ _ (by omega) fr0).mono ?_
    rintro e w' ⟨qa, na, da, xa, qb, nb, db, xb, rfl, ha, hna, hbb, hnb, hb⟩
    have hT := hb
    obtain ⟨Pv, hPv⟩ : ∃ P, P = timesV xa xb := ⟨_, rfl⟩
    have HC := Lib.hid hPv
    clear hPv
    obtain ⟨cx, ok⟩ := Pv
    go_wp2_with fail
    refine (implTimes_any _ _ _ _ _ _ _ _ _ (by omega) (by omega) ha hbb).mono ?_
    rintro e w' ⟨qC, nC, dC, rfl, ho, hb⟩
    replace ha := ha.below hb
    replace hbb := hbb.below hb
    replace hT := Below.step hT hb
    rw [← HC.out] at ho ⊢
    have hC := ho.rd
    have lC := Lib.hid hC.len
    have sC := ho.small
    clear ho
    go_wp2_with fail
    refine (specTimes_any _ _ _ _ _ _ _ _ _ (by omega) (by omega) ha hbb).mono ?_
    rintro e w' ⟨qC2, nC2, dC2, rfl, ho, hb⟩
    replace ha := ha.below hb
    replace hbb := hbb.below hb
    replace hC := hC.below hb
    replace hT := Below.step hT hb
    rw [← HC.out] at ho ⊢
    have hC2 := ho.rd
    obtain rfl : nC2 = nC := by rw [← hC2.len, lC.out]
    clear ho
    go_wp2_with fail
    refine (drawInv_any _ _ _ _ _ (by omega) (fr0.below hT)).mono ?_
    rintro e w' ⟨qm, nm, dm, xm, rfl, hm, hnm, hb⟩
    replace ha := ha.below hb
    replace hbb := hbb.below hb
    replace hC := hC.below hb
    replace hC2 := hC2.below hb
    replace hT := Below.step hT hb
    obtain ⟨Pv, hPv⟩ : ∃ P, P = invV xm := ⟨_, rfl⟩
    have HI := Lib.hid hPv
    clear hPv
    obtain ⟨ix, one⟩ := Pv
    go_wp2_with fail
    refine (implInverse_any _ _ _ _ _ (by omega) hm).mono ?_
    rintro e w' ⟨qI, nI, dI, rfl, ho, hb⟩
    replace ha := ha.below hb
    replace hbb := hbb.below hb
    replace hC := hC.below hb
    replace hC2 := hC2.below hb
    replace hm := hm.below hb
    replace hT := Below.step hT hb
    rw [← HI.out] at ho ⊢
    have hI := ho.rd
    have lI := Lib.hid hI.len
    have sI := ho.small
    clear ho
    go_wp2_with fail
    refine (specInverse_any _ _ _ _ _ (by omega) hm).mono ?_
    rintro e w' ⟨qI2, nI2, dI2, rfl, ho, hb⟩
    replace ha := ha.below hb
    replace hbb := hbb.below hb
    replace hC := hC.below hb
    replace hC2 := hC2.below hb
    replace hm := hm.below hb
    replace hI := hI.below hb
    replace hT := Below.step hT hb
    rw [← HI.out] at ho ⊢
    have hI2 := ho.rd
    obtain rfl : nI2 = nI := by rw [← hI2.len, lI.out]
    clear ho
    go_wp2_with fail
    refine (drawHerm_any _ _ _ _ _ (by omega) (fr0.below hT)).mono ?_
    rintro e w' ⟨qh, nh, dh, xh, rfl, hh, hnh, hb⟩
    replace ha := ha.below hb
    replace hbb := hbb.below hb
    replace hC := hC.below hb
    replace hC2 := hC2.below hb
    replace hm := hm.below hb
    replace hI := hI.below hb
    replace hI2 := hI2.below hb
    replace hT := Below.step hT hb
    obtain ⟨Pv, hPv⟩ : ∃ P, P = hermV xh := ⟨_, rfl⟩
    have HX := Lib.hid hPv
    clear hPv
    obtain ⟨hx, three⟩ := Pv
    go_wp2_with fail
    refine (implHermiteOf_any _ _ _ _ _ (by omega) hh).mono ?_
    rintro e w' ⟨qX, nX, dX, rfl, ho, hb⟩
    replace ha := ha.below hb
    replace hbb := hbb.below hb
    replace hC := hC.below hb
    replace hC2 := hC2.below hb
    replace hm := hm.below hb
    replace hI := hI.below hb
    replace hI2 := hI2.below hb
    replace hh := hh.below hb
    replace hT := Below.step hT hb
    rw [← HX.out] at ho ⊢
    have hX := ho.rd
    have lX := Lib.hid hX.len
    have sX := ho.small
    clear ho
    go_wp2_with fail
    refine (specHermiteOf_any _ _ _ _ _ (by omega) hh).mono ?_
    rintro e w' ⟨qX2, nX2, dX2, rfl, ho, hb⟩
    replace ha := ha.below hb
    replace hbb := hbb.below hb
    replace hC := hC.below hb
    replace hC2 := hC2.below hb
    replace hm := hm.below hb
    replace hI := hI.below hb
    replace hI2 := hI2.below hb
    replace hh := hh.below hb
    replace hX := hX.below hb
    replace hT := Below.step hT hb
    rw [← HX.out] at ho ⊢
    have hX2 := ho.rd
    obtain rfl : nX2 = nX := by rw [← hX2.len, lX.out]
    clear ho
    go_wp2_with fail
    refine (drawApply_any _ _ _ _ _ (by omega) (fr0.below hT)).mono ?_
    rintro e w' ⟨qn, nn, dn, xn, qv, nv, dv, xv, rfl, hnn0, hnn, hv, hnv, hb⟩
    replace ha := ha.below hb
    replace hbb := hbb.below hb
    replace hC := hC.below hb
    replace hC2 := hC2.below hb
    replace hm := hm.below hb
    replace hI := hI.below hb
    replace hI2 := hI2.below hb
    replace hh := hh.below hb
    replace hX := hX.below hb
    replace hX2 := hX2.below hb
    replace hT := Below.step hT hb
    obtain ⟨Pv, hPv⟩ : ∃ P, P = applyV xn xv := ⟨_, rfl⟩
    have HP := Lib.hid hPv
    clear hPv
    obtain ⟨px, five⟩ := Pv
    go_wp2_with fail
    refine (implApply_any _ _ _ _ _ _ _ _ _ (by omega) (by omega) hnn0 hv).mono ?_
    rintro e w' ⟨qP, nP, dP, rfl, ho, hb⟩
    replace ha := ha.below hb
    replace hbb := hbb.below hb
    replace hC := hC.below hb
    replace hC2 := hC2.below hb
    replace hm := hm.below hb
    replace hI := hI.below hb
    replace hI2 := hI2.below hb
    replace hh := hh.below hb
    replace hX := hX.below hb
    replace hX2 := hX2.below hb
    replace hnn0 := hnn0.below hb
    replace hv := hv.below hb
    replace hT := Below.step hT hb
    rw [← HP.out] at ho ⊢
    have hP := ho.ints
    have lP := Lib.hid hP.len
    have sP := ho.small
    clear ho
    go_wp2_with fail
    refine (specApply_any _ _ _ _ _ _ _ _ _ (by omega) (by omega) hnn0 hv).mono ?_
    rintro e w' ⟨qP2, nP2, dP2, rfl, ho, hb⟩
    replace ha := ha.below hb
    replace hbb := hbb.below hb
    replace hC := hC.below hb
    replace hC2 := hC2.below hb
    replace hm := hm.below hb
    replace hI := hI.below hb
    replace hI2 := hI2.below hb
    replace hh := hh.below hb
    replace hX := hX.below hb
    replace hX2 := hX2.below hb
    replace hnn0 := hnn0.below hb
    replace hv := hv.below hb
    replace hP := hP.below hb
    replace hT := Below.step hT hb
    rw [← HP.out] at ho ⊢
    have hP2 := ho.ints
    obtain rfl : nP2 = nP := by rw [← hP2.len, lP.out]
    clear ho
    go_wp2_with fail
    refine (drawDet_any _ _ _ _ _ (by omega) (fr0.below hT)).mono ?_
    rintro e w' ⟨qd, nd, dd, xd, rfl, hdd, hnd, hb⟩
    replace ha := ha.below hb
    replace hbb := hbb.below hb
    replace hC := hC.below hb
    replace hC2 := hC2.below hb
    replace hm := hm.below hb
    replace hI := hI.below hb
    replace hI2 := hI2.below hb
    replace hh := hh.below hb
    replace hX := hX.below hb
    replace hX2 := hX2.below hb
    replace hnn0 := hnn0.below hb
    replace hv := hv.below hb
    replace hP := hP.below hb
    replace hP2 := hP2.below hb
    replace hT := Below.step hT hb
    go_wp2_with fail
    refine (sameLists_self _ _ _ _ _ _ _ sC hC hC2).mono ?_
    rintro e w' ⟨rfl, hb⟩
    replace ha := ha.below hb
    replace hbb := hbb.below hb
    replace hC := hC.below hb
    replace hC2 := hC2.below hb
    replace hm := hm.below hb
    replace hI := hI.below hb
    replace hI2 := hI2.below hb
    replace hh := hh.below hb
    replace hX := hX.below hb
    replace hX2 := hX2.below hb
    replace hnn0 := hnn0.below hb
    replace hv := hv.below hb
    replace hP := hP.below hb
    replace hP2 := hP2.below hb
    replace hdd := hdd.below hb
    replace hT := Below.step hT hb
    go_wp2_with fail
    refine (sameLists_self _ _ _ _ _ _ _ sI hI hI2).mono ?_
    rintro e w' ⟨rfl, hb⟩
    replace ha := ha.below hb
    replace hbb := hbb.below hb
    replace hC := hC.below hb
    replace hC2 := hC2.below hb
    replace hm := hm.below hb
    replace hI := hI.below hb
    replace hI2 := hI2.below hb
    replace hh := hh.below hb
    replace hX := hX.below hb
    replace hX2 := hX2.below hb
    replace hnn0 := hnn0.below hb
    replace hv := hv.below hb
    replace hP := hP.below hb
    replace hP2 := hP2.below hb
    replace hdd := hdd.below hb
    replace hT := Below.step hT hb
    go_wp2_with fail
    refine (sameLists_self _ _ _ _ _ _ _ sX hX hX2).mono ?_
    rintro e w' ⟨rfl, hb⟩
    replace ha := ha.below hb
    replace hbb := hbb.below hb
    replace hC := hC.below hb
    replace hC2 := hC2.below hb
    replace hm := hm.below hb
    replace hI := hI.below hb
    replace hI2 := hI2.below hb
    replace hh := hh.below hb
    replace hX := hX.below hb
    replace hX2 := hX2.below hb
    replace hnn0 := hnn0.below hb
    replace hv := hv.below hb
    replace hP := hP.below hb
    replace hP2 := hP2.below hb
    replace hdd := hdd.below hb
    replace hT := Below.step hT hb
    go_wp2_with fail
    refine (sameInts_self _ _ _ _ _ _ _ sP hP hP2).mono ?_
    rintro e w' ⟨rfl, hb⟩
    replace ha := ha.below hb
    replace hbb := hbb.below hb
    replace hC := hC.below hb
    replace hC2 := hC2.below hb
    replace hm := hm.below hb
    replace hI := hI.below hb
    replace hI2 := hI2.below hb
    replace hh := hh.below hb
    replace hX := hX.below hb
    replace hX2 := hX2.below hb
    replace hnn0 := hnn0.below hb
    replace hv := hv.below hb
    replace hP := hP.below hb
    replace hP2 := hP2.below hb
    replace hdd := hdd.below hb
    replace hT := Below.step hT hb
    go_wp2_with fail
    refine (implDetOf_any _ _ _ _ _ (by omega) hdd).mono ?_
    rintro e w' ⟨rfl, hb⟩
    replace ha := ha.below hb
    replace hbb := hbb.below hb
    replace hC := hC.below hb
    replace hC2 := hC2.below hb
    replace hm := hm.below hb
    replace hI := hI.below hb
    replace hI2 := hI2.below hb
    replace hh := hh.below hb
    replace hX := hX.below hb
    replace hX2 := hX2.below hb
    replace hnn0 := hnn0.below hb
    replace hv := hv.below hb
    replace hP := hP.below hb
    replace hP2 := hP2.below hb
    replace hdd := hdd.below hb
    replace hT := Below.step hT hb
    go_wp2_with fail
    refine (specDetOf_any _ _ _ _ _ (by omega) hdd).mono ?_
    rintro e w' ⟨rfl, hb⟩
    replace ha := ha.below hb
    replace hbb := hbb.below hb
    replace hC := hC.below hb
    replace hC2 := hC2.below hb
    replace hm := hm.below hb
    replace hI := hI.below hb
    replace hI2 := hI2.below hb
    replace hh := hh.below hb
    replace hX := hX.below hb
    replace hX2 := hX2.below hb
    replace hnn0 := hnn0.below hb
    replace hv := hv.below hb
    replace hP := hP.below hb
    replace hP2 := hP2.below hb
    replace hdd := hdd.below hb
    replace hT := Below.step hT hb
    go_wp2_with fail
    refine (implUnim_any _ _ _ _ _ (by omega) hm).mono ?_
    rintro e w' ⟨rfl, hb⟩
    replace ha := ha.below hb
    replace hbb := hbb.below hb
    replace hC := hC.below hb
    replace hC2 := hC2.below hb
    replace hm := hm.below hb
    replace hI := hI.below hb
    replace hI2 := hI2.below hb
    replace hh := hh.below hb
    replace hX := hX.below hb
    replace hX2 := hX2.below hb
    replace hnn0 := hnn0.below hb
    replace hv := hv.below hb
    replace hP := hP.below hb
    replace hP2 := hP2.below hb
    replace hdd := hdd.below hb
    replace hT := Below.step hT hb
    go_wp2_with fail
    refine (specUnim_any _ _ _ _ _ (by omega) hm).mono ?_
    rintro e w' ⟨rfl, hb⟩
    replace ha := ha.below hb
    replace hbb := hbb.below hb
    replace hC := hC.below hb
    replace hC2 := hC2.below hb
    replace hm := hm.below hb
    replace hI := hI.below hb
    replace hI2 := hI2.below hb
    replace hh := hh.below hb
    replace hX := hX.below hb
    replace hX2 := hX2.below hb
    replace hnn0 := hnn0.below hb
    replace hv := hv.below hb
    replace hP := hP.below hb
    replace hP2 := hP2.below hb
    replace hdd := hdd.below hb
    replace hT := Below.step hT hb
    go_wp2_with fail
    refine (implIsMatrix_any _ _ _ _ _ (by omega) hdd).mono ?_
    rintro e w' ⟨rfl, rfl⟩
    go_wp2_with fail
    refine (specIsMatrix_any _ _ _ _ _ (by omega) hdd).mono ?_
    rintro e w' ⟨rfl, rfl⟩
    clear hC2 hI2 hX2 hP hP2 hnn0 hv hdd
    have HM : Hid (ok = true → IntKind.i64.wrap (detV xa * detV xb) = detV cx) := Lib.hid fun h => by
      have e1 := times_det (show timesV xa xb = (cx, true) by rw [← h]; exact HC.out.symm)
      have h1 := (detV_abs xa).mul (detV_abs xb)
      rw [e1, wrapEq]; exact h1.wrap (by omega)
    have HI1 : Hid (one = true → timesV xm ix = (unitL nm, true) ∧ 1 ≤ nm ∧ nm ≤ 3) := Lib.hid fun h => by
      have h1 := inv_law (show invV xm = (ix, true) by rw [← h]; exact HI.out.symm)
      rwa [hm.len] at h1
    have HX1 : Hid (three = true → hermV hx = (hx, true) ∧ ((detV hx).natAbs : Int) = ((detV xh).natAbs : Int)) := Lib.hid fun h => by
      have h1 := herm_law (show hermV xh = (hx, true) by rw [← h]; exact HX.out.symm)
      exact ⟨h1.1, by rcases h1.2 with h2 | h2 <;> rw [h2] <;> omega⟩
    have HBx := Lib.hid (detV_abs hx)
    have HBh := Lib.hid (detV_abs xh)
    have HlI := Lib.hid (show nI2 ≤ 1048576 by have h1 := (invV_len xm).1; rw [← HI.out] at h1; have h2 := lI.out; dsimp only at h1; omega)
    have HlX := Lib.hid (show nX2 ≤ 1048576 by have h1 := (hermV_len xh).1; rw [← HX.out] at h1; have h2 := lX.out; dsimp only at h1; omega)
    clear HC HI HX HP
    go_upto_region 18 with fail
    generalize w' = W1 at *
    go_cut [167] (fun v wx => v = .bool false ∧ Below W1.heap.size W1 wx)
    case first =>
      cases ok
      · go_wp2_with fail
        go_meet
        exact ⟨rfl, Below.refl _ _⟩
      · have hM := HM.out rfl
        obtain ⟨ua, hua⟩ : ∃ u, u = detV xa := ⟨_, rfl⟩
        obtain ⟨ub, hub⟩ : ∃ u, u = detV xb := ⟨_, rfl⟩
        rw [← hua, ← hub] at hM
        have hM := Lib.hid hM
        have hua := Lib.hid hua
        have hub := Lib.hid hub
        have hT := Below.refl W1.heap.size W1
        go_wp2_with fail
        refine (implDetOf_any _ _ _ _ _ sC hC).mono ?_
        rw [← hM.out]
        rintro e w' ⟨rfl, hb⟩
        replace ha := ha.below hb
        replace hbb := hbb.below hb
        replace hC := hC.below hb
        replace hT := Below.step hT hb
        go_wp2_with fail
        refine (implDetOf_any _ _ _ _ _ (by omega) ha).mono ?_
        rw [← hua.out]
        rintro e w' ⟨rfl, hb⟩
        replace ha := ha.below hb
        replace hbb := hbb.below hb
        replace hC := hC.below hb
        replace hT := Below.step hT hb
        go_wp2_with fail
        refine (implDetOf_any _ _ _ _ _ (by omega) hbb).mono ?_
        rw [← hub.out]
        rintro e w' ⟨rfl, hb⟩
        replace ha := ha.below hb
        replace hbb := hbb.below hb
        replace hC := hC.below hb
        replace hT := Below.step hT hb
        go_wp2_with fail
        go_meet
        exact ⟨rfl, hT⟩
    obtain ⟨rfl, hb⟩ := hcut
    clear ha hbb hC HM
    replace hm := hm.below hb
    replace hI := hI.below hb
    replace hh := hh.below hb
    replace hX := hX.below hb
    replace hT := Below.step hT hb
    generalize wc = W2 at *
    go_upto_if 168 with fail
    go_cut [] (fun wx => Below W2.heap.size W2 wx)
    case first =>
      cases one
      · go_wp2_with fail
        go_meet
        exact Below.refl _ _
      · obtain ⟨eI, g1, g3⟩ := HI1.out rfl
        have eI := Lib.hid eI
        have hT := Below.refl W2.heap.size W2
        go_wp2_with fail
        refine (implTimes_any _ _ _ _ _ _ _ _ _ (by omega) HlI.out hm hI).mono ?_
        rw [eI.out]
        rintro e w' ⟨qe, ne, de, rfl, ho, hb⟩
        have he := ho.rd
        clear ho
        replace hT := Below.step hT hb
        obtain rfl : ne = nm := by rw [← he.len]; simp [unitL]
        clear hI
        generalize w' = W at *
        go_wp2_with fail
        go_loopw [28] (fun i wr => ∃ r : Nat, r ≤ ne ∧ i = .int .i64 r ∧ Hid (wr = W)) (fun i _ => ne - (intOf i).toNat)
        case atStart => exact ⟨0, Nat.zero_le _, rfl, rfl⟩
        case round =>
          obtain ⟨r, hr, rfl, hwr⟩ := hrel
          obtain rfl := hwr.out
          clear hwr
          by_cases hlt : r < ne
          · obtain ⟨b, o, q1, m1, d1, rfl, hc, hm1, hi1⟩ := he.cell r hlt
            obtain rfl : ne = m1 := by rw [← hi1.len, unitL_nth hlt]; simp
            have hd1 : decide ((r : Int) < (ne : Int)) = true := by simp; omega
            have z1 : (0 : Int) ≤ (r : Int) := by omega
            have z2 : (r : Int) < (ne : Int) := by omega
            go_wp2_with fail
            go_loopw [29] (fun i w2 => ∃ k : Nat, k ≤ ne ∧ i = .int .i64 k ∧ Hid (w2 = wr)) (fun i _ => ne - (intOf i).toNat)
            case atStart => exact ⟨0, Nat.zero_le _, rfl, rfl⟩
            case round =>
              obtain ⟨k, hk, rfl, hw2⟩ := hrel
              obtain rfl := hw2.out
              clear hw2
              by_cases hlt2 : k < ne
              · obtain ⟨b2, o2, rfl, hc2⟩ := hi1.cell k hlt2
                have hd2 : decide ((k : Int) < (ne : Int)) = true := by simp; omega
                have z3 : (0 : Int) ≤ (k : Int) := by omega
                have z4 : (k : Int) < (ne : Int) := by omega
                rw [unitL_ent hlt hlt2] at hc2
                by_cases hrk : r = k
                · subst hrk
                  rw [if_pos rfl] at hc2
                  go_wp2_with fail
                  go_roundw
                  case rel => exact ⟨r + 1, by omega, by go_num, Lib.hid trivial⟩
                  case measure => simp [intOf]; omega
                · have hd3 : ((r : Int) == (k : Int)) = false := by simp; omega
                  rw [if_neg hrk] at hc2
                  go_wp2_with fail
                  go_roundw
                  case rel => exact ⟨k + 1, by omega, by go_num, Lib.hid trivial⟩
                  case measure => simp [intOf]; omega
              · obtain rfl : k = ne := by omega
                go_wp2_with fail
                go_roundw
                case rel => exact ⟨r + 1, by omega, by go_num, Lib.hid trivial⟩
                case measure => simp [intOf]; omega
          · obtain rfl : r = ne := by omega
            go_wp2_with fail
            go_meet
            exact hT
    have hb := hcut
    clear hcut hm hI
    replace hh := hh.below hb
    replace hX := hX.below hb
    replace hT := Below.step hT hb
    generalize wc = W3 at *
    cases three
    · go_wp2_with fail
      go_ret
      exact ⟨rfl, hT⟩
    · obtain ⟨eX, eD⟩ := HX1.out rfl
      have eX := Lib.hid eX
      have eD := Lib.hid eD
      have bx := HBx.out.1
      have bh := HBh.out.1
      go_wp2_with fail
      refine (implHermiteOf_any _ _ _ _ _ HlX.out hX).mono ?_
      rw [eX.out]
      rintro e w' ⟨qz, nz, dz, rfl, ho, hb⟩
      have hz := ho.rd
      clear ho
      replace hh := hh.below hb
      replace hX := hX.below hb
      replace hT := Below.step hT hb
      obtain rfl : nz = nX2 := by rw [← hz.len, ← hX.len]
      go_wp2_with fail
      refine (sameLists_self _ _ _ _ _ _ _ sX hz hX).mono ?_
      rintro e w' ⟨rfl, hb⟩
      replace hh := hh.below hb
      replace hX := hX.below hb
      replace hz := hz.below hb
      replace hT := Below.step hT hb
      go_wp2_with fail
      refine (implDetOf_any _ _ _ _ _ sX hX).mono ?_
      rintro e w' ⟨rfl, hb⟩
      replace hh := hh.below hb
      replace hX := hX.below hb
      replace hz := hz.below hb
      replace hT := Below.step hT hb
      go_wp2_with fail
      refine (size_any _ _ (by omega)).mono ?_
      rw [eD.out]
      rintro e w' ⟨rfl, rfl⟩
      go_wp2_with fail
      refine (implDetOf_any _ _ _ _ _ (by omega) hh).mono ?_
      rintro e w' ⟨rfl, hb⟩
      replace hh := hh.below hb
      replace hX := hX.below hb
      replace hz := hz.below hb
      replace hT := Below.step hT hb
      go_wp2_with fail
      refine (size_any _ _ (by omega)).mono ?_
      rintro e w' ⟨rfl, rfl⟩
      go_wp2_with fail
      go_ret
      exact ⟨rfl, hT⟩

end Go.Proofs.Ytdchckljggjaaaa
