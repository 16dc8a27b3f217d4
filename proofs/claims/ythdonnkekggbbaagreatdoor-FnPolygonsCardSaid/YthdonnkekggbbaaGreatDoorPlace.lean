/- Contracts of both PlaceOf. Conditions: sizes. -/
import Derived.Test.YthdonnkekggbbaaGreatDoorArea
namespace Go.Proofs.YthdonnkekggbbaaGreatDoor
open Go.RowKit
set_option linter.unusedVariables false
set_option linter.unusedSimpArgs false
set_option maxRecDepth 100000

def placT (xss : List (List Int)) (ys : List Int) (k : Nat) : Int := turnZ (nthR xss k) (nthR xss ((k + 1) % xss.length)) ys
def placTo (xss : List (List Int)) (ys : List Int) : Nat → Int
  | 0 => 1
  | k + 1 => if placT xss ys k = 0 then 0 else placTo xss ys k
open Classical in
noncomputable def placV (xss : List (List Int)) (ys : List Int) : Int := if ∃ k, k < xss.length ∧ placT xss ys k < 0 then -1 else placTo xss ys xss.length
theorem placV_neg {xss : List (List Int)} {ys : List Int} {k : Nat} (h : k < xss.length) (ht : placT xss ys k < 0) : placV xss ys = -1 := by
  unfold placV; rw [if_pos ⟨k, h, ht⟩]
theorem placV_end {xss : List (List Int)} {ys : List Int} (h : ∀ j, j < xss.length → 0 ≤ placT xss ys j) : placV xss ys = placTo xss ys xss.length := by
  unfold placV; rw [if_neg]
  rintro ⟨k, hk, ht⟩
  have := h k hk
  omega

set_option maxHeartbeats 2000000 in
theorem placeOf_any (p q : Option Addr) (n c d : Nat) (xss : List (List Int)) (ys : List Int) (w : World) (h3 : 3 ≤ n) (h12 : n ≤ 12) (hx : Intss w p n xss) (hp : ∀ k, k < n → PtIn 50 (nthR xss k)) (hy : Ints w q 2 ys) (hby : PtIn 1000 ys) :
    Calls Tryz.prog 32 #[.slice p n c, .slice q 2 d] w fun e w' => e = .returned (.int .i64 (placV xss ys)) ∧ Below w.heap.size w w' := by
  have hl := Lib.hid hx.len
  have Hp := Lib.hid hp
  clear hp
  go_enter Tryz.func32, Tryz.ntmps32
  go_wp2
  go_loopw [5, 11] (fun s i wr => ∃ k : Nat, k ≤ n ∧ i = .int .i64 k ∧ s = .int .i64 (placTo xss ys k) ∧ Hid (∀ j, j < k → 0 ≤ placT xss ys j) ∧ Below w.heap.size w wr) (fun _ i _ => n - (intOf i).toNat)
  case atStart => exact ⟨0, by omega, rfl, rfl, fun j hj => by omega, Below.refl _ _⟩
  case round =>
    obtain ⟨k, hk, rfl, rfl, hall, hb⟩ := hrel
    by_cases hlt : k < n
    · skip
      generalize wr = W at *
      obtain ⟨b, o, rfl⟩ : ∃ b o, p = some ⟨b, o, none⟩ := by
        obtain ⟨b, o, _, _, _, e, _⟩ := hx.cell k hlt
        exact ⟨b, o, e⟩
      obtain ⟨k1, hk1⟩ : ∃ k1, k1 = (k + 1) % n := ⟨_, rfl⟩
      have hk1l : k1 < n := by rw [hk1]; exact Nat.mod_lt _ (by omega)
      obtain ⟨qa, da, ca, hbl, ia⟩ := hx.row2 rfl hlt (Hp.out k hlt).len
      obtain ⟨q1, d1, c1, _, i1⟩ := hx.row2 rfl hk1l (Hp.out k1 hk1l).len
      have ba := (Hp.out k hlt).wide (m' := 1000) (by omega)
      have b1 := (Hp.out k1 hk1l).wide (m' := 1000) (by omega)
      have HT : Hid (placT xss ys k = turnZ (nthR xss k) (nthR xss k1) ys) := Lib.hid (by rw [placT, hl.out, ← hk1])
      have hm1 : IntKind.i64.wrap ((k : Int) + 1) = (k : Int) + 1 := by rw [wrapEq]; exact wrap64_id (by omega) (by omega)
      have hm3 : ((k : Int) + 1).tmod (n : Int) = (k1 : Int) := by rw [hk1]; exact (Int.ofNat_tmod (k + 1) n).symm
      have hm5 : ((k : Int) + 1) % (n : Int) = (k1 : Int) := by rw [hk1]; exact (Int.natCast_emod (k + 1) n).symm
      have hz1 : (0 : Int) ≤ (k1 : Int) := by omega
      have hz3 : (k1 : Int) < (n : Int) := by omega
      have hk0 : ¬ ((n : Int) = 0) := by omega
      have hk0' : ((n : Int) == 0) = false := by simpa using hk0
      have hk0n : ¬ (n = 0) := by omega
      have hm7 : IntKind.i64.wrap (k1 : Int) = (k1 : Int) := by rw [wrapEq]; exact wrap64_id (by omega) (by omega)
      have HCr : Hid (∀ V, Below w.heap.size w V → Calls Tryz.prog 40 #[.slice qa 2 da, .slice q1 2 d1, .slice q 2 d] V fun e w' => e = .returned (.int .i64 (turnZ (nthR xss k) (nthR xss k1) ys)) ∧ Below V.heap.size V w') := Lib.hid fun V hV => turn_any _ _ _ _ _ _ _ _ _ V (ia.below hV) (i1.below hV) (hy.below hV) ba b1 hby
      replace ca := (hb.cell hbl).trans ca
      replace c1 := (hb.cell hbl).trans c1
      generalize turnZ (nthR xss k) (nthR xss k1) ys = T at *
      clear hk1 ba b1 ia i1
      by_cases t0 : T < 0
      · have HP : Hid (placV xss ys = -1) := Lib.hid (placV_neg (by rw [hl.out]; exact hlt) (by rw [HT.out]; exact t0))
        go_wp2_with fail
        refine (HCr.out _ hb).mono ?_
        rintro e w1 ⟨rfl, hb1⟩
        go_wp2_with fail
        go_ret
        exact ⟨ret_int HP.out.symm, Below.step hb hb1⟩
      · by_cases t1 : T = 0
        · have t2 : (T == 0) = true := by simpa using t1
          have t3 : decide (T < 0) = false := by simpa using t0
          have HS : Hid (placTo xss ys (k + 1) = 0) := Lib.hid (by rw [placTo, HT.out, if_pos t1])
          have HA : Hid (0 ≤ placT xss ys k) := Lib.hid (by rw [HT.out]; omega)
          clear t0 t1
          go_wp2_with fail
          refine (HCr.out _ hb).mono ?_
          rintro e w1 ⟨rfl, hb1⟩
          go_wp2_with fail
          go_roundw
          case rel =>
            refine ⟨k + 1, by omega, by go_num, by rw [HS.out], fun j hj => ?_, Below.step hb hb1⟩
            by_cases hjk : j < k
            · exact hall.out j hjk
            · obtain rfl : j = k := by omega
              exact HA.out
          case measure => simp [intOf]; omega
        · have t2 : (T == 0) = false := by simpa using t1
          have t3 : decide (T < 0) = false := by simpa using t0
          have HS : Hid (placTo xss ys (k + 1) = placTo xss ys k) := Lib.hid (by rw [placTo, HT.out, if_neg t1])
          have HA : Hid (0 ≤ placT xss ys k) := Lib.hid (by rw [HT.out]; omega)
          clear t0 t1
          go_wp2_with fail
          refine (HCr.out _ hb).mono ?_
          rintro e w1 ⟨rfl, hb1⟩
          go_wp2_with fail
          go_roundw
          case rel =>
            refine ⟨k + 1, by omega, by go_num, by rw [HS.out], fun j hj => ?_, Below.step hb hb1⟩
            by_cases hjk : j < k
            · exact hall.out j hjk
            · obtain rfl : j = k := by omega
              exact HA.out
          case measure => simp [intOf]; omega
    · obtain rfl : k = n := by omega
      have HP := Lib.hid (placV_end (xss := xss) (ys := ys) (fun j hj => hall.out j (by rw [← hl.out]; exact hj)))
      have HN := Lib.hid hl.out
      go_wp2
      go_ret
      exact ⟨ret_int (by rw [HP.out, HN.out]), hb⟩

set_option maxHeartbeats 2000000 in
theorem l7Place_any (p q : Option Addr) (n c d : Nat) (xss : List (List Int)) (ys : List Int) (w : World) (h3 : 3 ≤ n) (h12 : n ≤ 12) (hx : Intss w p n xss) (hp : ∀ k, k < n → PtIn 50 (nthR xss k)) (hy : Ints w q 2 ys) (hby : PtIn 1000 ys) :
    Calls Tryz.prog 58 #[.slice p n c, .slice q 2 d] w fun e w' => e = .returned (.int .i64 (placV xss ys)) ∧ Below w.heap.size w w' := by
  have hl := Lib.hid hx.len
  have Hp := Lib.hid hp
  clear hp
  go_enter Tryz.func58, Tryz.ntmps58
  go_wp2
  go_loopw [5, 6] (fun s i wr => ∃ k : Nat, k ≤ n ∧ i = .int .i64 k ∧ s = .int .i64 (placTo xss ys k) ∧ Hid (∀ j, j < k → 0 ≤ placT xss ys j) ∧ Below w.heap.size w wr) (fun _ i _ => n - (intOf i).toNat)
  case atStart => exact ⟨0, by omega, rfl, rfl, fun j hj => by omega, Below.refl _ _⟩
  case round =>
    obtain ⟨k, hk, rfl, rfl, hall, hb⟩ := hrel
    by_cases hlt : k < n
    · skip
      generalize wr = W at *
      obtain ⟨b, o, rfl⟩ : ∃ b o, p = some ⟨b, o, none⟩ := by
        obtain ⟨b, o, _, _, _, e, _⟩ := hx.cell k hlt
        exact ⟨b, o, e⟩
      obtain ⟨k1, hk1⟩ : ∃ k1, k1 = (k + 1) % n := ⟨_, rfl⟩
      have hk1l : k1 < n := by rw [hk1]; exact Nat.mod_lt _ (by omega)
      obtain ⟨qa, da, ca, hbl, ia⟩ := hx.row2 rfl hlt (Hp.out k hlt).len
      obtain ⟨q1, d1, c1, _, i1⟩ := hx.row2 rfl hk1l (Hp.out k1 hk1l).len
      have ba := (Hp.out k hlt).wide (m' := 1000) (by omega)
      have b1 := (Hp.out k1 hk1l).wide (m' := 1000) (by omega)
      have HT : Hid (placT xss ys k = turnZ (nthR xss k) (nthR xss k1) ys) := Lib.hid (by rw [placT, hl.out, ← hk1])
      have hm1 : IntKind.i64.wrap ((k : Int) + 1) = (k : Int) + 1 := by rw [wrapEq]; exact wrap64_id (by omega) (by omega)
      have hm3 : ((k : Int) + 1).tmod (n : Int) = (k1 : Int) := by rw [hk1]; exact (Int.ofNat_tmod (k + 1) n).symm
      have hm5 : ((k : Int) + 1) % (n : Int) = (k1 : Int) := by rw [hk1]; exact (Int.natCast_emod (k + 1) n).symm
      have hz1 : (0 : Int) ≤ (k1 : Int) := by omega
      have hz3 : (k1 : Int) < (n : Int) := by omega
      have hk0 : ¬ ((n : Int) = 0) := by omega
      have hk0' : ((n : Int) == 0) = false := by simpa using hk0
      have hk0n : ¬ (n = 0) := by omega
      have hm7 : IntKind.i64.wrap (k1 : Int) = (k1 : Int) := by rw [wrapEq]; exact wrap64_id (by omega) (by omega)
      have HCr : Hid (∀ V, Below w.heap.size w V → Calls Tryz.prog 79 #[.slice qa 2 da, .slice q1 2 d1, .slice q 2 d] V fun e w' => e = .returned (.int .i64 (turnZ (nthR xss k) (nthR xss k1) ys)) ∧ Below V.heap.size V w') := Lib.hid fun V hV => specTurn_any _ _ _ _ _ _ _ _ _ V (ia.below hV) (i1.below hV) (hy.below hV) ba b1 hby
      replace ca := (hb.cell hbl).trans ca
      replace c1 := (hb.cell hbl).trans c1
      generalize turnZ (nthR xss k) (nthR xss k1) ys = T at *
      clear hk1 ba b1 ia i1
      have eca := cell_regrown ca
      have ec1 := cell_regrown c1
      have K1 : Hid (∀ dd os, Calls Tryz.prog 79 #[.slice qa 2 da, .slice q1 2 d1, .slice q 2 d] (Sort.grow (redrawn W dd) os) fun e w' => e = .returned (.int .i64 T) ∧ ∃ p : Regrown, w' = Sort.grow (redrawn W p.d) p.os) :=
        Lib.hid fun dd os => Calls.regrown_of (HCr.out _ (Below.step hb (below_regrown W dd os)))
      by_cases t0 : T < 0
      · have HP : Hid (placV xss ys = -1) := Lib.hid (placV_neg (by rw [hl.out]; exact hlt) (by rw [HT.out]; exact t0))
        go_wp2
        refine wp_region_quiet_below (by kernel_rfl) (by kernel_rfl) ?_
        repeat (go_big_quiet_step (with_reducible exact K1.out _ _))
        refine wpQuiet_nil ?_
        intro _ hw'
        obtain ⟨⟨dq, osq⟩, hw''⟩ := hw'
        subst hw''
        go_wp2
        go_ret
        exact ⟨ret_int HP.out.symm, Below.step hb (below_regrown W dq osq)⟩
      · by_cases t1 : T = 0
        · have t2 : (T == 0) = true := by simpa using t1
          have t3 : decide (T < 0) = false := by simpa using t0
          have HS : Hid (placTo xss ys (k + 1) = 0) := Lib.hid (by rw [placTo, HT.out, if_pos t1])
          have HA : Hid (0 ≤ placT xss ys k) := Lib.hid (by rw [HT.out]; omega)
          clear t0 t1
          go_wp2
          refine wp_region_quiet_below (by kernel_rfl) (by kernel_rfl) ?_
          repeat (go_big_quiet_step (with_reducible exact K1.out _ _))
          refine wpQuiet_nil ?_
          intro _ hw'
          obtain ⟨⟨dq, osq⟩, hw''⟩ := hw'
          subst hw''
          go_wp2
          go_roundw
          case rel =>
            refine ⟨k + 1, by omega, by go_num, by rw [HS.out], fun j hj => ?_, Below.step hb (below_regrown W dq osq)⟩
            by_cases hjk : j < k
            · exact hall.out j hjk
            · obtain rfl : j = k := by omega
              exact HA.out
          case measure => simp [intOf]; omega
        · have t2 : (T == 0) = false := by simpa using t1
          have t3 : decide (T < 0) = false := by simpa using t0
          have HS : Hid (placTo xss ys (k + 1) = placTo xss ys k) := Lib.hid (by rw [placTo, HT.out, if_neg t1])
          have HA : Hid (0 ≤ placT xss ys k) := Lib.hid (by rw [HT.out]; omega)
          clear t0 t1
          go_wp2
          refine wp_region_quiet_below (by kernel_rfl) (by kernel_rfl) ?_
          repeat (go_big_quiet_step (with_reducible exact K1.out _ _))
          refine wpQuiet_nil ?_
          intro _ hw'
          obtain ⟨⟨dq, osq⟩, hw''⟩ := hw'
          subst hw''
          go_wp2
          go_roundw
          case rel =>
            refine ⟨k + 1, by omega, by go_num, by rw [HS.out], fun j hj => ?_, Below.step hb (below_regrown W dq osq)⟩
            by_cases hjk : j < k
            · exact hall.out j hjk
            · obtain rfl : j = k := by omega
              exact HA.out
          case measure => simp [intOf]; omega
    · obtain rfl : k = n := by omega
      have HP := Lib.hid (placV_end (xss := xss) (ys := ys) (fun j hj => hall.out j (by rw [← hl.out]; exact hj)))
      have HN := Lib.hid hl.out
      go_wp2
      go_ret
      exact ⟨ret_int (by rw [HP.out, HN.out]), hb⟩

open Classical in
noncomputable def placeOfV (xss : List (List Int)) (ys : List Int) : Int := if polyB xss = true ∧ isVec ys = true ∧ ys.length = 2 then placV xss ys else -1
theorem vec_pt {ys : List Int} (h : isVec ys = true) (h2 : ys.length = 2) : PtIn 1000 ys := by
  unfold isVec at h
  rw [Bool.and_eq_true] at h
  exact isPt_in (by unfold isPt; rw [h.2]; simp [h2])

theorem implPlaceOf_any (p q : Option Addr) (n c m d : Nat) (xss : List (List Int)) (ys : List Int) (w : World) (hn : n ≤ 9223372036854775807) (hm : m ≤ 9223372036854775807) (hx : Intss w p n xss) (hy : Ints w q m ys) :
    Calls Tryz.prog 16 #[.slice p n c, .slice q m d] w (Ret (.int .i64 (placeOfV xss ys)) w) := by
  have hl := Lib.hid hx.len
  have hl2 := Lib.hid hy.len
  go_enter Tryz.func16, Tryz.ntmps16
  go_wp2_with fail
  refine (implIsPolygon_any _ _ _ _ _ hn hx).mono ?_
  cases h : polyB xss
  · have HV := Lib.hid (show placeOfV xss ys = -1 by simp [placeOfV, h])
    rintro e w1 ⟨rfl, hb1⟩
    go_wp2_with fail
    go_ret
    exact ⟨ret_int HV.out.symm, hb1⟩
  · rintro e w1 ⟨rfl, hb1⟩
    obtain ⟨h3, h12, hpt, _⟩ := polyB_iff.1 h
    rw [hl.out] at h3 h12 hpt
    have Hpt := Lib.hid hpt
    clear hpt
    go_wp2_with fail
    refine (implIsVector_any _ _ _ _ _ (hy.below hb1) hm).mono ?_
    cases hv : isVec ys
    · have HV := Lib.hid (show placeOfV xss ys = -1 by simp [placeOfV, hv])
      rintro e w2 ⟨rfl, rfl⟩
      go_wp2_with fail
      go_ret
      exact ⟨ret_int HV.out.symm, hb1⟩
    · rintro e w2 ⟨rfl, rfl⟩
      by_cases h2 : m = 2
      · subst h2
        have HV := Lib.hid (show placeOfV xss ys = placV xss ys by simp [placeOfV, h, hv, hl2.out])
        have hby := vec_pt hv hl2.out
        go_wp2_with fail
        refine (placeOf_any _ _ _ _ _ _ _ _ h3 h12 (hx.below hb1) (fun k hk => isPt_in (Hpt.out k hk)) (hy.below hb1) hby).mono ?_
        rintro e w3 ⟨rfl, hb3⟩
        go_wp2_with fail
        go_ret
        exact ⟨ret_int HV.out.symm, Below.step hb1 hb3⟩
      · have HV := Lib.hid (show placeOfV xss ys = -1 by simp [placeOfV, hl2.out, h2])
        have hne : ((m : Int) != 2) = true := by simp; omega
        have hne2 : (m != 2) = true := by simp [h2]
        go_wp2_with fail
        go_ret
        exact ⟨ret_int HV.out.symm, hb1⟩

theorem specPlaceOf_any (p q : Option Addr) (n c m d : Nat) (xss : List (List Int)) (ys : List Int) (w : World) (hn : n ≤ 9223372036854775807) (hm : m ≤ 9223372036854775807) (hx : Intss w p n xss) (hy : Ints w q m ys) :
    Calls Tryz.prog 17 #[.slice p n c, .slice q m d] w (Ret (.int .i64 (placeOfV xss ys)) w) := by
  have hl := Lib.hid hx.len
  have hl2 := Lib.hid hy.len
  go_enter Tryz.func17, Tryz.ntmps17
  go_wp2_with fail
  refine (specIsPolygon_any _ _ _ _ _ hn hx).mono ?_
  cases h : polyB xss
  · have HV := Lib.hid (show placeOfV xss ys = -1 by simp [placeOfV, h])
    rintro e w1 ⟨rfl, hb1⟩
    go_wp2_with fail
    go_ret
    exact ⟨ret_int HV.out.symm, hb1⟩
  · rintro e w1 ⟨rfl, hb1⟩
    obtain ⟨h3, h12, hpt, _⟩ := polyB_iff.1 h
    rw [hl.out] at h3 h12 hpt
    have Hpt := Lib.hid hpt
    clear hpt
    go_wp2_with fail
    refine (specIsVector_any _ _ _ _ _ (hy.below hb1) hm).mono ?_
    cases hv : isVec ys
    · have HV := Lib.hid (show placeOfV xss ys = -1 by simp [placeOfV, hv])
      rintro e w2 ⟨rfl, rfl⟩
      go_wp2_with fail
      go_ret
      exact ⟨ret_int HV.out.symm, hb1⟩
    · rintro e w2 ⟨rfl, rfl⟩
      by_cases h2 : m = 2
      · subst h2
        have HV := Lib.hid (show placeOfV xss ys = placV xss ys by simp [placeOfV, h, hv, hl2.out])
        have hby := vec_pt hv hl2.out
        go_wp2_with fail
        refine (l7Place_any _ _ _ _ _ _ _ _ h3 h12 (hx.below hb1) (fun k hk => isPt_in (Hpt.out k hk)) (hy.below hb1) hby).mono ?_
        rintro e w3 ⟨rfl, hb3⟩
        go_wp2_with fail
        go_ret
        exact ⟨ret_int HV.out.symm, Below.step hb1 hb3⟩
      · have HV := Lib.hid (show placeOfV xss ys = -1 by simp [placeOfV, hl2.out, h2])
        have hne : ((m : Int) != 2) = true := by simp; omega
        have hne2 : (m != 2) = true := by simp [h2]
        go_wp2_with fail
        go_ret
        exact ⟨ret_int HV.out.symm, hb1⟩

end Go.Proofs.YthdonnkekggbbaaGreatDoor
