/- Contracts of both AreaTwice. Conditions: sizes. -/
import Derived.Test.YthdonnkekggbbaaGreatDoorHull5
namespace Go.Proofs.YthdonnkekggbbaaGreatDoor
open Go.RowKit
set_option linter.unusedVariables false
set_option linter.unusedSimpArgs false
set_option maxRecDepth 100000

def areaTo (xss : List (List Int)) : Nat → Int
  | 0 => 0
  | k + 1 => areaTo xss k + cr (ptOf (nthR xss k)) (ptOf (nthR xss ((k + 1) % xss.length)))
theorem cr_in {m : Int} {x y : List Int} (hm : 0 ≤ m) (hx : PtIn m x) (hy : PtIn m y) : -(2 * (m * m)) ≤ cr (ptOf x) (ptOf y) ∧ cr (ptOf x) (ptOf y) ≤ 2 * (m * m) := by
  obtain ⟨_, a0, a1, a2, a3⟩ := hx
  obtain ⟨_, b0, b1, b2, b3⟩ := hy
  obtain ⟨m1, m2⟩ := mulIn hm a0 a1 b2 b3
  obtain ⟨m3, m4⟩ := mulIn hm a2 a3 b0 b1
  show _ ≤ nth x 0 * nth y 1 - nth x 1 * nth y 0 ∧ nth x 0 * nth y 1 - nth x 1 * nth y 0 ≤ _
  omega
theorem areaTo_in {xss : List (List Int)} (h : ∀ k, k < xss.length → PtIn 50 (nthR xss k)) : ∀ k, k ≤ xss.length → -(5000 * (k : Int)) ≤ areaTo xss k ∧ areaTo xss k ≤ 5000 * (k : Int)
  | 0, _ => by simp [areaTo]
  | k + 1, hk => by
    have h1 := areaTo_in h k (by omega)
    have h2 := cr_in (m := 50) (by omega) (h k (by omega)) (h ((k + 1) % xss.length) (Nat.mod_lt _ (by omega)))
    rw [areaTo]
    push_cast
    omega

set_option maxHeartbeats 1000000 in
theorem areaTwice_any (p : Option Addr) (n c : Nat) (xss : List (List Int)) (w : World) (h3 : 3 ≤ n) (h12 : n ≤ 12) (hx : Intss w p n xss) (hp : ∀ k, k < n → PtIn 50 (nthR xss k)) :
    Calls Tryz.prog 59 #[.slice p n c] w fun e w' => e = .returned (.int .i64 (areaTo xss n)) ∧ ∃ z, w' = w.drewN z := by
  have hl := Lib.hid hx.len
  have Hp := Lib.hid hp
  clear hp
  go_enter Tryz.func59, Tryz.ntmps59
  go_wp2
  go_loopw [3, 8] (fun s i wr => ∃ k : Nat, k ≤ n ∧ i = .int .i64 k ∧ s = .int .i64 (areaTo xss k) ∧ ∃ z, wr = w.drewN z) (fun _ i _ => n - (intOf i).toNat)
  case atStart => exact ⟨0, by omega, rfl, rfl, 0, rfl⟩
  case round =>
    obtain ⟨k, hk, rfl, rfl, z, rfl⟩ := hrel
    by_cases hlt : k < n
    · skip
      obtain ⟨b, o, rfl⟩ : ∃ b o, p = some ⟨b, o, none⟩ := by
        obtain ⟨b, o, _, _, _, e, _⟩ := hx.cell k hlt
        exact ⟨b, o, e⟩
      obtain ⟨k1, hk1⟩ : ∃ k1, k1 = (k + 1) % n := ⟨_, rfl⟩
      have hk1l : k1 < n := by rw [hk1]; exact Nat.mod_lt _ (by omega)
      obtain ⟨qa, da, ca, hbl, ia⟩ := hx.row2 rfl hlt (Hp.out k hlt).len
      obtain ⟨q1, d1, c1, _, i1⟩ := hx.row2 rfl hk1l (Hp.out k1 hk1l).len
      have ba := (Hp.out k hlt).wide (m' := 4000) (by omega)
      have b1 := (Hp.out k1 hk1l).wide (m' := 4000) (by omega)
      have HA : Hid (areaTo xss (k + 1) = areaTo xss k + cr (ptOf (nthR xss k)) (ptOf (nthR xss k1))) := Lib.hid (by rw [areaTo, hl.out, ← hk1])
      have hb1 := areaTo_in (xss := xss) (fun k hk => Hp.out k (by rw [← hl.out]; exact hk)) k (by rw [hl.out]; omega)
      have hb2 := cr_in (m := 50) (by omega) (Hp.out k hlt) (Hp.out k1 hk1l)
      have hm1 : IntKind.i64.wrap ((k : Int) + 1) = (k : Int) + 1 := by rw [wrapEq]; exact wrap64_id (by omega) (by omega)
      have hm3 : ((k : Int) + 1).tmod (n : Int) = (k1 : Int) := by rw [hk1]; exact (Int.ofNat_tmod (k + 1) n).symm
      have hm5 : ((k : Int) + 1) % (n : Int) = (k1 : Int) := by rw [hk1]; exact (Int.natCast_emod (k + 1) n).symm
      have hz1 : (0 : Int) ≤ (k1 : Int) := by omega
      have hz3 : (k1 : Int) < (n : Int) := by omega
      have hk0 : ¬ ((n : Int) = 0) := by omega
      have hk0' : ((n : Int) == 0) = false := by simpa using hk0
      have hk0n : ¬ (n = 0) := by omega
      have hm7 : IntKind.i64.wrap (k1 : Int) = (k1 : Int) := by rw [wrapEq]; exact wrap64_id (by omega) (by omega)
      have HCr : Hid (∀ W, Ints W qa 2 (nthR xss k) → Ints W q1 2 (nthR xss k1) → Calls Tryz.prog 75 #[.slice qa 2 da, .slice q1 2 d1] W fun e w' => e = .returned (.int .i64 (cr (ptOf (nthR xss k)) (ptOf (nthR xss k1)))) ∧ ∃ z, w' = W.drewN z) := Lib.hid fun W h1 h2 => cross_any _ _ _ _ _ _ W h1 h2 ba b1
      generalize cr (ptOf (nthR xss k)) (ptOf (nthR xss k1)) = C at *
      generalize areaTo xss k = A at *
      have hs : IntKind.i64.wrap (A + C) = A + C := by rw [wrapEq]; exact wrap64_id (by omega) (by omega)
      clear hk1 ba b1 hb1 hb2
      have ca : (w.drewN z).cell? _ = _ := ca
      have c1 : (w.drewN z).cell? _ = _ := c1
      go_wp2_with fail
      refine (HCr.out _ (ia.drewN z) (i1.drewN z)).mono ?_
      rintro e w1 ⟨rfl, z1, rfl⟩
      go_wp2_with fail
      go_roundw
      case rel => exact ⟨k + 1, by omega, by go_num, by rw [HA.out], by first | exact ⟨_, rfl⟩ | exact drew2 _ _ _⟩
      case measure => simp [intOf]; omega
    · obtain rfl : k = n := by omega
      go_wp2
      go_ret
      exact ⟨rfl, z, rfl⟩

set_option maxHeartbeats 1000000 in
theorem l7Area_any (p : Option Addr) (n c : Nat) (xss : List (List Int)) (w : World) (h3 : 3 ≤ n) (h12 : n ≤ 12) (hx : Intss w p n xss) (hp : ∀ k, k < n → PtIn 50 (nthR xss k)) :
    Calls Tryz.prog 54 #[.slice p n c] w fun e w' => e = .returned (.int .i64 (areaTo xss n)) ∧ ∃ z, w' = w.drewN z := by
  have hl := Lib.hid hx.len
  have Hp := Lib.hid hp
  clear hp
  go_enter Tryz.func54, Tryz.ntmps54
  go_wp2
  go_loopw [3, 4] (fun s i wr => ∃ k : Nat, k ≤ n ∧ i = .int .i64 k ∧ s = .int .i64 (areaTo xss k) ∧ ∃ z, wr = w.drewN z) (fun _ i _ => n - (intOf i).toNat)
  case atStart => exact ⟨0, by omega, rfl, rfl, 0, rfl⟩
  case round =>
    obtain ⟨k, hk, rfl, rfl, z, rfl⟩ := hrel
    by_cases hlt : k < n
    · skip
      obtain ⟨b, o, rfl⟩ : ∃ b o, p = some ⟨b, o, none⟩ := by
        obtain ⟨b, o, _, _, _, e, _⟩ := hx.cell k hlt
        exact ⟨b, o, e⟩
      obtain ⟨k1, hk1⟩ : ∃ k1, k1 = (k + 1) % n := ⟨_, rfl⟩
      have hk1l : k1 < n := by rw [hk1]; exact Nat.mod_lt _ (by omega)
      obtain ⟨qa, da, ca, hbl, ia⟩ := hx.row2 rfl hlt (Hp.out k hlt).len
      obtain ⟨q1, d1, c1, _, i1⟩ := hx.row2 rfl hk1l (Hp.out k1 hk1l).len
      have ba := (Hp.out k hlt).wide (m' := 4000) (by omega)
      have b1 := (Hp.out k1 hk1l).wide (m' := 4000) (by omega)
      have HA : Hid (areaTo xss (k + 1) = areaTo xss k + cr (ptOf (nthR xss k)) (ptOf (nthR xss k1))) := Lib.hid (by rw [areaTo, hl.out, ← hk1])
      have hb1 := areaTo_in (xss := xss) (fun k hk => Hp.out k (by rw [← hl.out]; exact hk)) k (by rw [hl.out]; omega)
      have hb2 := cr_in (m := 50) (by omega) (Hp.out k hlt) (Hp.out k1 hk1l)
      have hm1 : IntKind.i64.wrap ((k : Int) + 1) = (k : Int) + 1 := by rw [wrapEq]; exact wrap64_id (by omega) (by omega)
      have hm3 : ((k : Int) + 1).tmod (n : Int) = (k1 : Int) := by rw [hk1]; exact (Int.ofNat_tmod (k + 1) n).symm
      have hm5 : ((k : Int) + 1) % (n : Int) = (k1 : Int) := by rw [hk1]; exact (Int.natCast_emod (k + 1) n).symm
      have hz1 : (0 : Int) ≤ (k1 : Int) := by omega
      have hz3 : (k1 : Int) < (n : Int) := by omega
      have hk0 : ¬ ((n : Int) = 0) := by omega
      have hk0' : ((n : Int) == 0) = false := by simpa using hk0
      have hk0n : ¬ (n = 0) := by omega
      have hm7 : IntKind.i64.wrap (k1 : Int) = (k1 : Int) := by rw [wrapEq]; exact wrap64_id (by omega) (by omega)
      have HCr : Hid (∀ W, Ints W qa 2 (nthR xss k) → Ints W q1 2 (nthR xss k1) → Calls Tryz.prog 85 #[.slice qa 2 da, .slice q1 2 d1] W fun e w' => e = .returned (.int .i64 (cr (ptOf (nthR xss k)) (ptOf (nthR xss k1)))) ∧ ∃ z, w' = W.drewN z) := Lib.hid fun W h1 h2 => specCross_any _ _ _ _ _ _ W h1 h2 ba b1
      generalize cr (ptOf (nthR xss k)) (ptOf (nthR xss k1)) = C at *
      generalize areaTo xss k = A at *
      have hs : IntKind.i64.wrap (A + C) = A + C := by rw [wrapEq]; exact wrap64_id (by omega) (by omega)
      clear hk1 ba b1 hb1 hb2
      have K1 : Hid (∀ x, Calls Tryz.prog 85 #[.slice qa 2 da, .slice q1 2 d1] (w.drewN (z + x)) fun e w' => e = .returned (.int .i64 C) ∧ ∃ y, w' = w.drewN (z + y)) := Lib.hid fun x => by
        refine (HCr.out _ (ia.drewN (z + x)) (i1.drewN (z + x))).mono ?_
        rintro e w' ⟨rfl, y, rfl⟩
        exact ⟨rfl, x + y, by rw [World.drewN_drewN, Nat.add_assoc]⟩
      go_wp2
      go_quiet ((go_at_call 85; with_reducible exact K1.out _))
      go_wp2
      go_roundw
      case rel => exact ⟨k + 1, by omega, by go_num, by rw [HA.out], by first | exact ⟨_, rfl⟩ | exact drew2 _ _ _⟩
      case measure => simp [intOf]; omega
    · obtain rfl : k = n := by omega
      go_wp2
      go_ret
      exact ⟨rfl, z, rfl⟩

open Classical in
noncomputable def areaV (xss : List (List Int)) : Int := if polyB xss = true then areaTo xss xss.length else -1

theorem implAreaTwice_any (p : Option Addr) (n c : Nat) (xss : List (List Int)) (w : World) (hn : n ≤ 9223372036854775807) (hx : Intss w p n xss) :
    Calls Tryz.prog 18 #[.slice p n c] w (Ret (.int .i64 (areaV xss)) w) := by
  have hl := Lib.hid hx.len
  cases h : polyB xss
  · have HV := Lib.hid (show areaV xss = -1 by simp [areaV, h])
    go_enter Tryz.func18, Tryz.ntmps18
    go_wp2_with fail
    refine (implIsPolygon_any _ _ _ _ _ hn hx).mono ?_
    rw [h]
    rintro e w1 ⟨rfl, hb1⟩
    go_wp2_with fail
    go_ret
    exact ⟨ret_int HV.out.symm, hb1⟩
  · obtain ⟨h3, h12, hpt, _⟩ := polyB_iff.1 h
    rw [hl.out] at h3 h12 hpt
    have HV := Lib.hid (show areaV xss = areaTo xss n by simp [areaV, h, hl.out])
    go_enter Tryz.func18, Tryz.ntmps18
    go_wp2_with fail
    refine (implIsPolygon_any _ _ _ _ _ hn hx).mono ?_
    rw [h]
    rintro e w1 ⟨rfl, hb1⟩
    go_wp2_with fail
    refine (areaTwice_any _ _ _ _ _ h3 h12 (hx.below hb1) (fun k hk => isPt_in (hpt k hk))).mono ?_
    rintro e w2 ⟨rfl, z, rfl⟩
    go_wp2_with fail
    go_ret
    exact ⟨ret_int HV.out.symm, hb1.trans (belowDrawn _ _ _)⟩

theorem specAreaTwice_any (p : Option Addr) (n c : Nat) (xss : List (List Int)) (w : World) (hn : n ≤ 9223372036854775807) (hx : Intss w p n xss) :
    Calls Tryz.prog 19 #[.slice p n c] w (Ret (.int .i64 (areaV xss)) w) := by
  have hl := Lib.hid hx.len
  cases h : polyB xss
  · have HV := Lib.hid (show areaV xss = -1 by simp [areaV, h])
    go_enter Tryz.func19, Tryz.ntmps19
    go_wp2_with fail
    refine (specIsPolygon_any _ _ _ _ _ hn hx).mono ?_
    rw [h]
    rintro e w1 ⟨rfl, hb1⟩
    go_wp2_with fail
    go_ret
    exact ⟨ret_int HV.out.symm, hb1⟩
  · obtain ⟨h3, h12, hpt, _⟩ := polyB_iff.1 h
    rw [hl.out] at h3 h12 hpt
    have HV := Lib.hid (show areaV xss = areaTo xss n by simp [areaV, h, hl.out])
    go_enter Tryz.func19, Tryz.ntmps19
    go_wp2_with fail
    refine (specIsPolygon_any _ _ _ _ _ hn hx).mono ?_
    rw [h]
    rintro e w1 ⟨rfl, hb1⟩
    go_wp2_with fail
    refine (l7Area_any _ _ _ _ _ h3 h12 (hx.below hb1) (fun k hk => isPt_in (hpt k hk))).mono ?_
    rintro e w2 ⟨rfl, z, rfl⟩
    go_wp2_with fail
    go_ret
    exact ⟨ret_int HV.out.symm, hb1.trans (belowDrawn _ _ _)⟩

end Go.Proofs.YthdonnkekggbbaaGreatDoor
