/- Contracts: the reference's reader of numbers. Conditions: sizes. -/
import Derived.Test.YtpfklkmmhdpphadGreatDoorStrFns3
import Derived.Test.YtpfklkmmhdpphadGreatDoorJnNum2
namespace Go.Proofs.YtpfklkmmhdpphadGreatDoor
open Go.RowKit
set_option linter.unusedVariables false
set_option linter.unusedSimpArgs false
set_option maxRecDepth 100000

theorem take_byte {S : ByteArray} {l : List UInt8} {k : Nat} (hl : S.data.toList = l) (h : k < S.size) : l.take (k + 1) = l.take k ++ [S[k]] := by
  subst hl
  rw [List.take_succ_eq_append_getElem (by simpa using h)]; rfl
theorem dvf_snoc (l : List UInt8) (c : UInt8) (a : Nat) : dvf a (l ++ [c]) = dvf a l * 10 + dgv c := by rw [dvf_append, dvf_cons, dvf_nil]
theorem dvf_small {l : List UInt8} {k : Nat} (hd : ∀ c ∈ l, isDig c) (hk : l.length ≤ k) : dvf 0 l < 10 ^ k := by
  have h1 := dvf_lt l 0 hd
  have h2 : 10 ^ l.length ≤ 10 ^ k := Nat.pow_le_pow_right (by omega) hk
  omega

theorem numBound {l : List UInt8} {m : Nat} (hd : ∀ c ∈ l, isDig c) (hk : l.length ≤ 11) : ((dvf 0 l : Nat) : Int) ≤ 99999999999 := by
  have := dvf_small hd hk
  omega
theorem numBound12 {l : List UInt8} (hd : ∀ c ∈ l, isDig c) (hk : l.length ≤ 12) : ((dvf 0 l : Nat) : Int) ≤ 999999999999 := by
  have := dvf_small hd hk
  omega

set_option maxHeartbeats 1000000 in
theorem specRead_any (S0 : ByteArray) (l : List UInt8) (most : Nat) (w : World) (hS0 : S0.data.toList = l) (hl : l.length ≤ 1048576) (hm1 : 1 ≤ most) (hm2 : most ≤ 12) :
    Calls Tryz.prog 79 #[.string S0, .int .i64 most] w (RetNB w (parseW ((10 ^ most : Nat) - 1) l)) := by
  have hsz : S0.size = l.length := by rw [← hS0]; rw [Array.length_toList]; rfl
  have hsz1 : S0.size ≤ 1048576 := by omega
  have HS0 := Lib.hid hS0
  cases l with
  | nil =>
    have hs0 : S0.size = 0 := by simpa using hsz
    have HP := Lib.hid (readW_len (most := most) (l := []) hm1 (.inl (by simp [tW])))
    go_enter Tryz.func79, Tryz.ntmps79
    go_wp2
    go_ret2
    exact retNB HP.out (Below.refl _ _)
  | cons c r =>
    have hsp : 0 < S0.size := by rw [hsz]; simp
    have hc0 : S0[0] = c := by
      have : S0.data.toList[0]? = some c := by rw [hS0]; rfl
      rw [List.getElem?_eq_getElem (by rw [Array.length_toList]; exact hsp)] at this
      injection this
    have hrl : S0.size = r.length + 1 := by rw [hsz]; rfl
    obtain ⟨L, hL⟩ : ∃ L, L = c :: r := ⟨_, rfl⟩
    rw [← hL] at HS0 hl ⊢
    -- the text behind the sign
    by_cases hc : c = 45
    · have hcb : (S0[0].toNat : Int) = 45 := by rw [hc0, hc]; rfl
      have hT : tW L = r := by rw [hL, tW, if_pos (by rw [hc]; rfl)]; rfl
      have hsv : sval L = -(dvf 0 r : Int) := by rw [hL, sval, if_pos (by rw [hc]; rfl)]; rfl
      have HSV := Lib.hid hsv
      have HT := Lib.hid hT
      have hext : (S0.extract 1 S0.size).data.toList = r := by
        rw [Lib.extract_to_end, hS0]; rfl
      have hexs : (S0.extract 1 S0.size).size = r.length := by rw [← hext, Array.length_toList]; rfl
      have Hext := Lib.hid hext
      have Hexs := Lib.hid hexs
      clear hT hS0 hsz hc0 hext hexs hsv hL
      by_cases hlen : r.length < 1 ∨ most < r.length
      · have HP := Lib.hid (readW_len (most := most) (l := L) hm1 (by rw [HT.out]; exact hlen))
        rcases hlen with hlen | hlen
        all_goals
          have h1 : S0.size - 1 < 1 ∨ most < S0.size - 1 := by omega
          go_enter Tryz.func79, Tryz.ntmps79
          go_wp2
          all_goals first | (go_ret2; exact retNB HP.out (Below.refl _ _)) | (exfalso; omega)
      · have h1 : 1 ≤ S0.size - 1 := by omega
        have h2 : ¬ most < S0.size - 1 := by omega
        have h1' : (1 : Int) ≤ ((S0.size - 1 : Nat) : Int) := by omega
        have HRL := Lib.hid hrl
        clear hrl
        go_enter Tryz.func79, Tryz.ntmps79
        go_wp2
        generalize hS : S0.extract 1 S0.size = S at *
        have HS := Lib.hid Hext.out
        have hSl : S.size = r.length := Hexs.out
        have HSl := Lib.hid hSl
        have hrl := HRL.out
        have hS12 : S.size ≤ 12 := by omega
        have hS1 : 1 ≤ S.size := by omega
        have hTl : r.length ≤ 12 := by omega
        have hTS : r.length ≤ S.size := by omega
        have hSm : r.length ≤ most := by omega
        clear hS hSl Hexs Hext hrl HRL hc
        generalize hrT : r = T at *
        clear hrT
        go_loop [8, 9] (fun a i => ∃ k : Nat, k ≤ S.size ∧ i = .int .i64 k ∧ a = .int .i64 ((dvf 0 (T.take k) : Nat) : Int) ∧ Hid (∀ c ∈ T.take k, isDig c)) (fun _ i => S.size - (intOf i).toNat)
        case atStart => exact ⟨0, Nat.zero_le _, rfl, rfl, Lib.hid (by intro c hc; simp at hc)⟩
        case round =>
          obtain ⟨k, hk, rfl, rfl, hall⟩ := hrel
          by_cases hlt : k < S.size
          · have htk := take_byte HS.out hlt
            have hkl : (T.take k).length ≤ 11 := by rw [List.length_take]; omega
            have hnb := numBound (m := 11) hall.out hkl
            by_cases hd : isDig S[k]
            · have hd' := hd
              unfold isDig at hd'
              obtain ⟨hd1, hd2⟩ := hd'
              have hd3 : (48 : Int) ≤ (S[k].toNat : Int) := by omega
              have hd4 : (S[k].toNat : Int) ≤ 57 := by omega
              have hnx : ((dvf 0 (T.take (k + 1)) : Nat) : Int) = 10 * ((dvf 0 (T.take k) : Nat) : Int) + ((S[k].toNat : Int) - 48) := by
                rw [htk, dvf_snoc, dgv]; omega
              have Hnx := Lib.hid hnx
              have HA : Hid (∀ c ∈ T.take (k + 1), isDig c) := Lib.hid (by
                rw [htk]; intro c hc
                rcases List.mem_append.1 hc with hc | hc
                · exact hall.out c hc
                · rw [List.mem_singleton] at hc; rw [hc]; exact hd)
              clear hnx htk hd
              generalize dvf 0 (T.take k) = N at *
              go_wp2
              go_round
              case rel => exact ⟨k + 1, by omega, by go_num, by rw [Hnx.out], HA⟩
              case measure => simp [intOf]; omega
            · have HP := Lib.hid (readW_bad (k := ((10 ^ most : Nat) : Int) - 1) (l := L) ⟨S[k], by
                rw [HT.out]
                have : S[k] ∈ T.take (k + 1) := by rw [htk]; simp
                exact List.mem_of_mem_take this, hd⟩)
              have hd' : (S[k].toNat : Int) < 48 ∨ 57 < (S[k].toNat : Int) := by unfold isDig at hd; omega
              clear htk hd
              generalize dvf 0 (T.take k) = N at *
              rcases hd' with hd' | hd'
              · go_wp2
                go_ret2
                exact retNB HP.out (Below.refl _ _)
              · have hd5 : ¬ (S[k].toNat : Int) < 48 := by omega
                go_wp2
                go_ret2
                exact retNB HP.out (Below.refl _ _)
          · obtain rfl : k = S.size := by omega
            rw [List.take_of_length_le (by omega)] at hall ⊢
            have hnb := numBound12 hall.out (by omega)
            have HSVk := HSV
            generalize dvf 0 T = N at *
            go_wp2_with fail
            refine (specFormat_any _ _ (by omega) (by omega)).mono ?_
            rintro e w1 ⟨rfl, hb1⟩
            by_cases hi : Lib.itoa (-(N : Int)) = L
            · have hq : (Lib.itoa (-(N : Int)) == S0.toList) = true := by rw [ByteArray.toList_eq, HS0.out, hi]; exact beq_self_eq_true L
              have HP := Lib.hid (readW_yes (most := most) (l := L) (by rw [HSV.out]; exact hi) (by rw [HT.out]; exact hall.out) (by rw [HT.out]; omega))
              clear hi
              go_wp2
              go_ret2
              exact retNB (by rw [HP.out, HSV.out]) hb1
            · have hq : (Lib.itoa (-(N : Int)) == S0.toList) = false := by rw [ByteArray.toList_eq, HS0.out]; simpa using hi
              have HP := Lib.hid (readW_no (k := ((10 ^ most : Nat) : Int) - 1) (l := L) (by rw [HSV.out]; exact hi))
              clear hi
              go_wp2
              go_ret2
              exact retNB HP.out hb1
    · have hcb : ((S0[0].toNat : Int) == 45) = false := by
        rw [hc0]
        have : c.toNat ≠ 45 := fun e => hc (UInt8.toNat_inj.1 (by rw [e]; rfl))
        simp; omega
      have hT : tW L = L := by rw [hL, tW, if_neg (by simpa using hc)]
      have hsv : sval L = (dvf 0 L : Int) := by rw [hL, sval, if_neg (by simpa using hc)]
      have HSV := Lib.hid hsv
      have HT := Lib.hid hT
      have hLl : S0.size = L.length := by rw [hsz, hL]
      clear hT hS0 hsz hc0 hsv hL hrl
      by_cases hlen : most < L.length
      · have HP := Lib.hid (readW_len (most := most) (l := L) hm1 (by rw [HT.out]; exact .inr hlen))
        have h1 : most < S0.size := by omega
        clear hLl
        go_enter Tryz.func79, Tryz.ntmps79
        go_wp2
        all_goals first | (go_ret2; exact retNB HP.out (Below.refl _ _)) | (exfalso; omega)
      · have h1 : 1 ≤ S0.size := by omega
        have h2 : ¬ most < S0.size := by omega
        have h1' : (1 : Int) ≤ ((S0.size : Nat) : Int) := by omega
        have hS12 : S0.size ≤ 12 := by omega
        have hTl : L.length ≤ 12 := by omega
        have hTS : L.length ≤ S0.size := by omega
        have hSm : L.length ≤ most := by omega
        clear hLl hc
        go_enter Tryz.func79, Tryz.ntmps79
        go_wp2
        go_loop [8, 9] (fun a i => ∃ k : Nat, k ≤ S0.size ∧ i = .int .i64 k ∧ a = .int .i64 ((dvf 0 (L.take k) : Nat) : Int) ∧ Hid (∀ c ∈ L.take k, isDig c)) (fun _ i => S0.size - (intOf i).toNat)
        case atStart => exact ⟨0, Nat.zero_le _, rfl, rfl, Lib.hid (by intro c hc; simp at hc)⟩
        case round =>
          obtain ⟨k, hk, rfl, rfl, hall⟩ := hrel
          by_cases hlt : k < S0.size
          · have htk := take_byte HS0.out hlt
            have hkl : (L.take k).length ≤ 11 := by rw [List.length_take]; omega
            have hnb := numBound (m := 11) hall.out hkl
            by_cases hd : isDig S0[k]
            · have hd' := hd
              unfold isDig at hd'
              obtain ⟨hd1, hd2⟩ := hd'
              have hd3 : (48 : Int) ≤ (S0[k].toNat : Int) := by omega
              have hd4 : (S0[k].toNat : Int) ≤ 57 := by omega
              have hnx : ((dvf 0 (L.take (k + 1)) : Nat) : Int) = 10 * ((dvf 0 (L.take k) : Nat) : Int) + ((S0[k].toNat : Int) - 48) := by
                rw [htk, dvf_snoc, dgv]; omega
              have Hnx := Lib.hid hnx
              have HA : Hid (∀ c ∈ L.take (k + 1), isDig c) := Lib.hid (by
                rw [htk]; intro c hc
                rcases List.mem_append.1 hc with hc | hc
                · exact hall.out c hc
                · rw [List.mem_singleton] at hc; rw [hc]; exact hd)
              clear hnx htk hd
              generalize dvf 0 (L.take k) = N at *
              go_wp2
              go_round
              case rel => exact ⟨k + 1, by omega, by go_num, by rw [Hnx.out], HA⟩
              case measure => simp [intOf]; omega
            · have HP := Lib.hid (readW_bad (k := ((10 ^ most : Nat) : Int) - 1) (l := L) ⟨S0[k], by
                rw [HT.out]
                have : S0[k] ∈ L.take (k + 1) := by rw [htk]; simp
                exact List.mem_of_mem_take this, hd⟩)
              have hd' : (S0[k].toNat : Int) < 48 ∨ 57 < (S0[k].toNat : Int) := by unfold isDig at hd; omega
              clear htk hd
              generalize dvf 0 (L.take k) = N at *
              rcases hd' with hd' | hd'
              · go_wp2
                go_ret2
                exact retNB HP.out (Below.refl _ _)
              · have hd5 : ¬ (S0[k].toNat : Int) < 48 := by omega
                go_wp2
                go_ret2
                exact retNB HP.out (Below.refl _ _)
          · obtain rfl : k = S0.size := by omega
            rw [List.take_of_length_le (by omega)] at hall ⊢
            have hnb := numBound12 hall.out (by omega)
            have HSVk := HSV
            generalize dvf 0 L = N at *
            go_wp2_with fail
            refine (specFormat_any _ _ (by omega) (by omega)).mono ?_
            rintro e w1 ⟨rfl, hb1⟩
            by_cases hi : Lib.itoa ((N : Int)) = L
            · have hq : (Lib.itoa ((N : Int)) == S0.toList) = true := by rw [ByteArray.toList_eq, HS0.out, hi]; exact beq_self_eq_true L
              have HP := Lib.hid (readW_yes (most := most) (l := L) (by rw [HSV.out]; exact hi) (by rw [HT.out]; exact hall.out) (by rw [HT.out]; omega))
              clear hi
              go_wp2
              go_ret2
              exact retNB (by rw [HP.out, HSV.out]) hb1
            · have hq : (Lib.itoa ((N : Int)) == S0.toList) = false := by rw [ByteArray.toList_eq, HS0.out]; simpa using hi
              have HP := Lib.hid (readW_no (k := ((10 ^ most : Nat) : Int) - 1) (l := L) (by rw [HSV.out]; exact hi))
              clear hi
              go_wp2
              go_ret2
              exact retNB HP.out hb1

end Go.Proofs.YtpfklkmmhdpphadGreatDoor
