/- Texts joined: StrFns3 StrFns4 StrFns5 SplitB FnSp FnNum VecDraw VecDraw2. -/
import Derived.Test.YthdonnkekggbbaaGreatDoorJnNum2

/- Contracts: the reference's FormatInt. Conditions: the number is an int. -/
namespace Go.Proofs.YthdonnkekggbbaaGreatDoor
open Go.RowKit
set_option linter.unusedVariables false
set_option linter.unusedSimpArgs false
set_option maxRecDepth 100000

theorem fmtStep {u0 u : Nat} {l l' : List UInt8} (h : Lib.decDigits u0 = digs u ++ l) (h0 : u ≠ 0) (x : Int) (hx : x = 48 + (u % 10 : Nat)) (hl : l' = byteD x :: l) : Lib.decDigits u0 = digs (u / 10) ++ l' := by
  rw [h, digs_step h0, List.append_assoc, hl, byteD]
  have : x.toNat = 48 + u % 10 := by omega
  rw [this]; rfl

set_option maxHeartbeats 400000 in
theorem specFormat_any (n : Int) (w : World) (h0 : -9223372036854775808 ≤ n) (h1 : n ≤ 9223372036854775807) :
    Calls Tryz.prog 93 #[.int .i64 n] w (NewText w (Lib.itoa n)) := by
  by_cases hn : n = 0
  · subst hn
    go_enter Tryz.func93, Tryz.ntmps93
    go_wp2
    go_ret
    exact ⟨ret_str (a := [48]) (by rw [itoa_pos (n := 0) (by omega)]; exact (decDigits_small (u := 0) (by omega)).symm), Below.refl _ _⟩
  · have hne : (n == 0) = false := by simpa using hn
    have hd : Lib.decDigits n.natAbs = digs n.natAbs ++ [] := by rw [digs, if_neg (by omega)]; simp
    have Hd := Lib.hid hd
    have Hn := Lib.hid hn
    clear hd hn
    by_cases hs : n < 0
    all_goals
      go_enter Tryz.func93, Tryz.ntmps93
      go_wp2
      go_loopw [0, 4] (fun a s wr => ∃ (m : Int) (l : List UInt8), a = .int .i64 m ∧ s = .string ⟨l.toArray⟩ ∧ -9223372036854775808 ≤ m ∧ m ≤ 9223372036854775807 ∧ Hid (Lib.decDigits n.natAbs = digs m.natAbs ++ l) ∧ Below w.heap.size w wr) (fun a _ _ => (intOf a).natAbs)
      case atStart => exact ⟨n, [], rfl, rfl, h0, h1, Hd, Below.refl _ _⟩
      case round =>
        obtain ⟨m, l, rfl, rfl, hm0, hm1, Hm, hb⟩ := hrel
        have hll : l.length ≤ 20 := by
          have := congrArg List.length Hm.out
          rw [List.length_append, decDigits_len] at this
          have h2 := Lib.nDigits_le20 n.natAbs (by omega)
          omega
        by_cases hm : m = 0
        · subst hm
          have he : Hid (Lib.decDigits n.natAbs = l) := Lib.hid (by have := Hm.out; rwa [show (0 : Int).natAbs = 0 from rfl, digs, if_pos rfl, List.nil_append] at this)
          obtain ⟨l', hl'⟩ : ∃ l', l' = [45] ++ l := ⟨_, rfl⟩
          have hadd : ∀ W, (Op.stringOp .add ⟨#[45]⟩ ⟨l.toArray⟩).run Tryz.prog W = .ok (.string ⟨l'.toArray⟩) W := fun W => by rw [hl']; exact addS [45] l (show 1 + l.length ≤ _ by omega) W
          have Hl' := Lib.hid hl'
          clear hl'
          go_wp2
          go_ret
          first
            | exact ⟨ret_str (by rw [Hl'.out, itoa_neg (n := n) (by omega), he.out]; rfl), hb⟩
            | exact ⟨ret_str (by rw [itoa_pos (n := n) (by omega), ← he.out]; congr 1; omega), hb⟩
        · have hmne : (m != 0) = true := by simpa using hm
          have hdiv : (m.tdiv 10).natAbs = m.natAbs / 10 := by rw [Int.natAbs_tdiv]; rfl
          have hmod : (m.tmod 10).natAbs = m.natAbs % 10 := by rw [Int.natAbs_tmod]; rfl
          have Hdiv := Lib.hid hdiv
          have Hmn : Hid (m.natAbs ≠ 0) := Lib.hid (by omega)
          by_cases hr : m.tmod 10 < 0
          · have hx : (48 + -(m.tmod 10)) = 48 + (m.natAbs % 10 : Nat) := by omega
            have hxl : 0 ≤ -(m.tmod 10) ∧ -(m.tmod 10) ≤ 9 := by omega
            obtain ⟨x1, x2⟩ := hxl
            obtain ⟨l', hl'⟩ : ∃ l', l' = byteD (48 + -(m.tmod 10)) :: l := ⟨_, rfl⟩
            have hst := Lib.hid (fmtStep Hm.out Hmn.out _ hx hl')
            have hcv := conv1 (48 + -(m.tmod 10)) (by omega) (by omega) wr
            have hadd := addB (48 + -(m.tmod 10)) l l' hl' (by omega)
            clear hl' hdiv hmod hx hm
            go_wp2
            go_roundw
            case rel => exact ⟨m.tdiv 10, _, by go_num, rfl, by have := Hdiv.out; omega, by have := Hdiv.out; omega, by rw [Hdiv.out]; exact hst, hb.alloc hb.size _⟩
            case measure => simp only [intOf]; have := Hdiv.out; have := Hmn.out; omega
          · have hx : (48 + m.tmod 10) = 48 + (m.natAbs % 10 : Nat) := by omega
            have hxl : 0 ≤ m.tmod 10 ∧ m.tmod 10 ≤ 9 := by omega
            obtain ⟨x1, x2⟩ := hxl
            obtain ⟨l', hl'⟩ : ∃ l', l' = byteD (48 + m.tmod 10) :: l := ⟨_, rfl⟩
            have hst := Lib.hid (fmtStep Hm.out Hmn.out _ hx hl')
            have hcv := conv1 (48 + m.tmod 10) (by omega) (by omega) wr
            have hadd := addB (48 + m.tmod 10) l l' hl' (by omega)
            clear hl' hdiv hmod hx hm
            go_wp2
            go_roundw
            case rel => exact ⟨m.tdiv 10, _, by go_num, rfl, by have := Hdiv.out; omega, by have := Hdiv.out; omega, by rw [Hdiv.out]; exact hst, hb.alloc hb.size _⟩
            case measure => simp only [intOf]; have := Hdiv.out; have := Hmn.out; omega

end Go.Proofs.YthdonnkekggbbaaGreatDoor

/- Contracts: the reference's reader of numbers. Conditions: sizes. -/
namespace Go.Proofs.YthdonnkekggbbaaGreatDoor
open Go.RowKit
set_option linter.unusedVariables false
set_option linter.unusedSimpArgs false
set_option maxRecDepth 100000

theorem take_byte {S : ByteArray} {l : List UInt8} {k : Nat} (hl : S.data.toList = l) (h : k < S.size) : l.take (k + 1) = l.take k ++ [S[k]] := by
  subst hl
  rw [List.take_succ_eq_append_getElem (by simpa using h)]; rfl
theorem dvf_snoc (l : List UInt8) (c : UInt8) (a : Nat) : dvf a (l ++ [c]) = dvf a l * 10 + dgv c := by rw [dvf_append, dvf_cons, dvf_nil]
theorem dvf_small {l : List UInt8} {k : Nat} (hd : ∀ c ∈ l, isDig c) (hk : l.length ≤ k) : dvf 0 l < 10 ^ k := by
  have h1 := dvf_lt l 0 hd
  have h2 : 10 ^ l.length ≤ 10 ^ k := Nat.pow_le_pow_right (by omega) hk
  omega

theorem numBound {l : List UInt8} {m : Nat} (hd : ∀ c ∈ l, isDig c) (hk : l.length ≤ 11) : ((dvf 0 l : Nat) : Int) ≤ 99999999999 := by
  have := dvf_small hd hk
  omega
theorem numBound12 {l : List UInt8} (hd : ∀ c ∈ l, isDig c) (hk : l.length ≤ 12) : ((dvf 0 l : Nat) : Int) ≤ 999999999999 := by
  have := dvf_small hd hk
  omega

set_option maxHeartbeats 1000000 in
theorem specRead_any (S0 : ByteArray) (l : List UInt8) (most : Nat) (w : World) (hS0 : S0.data.toList = l) (hl : l.length ≤ 1048576) (hm1 : 1 ≤ most) (hm2 : most ≤ 12) :
    Calls Tryz.prog 108 #[.string S0, .int .i64 most] w (RetNB w (parseW ((10 ^ most : Nat) - 1) l)) := by
  have hsz : S0.size = l.length := by rw [← hS0]; rw [Array.length_toList]; rfl
  have hsz1 : S0.size ≤ 1048576 := by omega
  have HS0 := Lib.hid hS0
  cases l with
  | nil =>
    have hs0 : S0.size = 0 := by simpa using hsz
    have HP := Lib.hid (readW_len (most := most) (l := []) hm1 (.inl (by simp [tW])))
    go_enter Tryz.func108, Tryz.ntmps108
    go_wp2
    go_ret2
    exact retNB HP.out (Below.refl _ _)
  | cons c r =>
    have hsp : 0 < S0.size := by rw [hsz]; simp
    have hc0 : S0[0] = c := by
      have : S0.data.toList[0]? = some c := by rw [hS0]; rfl
      rw [List.getElem?_eq_getElem (by rw [Array.length_toList]; exact hsp)] at this
      injection this
    have hrl : S0.size = r.length + 1 := by rw [hsz]; rfl
    obtain ⟨L, hL⟩ : ∃ L, L = c :: r := ⟨_, rfl⟩
    rw [← hL] at HS0 hl ⊢
    -- the text behind the sign
    by_cases hc : c = 45
    · have hcb : (S0[0].toNat : Int) = 45 := by rw [hc0, hc]; rfl
      have hT : tW L = r := by rw [hL, tW, if_pos (by rw [hc]; rfl)]; rfl
      have hsv : sval L = -(dvf 0 r : Int) := by rw [hL, sval, if_pos (by rw [hc]; rfl)]; rfl
      have HSV := Lib.hid hsv
      have HT := Lib.hid hT
      have hext : (S0.extract 1 S0.size).data.toList = r := by
        rw [Lib.extract_to_end, hS0]; rfl
      have hexs : (S0.extract 1 S0.size).size = r.length := by rw [← hext, Array.length_toList]; rfl
      have Hext := Lib.hid hext
      have Hexs := Lib.hid hexs
      clear hT hS0 hsz hc0 hext hexs hsv hL
      by_cases hlen : r.length < 1 ∨ most < r.length
      · have HP := Lib.hid (readW_len (most := most) (l := L) hm1 (by rw [HT.out]; exact hlen))
        rcases hlen with hlen | hlen
        all_goals
          have h1 : S0.size - 1 < 1 ∨ most < S0.size - 1 := by omega
          go_enter Tryz.func108, Tryz.ntmps108
          go_wp2
          all_goals first | (go_ret2; exact retNB HP.out (Below.refl _ _)) | (exfalso; omega)
      · have h1 : 1 ≤ S0.size - 1 := by omega
        have h2 : ¬ most < S0.size - 1 := by omega
        have h1' : (1 : Int) ≤ ((S0.size - 1 : Nat) : Int) := by omega
        have HRL := Lib.hid hrl
        clear hrl
        go_enter Tryz.func108, Tryz.ntmps108
        go_wp2
        generalize hS : S0.extract 1 S0.size = S at *
        have HS := Lib.hid Hext.out
        have hSl : S.size = r.length := Hexs.out
        have HSl := Lib.hid hSl
        have hrl := HRL.out
        have hS12 : S.size ≤ 12 := by omega
        have hS1 : 1 ≤ S.size := by omega
        have hTl : r.length ≤ 12 := by omega
        have hTS : r.length ≤ S.size := by omega
        have hSm : r.length ≤ most := by omega
        clear hS hSl Hexs Hext hrl HRL hc
        generalize hrT : r = T at *
        clear hrT
        go_loop [8, 9] (fun a i => ∃ k : Nat, k ≤ S.size ∧ i = .int .i64 k ∧ a = .int .i64 ((dvf 0 (T.take k) : Nat) : Int) ∧ Hid (∀ c ∈ T.take k, isDig c)) (fun _ i => S.size - (intOf i).toNat)
        case atStart => exact ⟨0, Nat.zero_le _, rfl, rfl, Lib.hid (by intro c hc; simp at hc)⟩
        case round =>
          obtain ⟨k, hk, rfl, rfl, hall⟩ := hrel
          by_cases hlt : k < S.size
          · have htk := take_byte HS.out hlt
            have hkl : (T.take k).length ≤ 11 := by rw [List.length_take]; omega
            have hnb := numBound (m := 11) hall.out hkl
            by_cases hd : isDig S[k]
            · have hd' := hd
              unfold isDig at hd'
              obtain ⟨hd1, hd2⟩ := hd'
              have hd3 : (48 : Int) ≤ (S[k].toNat : Int) := by omega
              have hd4 : (S[k].toNat : Int) ≤ 57 := by omega
              have hnx : ((dvf 0 (T.take (k + 1)) : Nat) : Int) = 10 * ((dvf 0 (T.take k) : Nat) : Int) + ((S[k].toNat : Int) - 48) := by
                rw [htk, dvf_snoc, dgv]; omega
              have Hnx := Lib.hid hnx
              have HA : Hid (∀ c ∈ T.take (k + 1), isDig c) := Lib.hid (by
                rw [htk]; intro c hc
                rcases List.mem_append.1 hc with hc | hc
                · exact hall.out c hc
                · rw [List.mem_singleton] at hc; rw [hc]; exact hd)
              clear hnx htk hd
              generalize dvf 0 (T.take k) = N at *
              go_wp2
              go_round
              case rel => exact ⟨k + 1, by omega, by go_num, by rw [Hnx.out], HA⟩
              case measure => simp [intOf]; omega
            · have HP := Lib.hid (readW_bad (k := ((10 ^ most : Nat) : Int) - 1) (l := L) ⟨S[k], by
                rw [HT.out]
                have : S[k] ∈ T.take (k + 1) := by rw [htk]; simp
                exact List.mem_of_mem_take this, hd⟩)
              have hd' : (S[k].toNat : Int) < 48 ∨ 57 < (S[k].toNat : Int) := by unfold isDig at hd; omega
              clear htk hd
              generalize dvf 0 (T.take k) = N at *
              rcases hd' with hd' | hd'
              · go_wp2
                go_ret2
                exact retNB HP.out (Below.refl _ _)
              · have hd5 : ¬ (S[k].toNat : Int) < 48 := by omega
                go_wp2
                go_ret2
                exact retNB HP.out (Below.refl _ _)
          · obtain rfl : k = S.size := by omega
            rw [List.take_of_length_le (by omega)] at hall ⊢
            have hnb := numBound12 hall.out (by omega)
            have HSVk := HSV
            generalize dvf 0 T = N at *
            go_wp2_with fail
            refine (specFormat_any _ _ (by omega) (by omega)).mono ?_
            rintro e w1 ⟨rfl, hb1⟩
            by_cases hi : Lib.itoa (-(N : Int)) = L
            · have hq : (Lib.itoa (-(N : Int)) == S0.toList) = true := by rw [ByteArray.toList_eq, HS0.out, hi]; exact beq_self_eq_true L
              have HP := Lib.hid (readW_yes (most := most) (l := L) (by rw [HSV.out]; exact hi) (by rw [HT.out]; exact hall.out) (by rw [HT.out]; omega))
              clear hi
              go_wp2
              go_ret2
              exact retNB (by rw [HP.out, HSV.out]) hb1
            · have hq : (Lib.itoa (-(N : Int)) == S0.toList) = false := by rw [ByteArray.toList_eq, HS0.out]; simpa using hi
              have HP := Lib.hid (readW_no (k := ((10 ^ most : Nat) : Int) - 1) (l := L) (by rw [HSV.out]; exact hi))
              clear hi
              go_wp2
              go_ret2
              exact retNB HP.out hb1
    · have hcb : ((S0[0].toNat : Int) == 45) = false := by
        rw [hc0]
        have : c.toNat ≠ 45 := fun e => hc (UInt8.toNat_inj.1 (by rw [e]; rfl))
        simp; omega
      have hT : tW L = L := by rw [hL, tW, if_neg (by simpa using hc)]
      have hsv : sval L = (dvf 0 L : Int) := by rw [hL, sval, if_neg (by simpa using hc)]
      have HSV := Lib.hid hsv
      have HT := Lib.hid hT
      have hLl : S0.size = L.length := by rw [hsz, hL]
      clear hT hS0 hsz hc0 hsv hL hrl
      by_cases hlen : most < L.length
      · have HP := Lib.hid (readW_len (most := most) (l := L) hm1 (by rw [HT.out]; exact .inr hlen))
        have h1 : most < S0.size := by omega
        clear hLl
        go_enter Tryz.func108, Tryz.ntmps108
        go_wp2
        all_goals first | (go_ret2; exact retNB HP.out (Below.refl _ _)) | (exfalso; omega)
      · have h1 : 1 ≤ S0.size := by omega
        have h2 : ¬ most < S0.size := by omega
        have h1' : (1 : Int) ≤ ((S0.size : Nat) : Int) := by omega
        have hS12 : S0.size ≤ 12 := by omega
        have hTl : L.length ≤ 12 := by omega
        have hTS : L.length ≤ S0.size := by omega
        have hSm : L.length ≤ most := by omega
        clear hLl hc
        go_enter Tryz.func108, Tryz.ntmps108
        go_wp2
        go_loop [8, 9] (fun a i => ∃ k : Nat, k ≤ S0.size ∧ i = .int .i64 k ∧ a = .int .i64 ((dvf 0 (L.take k) : Nat) : Int) ∧ Hid (∀ c ∈ L.take k, isDig c)) (fun _ i => S0.size - (intOf i).toNat)
        case atStart => exact ⟨0, Nat.zero_le _, rfl, rfl, Lib.hid (by intro c hc; simp at hc)⟩
        case round =>
          obtain ⟨k, hk, rfl, rfl, hall⟩ := hrel
          by_cases hlt : k < S0.size
          · have htk := take_byte HS0.out hlt
            have hkl : (L.take k).length ≤ 11 := by rw [List.length_take]; omega
            have hnb := numBound (m := 11) hall.out hkl
            by_cases hd : isDig S0[k]
            · have hd' := hd
              unfold isDig at hd'
              obtain ⟨hd1, hd2⟩ := hd'
              have hd3 : (48 : Int) ≤ (S0[k].toNat : Int) := by omega
              have hd4 : (S0[k].toNat : Int) ≤ 57 := by omega
              have hnx : ((dvf 0 (L.take (k + 1)) : Nat) : Int) = 10 * ((dvf 0 (L.take k) : Nat) : Int) + ((S0[k].toNat : Int) - 48) := by
                rw [htk, dvf_snoc, dgv]; omega
              have Hnx := Lib.hid hnx
              have HA : Hid (∀ c ∈ L.take (k + 1), isDig c) := Lib.hid (by
                rw [htk]; intro c hc
                rcases List.mem_append.1 hc with hc | hc
                · exact hall.out c hc
                · rw [List.mem_singleton] at hc; rw [hc]; exact hd)
              clear hnx htk hd
              generalize dvf 0 (L.take k) = N at *
              go_wp2
              go_round
              case rel => exact ⟨k + 1, by omega, by go_num, by rw [Hnx.out], HA⟩
              case measure => simp [intOf]; omega
            · have HP := Lib.hid (readW_bad (k := ((10 ^ most : Nat) : Int) - 1) (l := L) ⟨S0[k], by
                rw [HT.out]
                have : S0[k] ∈ L.take (k + 1) := by rw [htk]; simp
                exact List.mem_of_mem_take this, hd⟩)
              have hd' : (S0[k].toNat : Int) < 48 ∨ 57 < (S0[k].toNat : Int) := by unfold isDig at hd; omega
              clear htk hd
              generalize dvf 0 (L.take k) = N at *
              rcases hd' with hd' | hd'
              · go_wp2
                go_ret2
                exact retNB HP.out (Below.refl _ _)
              · have hd5 : ¬ (S0[k].toNat : Int) < 48 := by omega
                go_wp2
                go_ret2
                exact retNB HP.out (Below.refl _ _)
          · obtain rfl : k = S0.size := by omega
            rw [List.take_of_length_le (by omega)] at hall ⊢
            have hnb := numBound12 hall.out (by omega)
            have HSVk := HSV
            generalize dvf 0 L = N at *
            go_wp2_with fail
            refine (specFormat_any _ _ (by omega) (by omega)).mono ?_
            rintro e w1 ⟨rfl, hb1⟩
            by_cases hi : Lib.itoa ((N : Int)) = L
            · have hq : (Lib.itoa ((N : Int)) == S0.toList) = true := by rw [ByteArray.toList_eq, HS0.out, hi]; exact beq_self_eq_true L
              have HP := Lib.hid (readW_yes (most := most) (l := L) (by rw [HSV.out]; exact hi) (by rw [HT.out]; exact hall.out) (by rw [HT.out]; omega))
              clear hi
              go_wp2
              go_ret2
              exact retNB (by rw [HP.out, HSV.out]) hb1
            · have hq : (Lib.itoa ((N : Int)) == S0.toList) = false := by rw [ByteArray.toList_eq, HS0.out]; simpa using hi
              have HP := Lib.hid (readW_no (k := ((10 ^ most : Nat) : Int) - 1) (l := L) (by rw [HSV.out]; exact hi))
              clear hi
              go_wp2
              go_ret2
              exact retNB HP.out hb1

end Go.Proofs.YthdonnkekggbbaaGreatDoor

/- Contracts: both parsers of numbers, both of numbers that are not negative. Conditions: sizes; the library's variables. -/
namespace Go.Proofs.YthdonnkekggbbaaGreatDoor
open Go.RowKit
set_option linter.unusedVariables false
set_option linter.unusedSimpArgs false
set_option maxRecDepth 100000

theorem mkdl (l : List UInt8) : (⟨l.toArray⟩ : ByteArray).data.toList = l := by simp
theorem specParseInt_any (l : List UInt8) (w : World) (hl : l.length ≤ 1048576) :
    Calls Tryz.prog 84 #[.string ⟨l.toArray⟩] w (RetNB w (parseW 999999999999 l)) := by
  have con := Lib.hid (specRead_any ⟨l.toArray⟩ l 12 w (mkdl l) hl (by omega) (by omega))
  go_enter Tryz.func84, Tryz.ntmps84
  go_wp2_with fail
  refine con.out.mono ?_
  rintro e w1 ⟨rfl, hb⟩
  go_wp2_with fail
  go_ret2
  exact ⟨rfl, hb⟩

end Go.Proofs.YthdonnkekggbbaaGreatDoor

/- Contracts of both functions that cut a text at a byte. Conditions: sizes; the library's variable. -/
namespace Go.Proofs.YthdonnkekggbbaaGreatDoor
open Go.RowKit
set_option linter.unusedVariables false
set_option linter.unusedSimpArgs false
set_option maxRecDepth 100000

theorem splitB_texts (s : ByteArray) (c : UInt8) : (Lib.splitB ⟨#[c]⟩ 0 (Lib.countB s ⟨#[c]⟩) s).map Value.string = (splitW c s.data.toList).map strV := by
  rw [← split_eq]
  have h := Lib.splitB_data ⟨#[c]⟩ 0 (Lib.countB s ⟨#[c]⟩) s
  have e1 : (⟨#[c]⟩ : ByteArray).data.toList = [c] := rfl
  have e2 : Lib.countB s ⟨#[c]⟩ = Lib.count s.data.toList [c] := rfl
  rw [e1] at h
  rw [← e2, ← h, List.map_map]
  refine List.map_congr_left fun a _ => ?_
  simp only [Function.comp, strV, mk_eta]
theorem splitB_count (s : ByteArray) (c : UInt8) : Lib.countB s ⟨#[c]⟩ + 1 = (splitW c s.data.toList).length := by
  have h1 := Lib.splitB_all ⟨#[c]⟩ (Nat.le_refl 1) 0 _ s rfl
  have h2 := congrArg List.length (splitB_texts s c)
  rw [List.length_map, List.length_map, h1] at h2
  exact h2
theorem madeTexts (w : World) (ss : List (List UInt8)) (h : ss.length ≤ maxLen) : OwnS (w.alloc (.cells (ss.map strV).toArray 9)) w.heap.size (w.heap.size + 1) (some ⟨w.heap.size, 0, none⟩) ss.length ss.length ss :=
  ⟨⟨by simp, .inr ⟨w.heap.size, ss.length, (ss.map strV).toArray, rfl, Nat.le_refl _, heap_alloc_new w _, Nat.le_refl _, h, by simp, by rw [Nat.mul_one]; exact List.take_of_length_le (by simp)⟩⟩, fun a ha => by injection ha with ha; subst ha; exact Nat.lt_succ_self _⟩

/-- What has been made new: the pieces of a text. -/
def NewPieces (w : World) (ss : List (List UInt8)) (e : Ending) (w' : World) : Prop :=
  ∃ p n c, e = .returned (.slice p n c) ∧ OwnS w' w.heap.size w'.heap.size p n c ss ∧ Below w.heap.size w w'

theorem implSplit_any (l : List UInt8) (z : Int) (w : World) (hl : l.length ≤ 1048576) (z0 : 0 ≤ z) (z1 : z ≤ 255) (hm : MaxW w) :
    Calls Tryz.prog 49 #[.string ⟨l.toArray⟩, .int .u8 z] w (NewPieces w (splitW (byteD z) l)) := by
  have hsz : (⟨l.toArray⟩ : ByteArray).size = l.length := by simp [ByteArray.size]
  have hcv := conv1 z z0 z1 w
  have hb0 := boxed w (.cells #[.int .u8 z] 5)
  have hsW := sizeNew (Below.refl _ w) (.cells #[.int .u8 z] 5)
  obtain ⟨m, hmm⟩ := hm.below hb0
  have hlen := splitA_length (byteD z) l []
  have con := Tryz.strings_Split ⟨l.toArray⟩ ⟨#[byteD z]⟩ m (w.alloc (.cells #[.int .u8 z] 5)) (by rw [hsz]; omega) hmm (Nat.le_refl 1)
  rw [splitB_texts, splitB_count, show (⟨l.toArray⟩ : ByteArray).data.toList = l by simp] at con
  have Con := Lib.hid con
  clear con hmm hsz
  go_enter Tryz.func49, Tryz.ntmps49
  go_wp2_with fail
  refine Con.out.mono ?_
  rintro e w1 ⟨rfl, rfl⟩
  generalize w.alloc (.cells #[.int .u8 z] 5) = W at *
  have ho := madeTexts W (splitW (byteD z) l) (by unfold maxLen splitW; omega)
  have hb1 := boxed W (.cells ((splitW (byteD z) l).map strV).toArray 9)
  have hT := Below.step hb0 hb1
  generalize splitW (byteD z) l = ss at *
  generalize W.alloc (.cells (ss.map strV).toArray 9) = V at *
  go_wp2_with fail
  go_ret
  exact ⟨_, _, _, rfl, OwnS.widen (OwnV.up ho) hsW (Nat.le_refl _), hT⟩

def SplitInv (c : UInt8) (l : List UInt8) (out : List (List UInt8)) (f k : Nat) : Prop :=
  if k ≤ l.length then f ≤ k ∧ splitW c l = out ++ splitA c ((l.take k).drop f) (l.drop k) else splitW c l = out
theorem SplitInv.cut {c : UInt8} {l : List UInt8} {out : List (List UInt8)} {f k : Nat} (h : SplitInv c l out f k) (hk : k < l.length) (hb : l[k] = c) : SplitInv c l (out ++ [(l.take k).drop f]) (k + 1) (k + 1) := by
  unfold SplitInv at h ⊢
  rw [if_pos (by omega)] at h ⊢
  refine ⟨Nat.le_refl _, ?_⟩
  rw [h.2, List.drop_eq_getElem_cons hk, splitA, if_pos hb, List.append_assoc]
  congr 1
  simp
theorem SplitInv.last {c : UInt8} {l : List UInt8} {out : List (List UInt8)} {f : Nat} (h : SplitInv c l out f l.length) : SplitInv c l (out ++ [(l.take l.length).drop f]) (l.length + 1) (l.length + 1) := by
  unfold SplitInv at h ⊢
  rw [if_pos (Nat.le_refl _)] at h
  rw [if_neg (by omega), h.2, List.drop_length]
  rfl
theorem SplitInv.on {c : UInt8} {l : List UInt8} {out : List (List UInt8)} {f k : Nat} (h : SplitInv c l out f k) (hk : k < l.length) (hb : l[k] ≠ c) : SplitInv c l out f (k + 1) := by
  unfold SplitInv at h ⊢
  rw [if_pos (by omega)] at h ⊢
  refine ⟨by omega, ?_⟩
  rw [h.2, List.drop_eq_getElem_cons hk, splitA, if_neg hb]
  congr 2
  rw [List.take_succ_eq_append_getElem hk, List.drop_append_of_le_length (by rw [List.length_take]; omega)]
theorem SplitInv.le {c : UInt8} {l : List UInt8} {out : List (List UInt8)} {f k : Nat} (h : SplitInv c l out f k) (hk : k ≤ l.length) : f ≤ k := by
  unfold SplitInv at h
  rw [if_pos hk] at h
  exact h.1
theorem SplitInv.done {c : UInt8} {l : List UInt8} {out : List (List UInt8)} {f k : Nat} (h : SplitInv c l out f k) (hk : l.length < k) : splitW c l = out := by
  unfold SplitInv at h
  rwa [if_neg (by omega)] at h

set_option maxHeartbeats 1000000 in
theorem specSplit_any (S : ByteArray) (l : List UInt8) (z : Int) (w : World) (hS : S.data.toList = l) (hl : l.length ≤ 1048576) (z0 : 0 ≤ z) (z1 : z ≤ 255) :
    Calls Tryz.prog 51 #[.string S, .int .u8 z] w (NewPieces w (splitW (byteD z) l)) := by
  have HS := Lib.hid hS
  have hsz : S.size = l.length := by rw [← hS, Array.length_toList]; rfl
  have HSZ := Lib.hid hsz
  have hs1 : S.size ≤ 1048576 := by omega
  clear hS hsz hl
  go_enter Tryz.func51, Tryz.ntmps51
  go_wp2
  go_loopw [5, 6, 7] (fun v f i wr => ∃ (k : Nat) (t : Nat) (p' : Option Addr) (n' c' : Nat) (out : List (List UInt8)), k ≤ S.size + 1 ∧ i = .int .i64 k ∧ f = .int .i64 t ∧ v = .slice p' n' c' ∧ n' ≤ k ∧ OwnS wr w.heap.size wr.heap.size p' n' c' out ∧ Hid (SplitInv (byteD z) l out t k) ∧ Below w.heap.size w wr) (fun _ _ i _ => S.size + 1 - (intOf i).toNat)
  case atStart => exact ⟨0, 0, _, _, _, [], by omega, rfl, rfl, rfl, Nat.le_refl _, OwnV.up (OwnV.emptyV w _), Lib.hid (by unfold SplitInv; rw [if_pos (Nat.zero_le _)]; exact ⟨Nat.le_refl _, rfl⟩), (Below.refl _ _).alloc (Nat.le_refl _) _⟩
  case round =>
    obtain ⟨k, t, p', n', c', out, hk, rfl, rfl, rfl, hn', hown, hinv, hb⟩ := hrel
    by_cases hlt : k < S.size
    · have hkl : k < l.length := by rw [← HSZ.out]; exact hlt
      have htk := hinv.out.le (Nat.le_of_lt hkl)
      have hb1 : l[k] = S[k] := by
        have := HS.out; subst this; rfl
      have Hb1 := Lib.hid hb1
      have hne : ((k : Int) == (S.size : Int)) = false := by simp; omega
      clear hb1
      by_cases hc : (S[k].toNat : Int) = z
      · have hcb : l[k] = byteD z := by rw [Hb1.out, byteD, ← hc]; simp
        have hinv2 := Lib.hid (hinv.out.cut hkl hcb)
        have hpc : (S.extract t k).data.toList = (l.take k).drop t := by rw [Lib.extract_data, HS.out, List.drop_take]
        have Hpc := Lib.hid hpc
        clear hcb hpc
        have hcq : ((S[k].toNat : Int) == z) = true := by simpa using hc
        clear hc
        go_wp2_with (at_builtin; refine append_str rfl _ _ rfl _ w.heap.size _ _ _ _ _ rfl (OwnV.alloc hown _) wr.heap.size (S.extract t k).data.toList rfl ((cellNew _ _ _).trans (by rw [mk_eta])) (by omega) (sizeNew hb _) ?_; intro p2 c2 w2 hown2 hg2)
        have hb2 := hg2.below (sizeNew hb _) fun a ha => (OwnV.lt hown a ha).1
        go_roundw
        case rel =>
          rw [Hpc.out] at hown2
          exact ⟨k + 1, k + 1, _, _, _, _, by omega, by go_num, by go_num, rfl, by omega, hown2, hinv2, Below.new hb _ hb2⟩
        case measure => simp [intOf]; omega
      · have hcb : l[k] ≠ byteD z := fun e => hc (by
          rw [Hb1.out] at e
          rw [e, byteD]; simp; omega)
        have hinv2 := Lib.hid (hinv.out.on hkl hcb)
        clear hcb
        have hcq : ((S[k].toNat : Int) == z) = false := by simpa using hc
        clear hc
        go_wp2
        go_roundw
        case rel => exact ⟨k + 1, t, _, _, _, _, by omega, by go_num, rfl, rfl, by omega, hown, hinv2, hb⟩
        case measure => simp [intOf]; omega
    · by_cases heq : k = S.size
      · have hke : k = l.length := by rw [← HSZ.out]; exact heq
        have htk := hinv.out.le (by omega)
        have hinv2 : Hid (SplitInv (byteD z) l (out ++ [(l.take k).drop t]) (k + 1) (k + 1)) := Lib.hid (by rw [hke]; exact SplitInv.last (by rw [← hke]; exact hinv.out))
        have hpc : (S.extract t k).data.toList = (l.take k).drop t := by rw [Lib.extract_data, HS.out, List.drop_take]
        have Hpc := Lib.hid hpc
        have hqe : ((k : Int) == (S.size : Int)) = true := by simp; omega
        have hkS : k ≤ S.size := by omega
        clear hpc heq hke
        go_wp2_with (at_builtin; refine append_str rfl _ _ rfl _ w.heap.size _ _ _ _ _ rfl (OwnV.alloc hown _) wr.heap.size (S.extract t k).data.toList rfl ((cellNew _ _ _).trans (by rw [mk_eta])) (by omega) (sizeNew hb _) ?_; intro p2 c2 w2 hown2 hg2)
        have hb2 := hg2.below (sizeNew hb _) fun a ha => (OwnV.lt hown a ha).1
        go_roundw
        case rel =>
          rw [Hpc.out] at hown2
          exact ⟨k + 1, k + 1, _, _, _, _, by omega, by go_num, by go_num, rfl, by omega, hown2, hinv2, Below.new hb _ hb2⟩
        case measure => simp [intOf]; omega
      · have hd := hinv.out.done (by rw [← HSZ.out]; omega)
        have Hd := Lib.hid hd
        clear hd
        go_wp2
        go_ret
        exact ⟨_, _, _, rfl, by rw [Hd.out]; exact hown, hb⟩

end Go.Proofs.YthdonnkekggbbaaGreatDoor

/- The law FnSplit: the walk: for every input it returns true and writes nothing that was there. Conditions: the library's variable. -/
namespace Go.Proofs.YthdonnkekggbbaaGreatDoor
open Go.RowKit
set_option linter.unusedVariables false
set_option linter.unusedSimpArgs false
set_option maxRecDepth 100000

theorem cellsNew (w : World) (vs : Array Value) (E : TypeId) (k : Nat) : (w.alloc (.cells vs E)).cell? ⟨w.heap.size, k, none⟩ = vs[k]? := by simp [World.cell?_alloc_new]
theorem big_any (p : Option Addr) (n c : Nat) (w : World) : Calls Tryz.prog 4 #[.slice p n c] w fun e w' => e = .returned (.bool (decide (1048576 < n))) ∧ w = w' := by
  go_enter Tryz.func4, Tryz.ntmps4
  go_wp2
  go_ret
  exact ⟨ret_bool (by simp; omega), rfl⟩

def spTexts : List (List UInt8) := [[], [97], [97, 44, 98], [44], [97, 44, 44, 98, 44], [97, 10, 98, 10]]
theorem split_join (c : UInt8) (l : List UInt8) : Lib.join (splitW c l) [c] = l := by
  have := splitA_join c l []
  simpa [Lib.join, splitW] using this
theorem split_once {c : UInt8} {l : List UInt8} {k : Nat} (h : k < (splitW c l).length) : splitW c (nthS (splitW c l) k) = [nthS (splitW c l) k] := by
  have hm : nthS (splitW c l) k ∈ splitW c l := by rw [nthS_eq h]; exact List.getElem_mem h
  have hf := splitA_free c l [] (by simp) _ hm
  have := splitA_one c (nthS (splitW c l) k) [] hf
  simpa [splitW] using this
theorem split_small {c : UInt8} {l : List UInt8} (h : l.length ≤ 5) : totS (splitW c l) ≤ 33554432 ∧ (splitW c l).length ≤ 6 ∧ ∀ k, k < (splitW c l).length → (nthS (splitW c l) k).length ≤ 5 := by
  have h1 := splitA_length c l []
  have h2 : (splitW c l).length ≤ 6 := by unfold splitW; omega
  have h3 : ∀ x ∈ splitW c l, x.length ≤ 5 := fun x hx => by
    have := splitA_sum c l [] x hx
    simp at this; omega
  have h4 : ∀ ss : List (List UInt8), (∀ x ∈ ss, x.length ≤ 5) → totS ss ≤ 5 * ss.length := by
    intro ss
    induction ss with
    | nil => intro _; simp [totS]
    | cons a r ih =>
      intro h
      have i1 := ih fun x hx => h x (List.mem_cons_of_mem _ hx)
      have i2 := h a (by simp)
      simp only [totS, List.map_cons, List.sum_cons, List.length_cons] at i1 ⊢
      omega
  have h5 := h4 _ h3
  exact ⟨by omega, h2, fun k hk => h3 _ (by rw [nthS_eq hk]; exact List.getElem_mem hk)⟩

end Go.Proofs.YthdonnkekggbbaaGreatDoor

/- The law FnNumbers: the walk: for every input it returns true and writes nothing that was there. Conditions: the library's variables. -/
namespace Go.Proofs.YthdonnkekggbbaaGreatDoor
open Go.RowKit
set_option linter.unusedVariables false
set_option linter.unusedSimpArgs false
set_option maxRecDepth 100000

theorem dig12 (u : Nat) : Lib.nDigits u ≤ 12 ↔ u ≤ 999999999999 := by
  constructor
  · intro h
    have h1 := Lib.lt_pow_nDigits u
    have h2 : 10 ^ Lib.nDigits u ≤ 10 ^ 12 := Nat.pow_le_pow_right (by omega) h
    have h3 : (10 : Nat) ^ 12 = 1000000000000 := by decide
    omega
  · intro h
    exact nDigits_le (k := 11) (by have h3 : (10 : Nat) ^ (11 + 1) = 1000000000000 := by decide
                                   omega)
theorem itoa_fit (n : Int) : (-999999999999 ≤ n ∧ n ≤ 999999999999) ↔ ((Lib.itoa n).length ≤ 12 ∨ (n < 0 ∧ (Lib.itoa n).length ≤ 13)) := by
  by_cases h : n < 0
  · rw [itoa_neg h, List.length_cons, decDigits_len]
    have := dig12 n.natAbs
    omega
  · rw [itoa_pos h, decDigits_len]
    have := dig12 n.toNat
    omega
theorem parse_itoa (n : Int) : parseW 999999999999 (Lib.itoa n) = if -999999999999 ≤ n ∧ n ≤ 999999999999 then (n, true) else (0, false) := by
  by_cases h : -999999999999 ≤ n ∧ n ≤ 999999999999
  · rw [if_pos h]; exact parseW_yes rfl h.1 h.2
  · rw [if_neg h]
    refine parseW_no fun m hm => ?_
    rw [itoa_inj hm]; exact h
theorem numW_fine {t : List UInt8} (h : (numW t).2 = true) : Lib.itoa (numW t).1 = t ∧ 0 ≤ (numW t).1 := by
  unfold numW at h ⊢
  split at h
  · rename_i h1
    rw [if_pos h1]
    exact ⟨(parseW_true h1.1).1, h1.2⟩
  · cases h
theorem numW_in (t : List UInt8) : -9223372036854775808 ≤ (numW t).1 ∧ (numW t).1 ≤ 9223372036854775807 := by
  unfold numW
  split
  · rename_i h1
    have := parseW_true h1.1
    show -9223372036854775808 ≤ (parseW 999999 t).1 ∧ (parseW 999999 t).1 ≤ 9223372036854775807
    omega
  · show -9223372036854775808 ≤ (0 : Int) ∧ (0 : Int) ≤ 9223372036854775807
    omega

theorem Drawn1.new {w w1 : World} {g : Nat} {p : Option Addr} {n c : Nat} {xs : List Int} (h : Cur w g p n c xs) (hb : Below w.heap.size w w1) : Drawn1 w g p n c xs w1 := ⟨h.below hb, Within.of_below hb⟩

def wholeL : List Int := [0, 1, -1, 9, 10, 999999, 1000000, 999999999999, 1000000000000, -999999999999, 9223372036854775807, -9223372036854775808]
def numTexts : List (List UInt8) := [[], [48, 48], [48, 49], [45, 49], [43, 49], [120], [57, 57, 57, 57, 57, 57], [49, 48, 48, 48, 48, 48, 48], [45, 48], [45], [32, 49], [49, 32]]
end Go.Proofs.YthdonnkekggbbaaGreatDoor

/- The reference's draws of vectors. Conditions: sizes. -/
namespace Go.Proofs.YthdonnkekggbbaaGreatDoor
open Go.RowKit
set_option linter.unusedVariables false
set_option linter.unusedSimpArgs false
set_option maxRecDepth 100000

theorem Cur.low {w w' : World} {g B : Nat} {p : Option Addr} {n c : Nat} {xs : List Int} (h : Cur w g p n c xs) (hb : Below B w w') (hg : g < B) : Cur w' g p n c xs := by
  obtain ⟨i, k, h1, h2⟩ := h.box
  refine ⟨⟨i, k, (hb.block g hg).trans h1, h2⟩, ⟨h.bytes.len, fun j hj => ?_⟩, h.far⟩
  obtain ⟨b, o, hp, hc, h0, h3⟩ := h.bytes.cell j hj
  have hf := h.far _ hp (by omega)
  exact ⟨b, o, hp, (hb.cell (show b < B by dsimp only at hf; omega)).trans hc, h0, h3⟩
theorem Within.low {w w1 w2 : World} {lo hi B : Nat} (h : Within lo hi w w1) (k : Below B w1 w2) (hB : w.heap.size ≤ B) : Within lo hi w w2 :=
  ⟨k.os.trans h.os, k.tape.trans h.tape, k.output.trans h.output, Nat.le_trans h.size k.size, fun j hj hd => (k.block j (by omega)).trans (h.block j hj hd)⟩
theorem Drawn1.low {w w1 w2 : World} {g B : Nat} {p : Option Addr} {n c : Nat} {xs : List Int} (h : Drawn1 w g p n c xs w1) (k : Below B w1 w2) (hB : w.heap.size ≤ B) (hg : g < B) : Drawn1 w g p n c xs w2 := ⟨h.1.low k hg, h.2.low k hB⟩

/-- A row of numbers that was drawn. -/
def DrawnRow (w : World) (g : Nat) (p : Option Addr) (n c : Nat) (xs : List Int) (m : Nat) (e : Ending) (w' : World) : Prop :=
  ∃ q d ys, e = .returned (.slice q m d) ∧ Own w' w.heap.size w'.heap.size q m d ys ∧ Drawn1 w g p n c xs w'

set_option maxHeartbeats 1000000 in
theorem l2Draw_any (g : Nat) (p : Option Addr) (n c m : Nat) (xs : List Int) (size : Int) (w : World) (hn : n ≤ 1048576) (hx : Cur w g p n c xs) (hm : m ≤ 1000) (hs1 : 0 ≤ size) (hs2 : size ≤ 100000) :
    Calls Tryz.prog 34 #[.pointer (some ⟨g, 0, none⟩), .int .i64 m, .int .i64 size] w fun e w' => ∃ q d ys, e = .returned (.slice q m d) ∧ Own w' w.heap.size w'.heap.size q m d ys ∧ (∀ j, j < m → -size ≤ nth ys j ∧ nth ys j ≤ size) ∧ Drawn1 w g p n c xs w' := by
  have hgl := hx.lt
  have hE := Own.empty w
  have hB := boxed w (.cells #[] 3)
  have hD0 := Drawn1.new hx hB
  go_enter Tryz.func34, Tryz.ntmps34
  go_wp2_with fail
  go_loopw [7, 8] (fun v i wr => ∃ (k : Nat) (q : Option Addr) (d : Nat) (ys : List Int), k ≤ m ∧ i = .int .i64 k ∧ v = .slice q k d ∧ Own wr w.heap.size wr.heap.size q k d ys ∧ Hid (∀ j, j < k → -size ≤ nth ys j ∧ nth ys j ≤ size) ∧ Drawn1 w g p n c xs wr) (fun _ i _ => m - (intOf i).toNat)
  case atStart => exact ⟨0, _, _, [], Nat.zero_le _, rfl, rfl, hE.up, Lib.hid fun j hj => by omega, hD0⟩
  case round =>
    clear hE hD0
    obtain ⟨k, q, d, ys, hk, rfl, rfl, hown, hys, hD⟩ := hrel
    by_cases hlt : k < m
    · have hd1 : decide ((k : Int) < (m : Int)) = true := by simp; omega
      have hlen := Lib.hid hown.len
      generalize wr = W at *
      go_wp2_with fail
      refine (l1Below_any _ _ _ _ _ _ _ hn hD.1 (by omega) (by omega)).mono ?_
      rintro e w2 ⟨x, rfl, hx0, hx1, hD2⟩
      have hown2 := (hown.within hD2.2 (.inr (by omega))).up
      have hD3 := hD.step hD2
      have hs2' := hD3.2.size
      go_wp2_with (at_builtin; refine append_int rfl _ _ rfl _ w.heap.size _ _ _ _ _ rfl (hown2.alloc _) w2.heap.size _ rfl (cellNew _ _ _) (by omega) (by simp; omega) ?_; intro p5 c5 w5 hown5 hg5)
      have hb5 : Below w.heap.size w2 w5 := ((Below.refl _ _).alloc hs2' _).trans (hg5.below (by simp; omega) fun a ha => (hown2.lt a ha).1)
      have hD5 := hD3.low hb5 (Nat.le_refl _) hgl
      go_roundw
      case rel =>
        refine ⟨k + 1, _, _, _, by omega, by go_num, rfl, hown5, Lib.hid fun j hj => ?_, hD5⟩
        by_cases hjk : j < k
        · have e : nth (ys ++ [x - size]) j = nth ys j := by
            have := hlen.out
            rw [nth_eq (by simp; omega), nth_eq (by omega), List.getElem_append_left]
          rw [e]; exact hys.out j hjk
        · obtain rfl : j = k := by omega
          have e : nth (ys ++ [x - size]) j = x - size := by
            have := hlen.out
            rw [nth_eq (by simp; omega), List.getElem_append_right (by omega)]; simp
          rw [e]; omega
      case measure => simp [intOf]; omega
    · obtain rfl : k = m := by omega
      go_wp2_with fail
      go_ret
      exact ⟨_, _, _, rfl, hown, hys.out, hD⟩

end Go.Proofs.YthdonnkekggbbaaGreatDoor

/- The reference's draws of vectors, bent. Conditions: sizes. -/
namespace Go.Proofs.YthdonnkekggbbaaGreatDoor
open Go.RowKit
set_option linter.unusedVariables false
set_option linter.unusedSimpArgs false
set_option maxRecDepth 100000

theorem l2Draw_i (g : Nat) (p : Option Addr) (n c m : Nat) (xs : List Int) (mi size : Int) (w : World) (hmi : mi = (m : Int)) (hn : n ≤ 1048576) (hx : Cur w g p n c xs) (hm : m ≤ 1000) (hs1 : 0 ≤ size) (hs2 : size ≤ 100000) :
    Calls Tryz.prog 34 #[.pointer (some ⟨g, 0, none⟩), .int .i64 mi, .int .i64 size] w fun e w' => ∃ q d ys, e = .returned (.slice q m d) ∧ Own w' w.heap.size w'.heap.size q m d ys ∧ (∀ j, j < m → -size ≤ nth ys j ∧ nth ys j ≤ size) ∧ Drawn1 w g p n c xs w' := by
  rw [hmi]; exact l2Draw_any _ _ _ _ _ _ _ _ hn hx hm hs1 hs2

theorem Own.some_S {w : World} {lo hi : Nat} {p : Option Addr} {n c : Nat} {xs : List Int} (h : Own w lo hi p n c xs) (hn : 1 ≤ n) : ∃ g, p = some ⟨g, 0, none⟩ := by
  rcases h.row.2 with ⟨hv, h0⟩ | ⟨g, cap, cur, hv, _⟩
  · omega
  · injection hv with h1 h2 h3
    exact ⟨g, h1⟩

def bentL : List Int := [1000, 1001, -1000, -1001, -9223372036854775808, 9223372036854775807]
/-- A row that was drawn, of five numbers at most. -/
def BentRow (w : World) (g : Nat) (p : Option Addr) (n c : Nat) (xs : List Int) (e : Ending) (w' : World) : Prop :=
  ∃ q m d ys, e = .returned (.slice q m d) ∧ Own w' w.heap.size w'.heap.size q m d ys ∧ m ≤ 5 ∧ Drawn1 w g p n c xs w'

end Go.Proofs.YthdonnkekggbbaaGreatDoor
