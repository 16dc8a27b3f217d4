/- Contracts of the laws' helpers on slices of halves. Conditions: sizes. -/
import Derived.Test.YtbdndkombedfnaaHalves2
namespace Go.Proofs.Ytbdndkombedfnaa
open Go.RowKit
set_option linter.unusedVariables false
set_option linter.unusedSimpArgs false
set_option maxRecDepth 100000

theorem Try.infoHalf : (Try.prog.info? 45).map (fun i => (i.zero, i.size, i.bytes)) = some (some (.agg #[.slice none 0 0, .int .i64 0]), 2, 32) := by kernel_rfl
theorem halfNe : 45 ≠ 3 := by decide

def NewH (w : World) (n : Nat) (hs : List Pr) (e : Ending) (w' : World) : Prop :=
  ∃ p c, e = .returned (.slice p n c) ∧ OwnPM 45 w' w.heap.size w'.heap.size p n c hs ∧ Below w.heap.size w w'

theorem toHalfS_any (p : Option Addr) (n c : Nat) (hs : List Pr) (w : World) (hx : Prs w p n hs) (hm : n ≤ 1048576) (hm2 : totH hs ≤ 1048576) :
    Calls Try.prog 19 #[.slice p n c] w (NewH w n hs) := by
  obtain ⟨i0, hi, hz0, hz1, hz2⟩ := info_parts Try.infoHalf
  have hl := Lib.hid hx.len
  have hby : i0.bytes * n ≤ 281474976710656 := by rw [hz2]; omega
  have hml : n ≤ maxLen := by unfold maxLen; omega
  have hlens := Lib.hid (fun k (h : k < hs.length) => Nat.le_trans (len_le_totH h) hm2)
  go_enter Try.func19, Try.ntmps19
  go_wp2_with (at_make; refine wpList_make_full _ rfl _ _ 28 rfl w.heap.size 45 i0 (.agg #[.slice none 0 0, .int .i64 0]) 2 Try.underlying28 hi hz0 hz1 .i64 .i64 _ _ n rfl rfl rfl rfl hby hml (Nat.le_refl _) ?_; intro w1 hown hgrow)
  have hown0 := made_ownP hown
  have hb0 : Below w.heap.size w w1 := (Below.refl _ _).grown hgrow (Nat.le_refl _) (fun k hk => by cases hk)
  clear hown hgrow
  go_loopw [4] (fun i wr => ∃ (k : Nat) (rows : List Row), k ≤ n ∧ i = .int .i64 k ∧ OwnP 45 wr w.heap.size wr.heap.size (some ⟨w.heap.size, 0, none⟩) n n rows (mixP hs (List.replicate n ([], 0)) k) ∧ Below w.heap.size w wr) (fun i _ => n - (intOf i).toNat)
  case atStart => exact ⟨0, _, Nat.zero_le _, rfl, by rw [mixP_zero]; exact hown0, hb0⟩
  case round =>
    obtain ⟨k, rows, hk, rfl, hown, hb⟩ := hrel
    by_cases hlt : k < n
    · obtain ⟨b, o, q, m, d, rfl, hc, hcb, hmd, hd, hi2⟩ := (hx.below hb).cell k hlt
      have hml2 : m ≤ 1048576 := by rw [← hi2.len]; exact hlens.out k (by rw [hl.out]; exact hlt)
      go_wp2_with fail
      refine (toHalf_any _ _ _ _ _ _ hi2 (by omega)).mono ?_
      rintro e w2 ⟨q2, d2, rfl, ho2, hb2⟩
      have hown2 := hown.below hb2
      have hcnt := Lib.hid hown2.count
      obtain ⟨_, hp, _, _, hc2, hc3, hf⟩ := hown2.rowAt k hlt (by rw [hcnt.out]; exact hlt)
      injection hp with hp
      injection hp with e1
      subst e1
      generalize rows[k]'(by rw [hcnt.out]; exact hlt) = r at *
      go_wp2
      go_roundw
      case rel =>
        have hsz := hb2.size
        have hsz0 := hb.size
        have h3 := hown2.put halfNe ho2 (by omega) (by omega) k hlt (bnd hs k)
        rw [show (nrm hs k, bnd hs k) = prAt hs k from rfl, mixP_set (by rw [hl.out]; exact hlt) (by simpa using hlt)] at h3
        exact ⟨k + 1, _, by omega, by go_num, h3.up, ((hb.trans (hb2.mono hb.size)).setCell (Nat.le_refl _) _).setCell (Nat.le_refl _) _⟩
      case measure => simp [intOf]; omega
    · go_wp2
      go_ret
      obtain rfl : k = n := by omega
      rw [mixP_all (by rw [hl.out]; exact Nat.le_refl _) (by simp)] at hown
      exact ⟨_, _, rfl, ⟨_, hown⟩, hb⟩

theorem szHalfS_any (p : Option Addr) (n c : Nat) (hs : List Pr) (left : Int) (w : World) (hn : n ≤ 9223372036854775807) (hx : Prs w p n hs) (h0 : 0 ≤ left) (h1 : left ≤ 1048576) :
    Calls Try.prog 16 #[.slice p n c, .int .i64 left] w (Ret (.int .i64 (leftOf (n + totH hs) left)) w) := by
  have hl := Lib.hid hx.len
  by_cases hbig : (n : Int) ≤ left
  · go_enter Try.func16, Try.ntmps16
    go_wp2
    go_loopw [1, 5] (fun a i wr => ∃ k : Nat, k ≤ n ∧ i = .int .i64 k ∧ (n : Int) + (totH (hs.take k) : Nat) ≤ left ∧ a = .int .i64 (left - ((n : Int) + (totH (hs.take k) : Nat))) ∧ Below w.heap.size w wr) (fun _ i _ => n - (intOf i).toNat)
    case atStart => exact ⟨0, Nat.zero_le _, rfl, by simpa [totH, nrms, tot] using hbig, by simp [totH, nrms, tot], Below.refl _ _⟩
    case round =>
      obtain ⟨k, hk, rfl, hle, rfl, hb⟩ := hrel
      by_cases hlt : k < n
      · obtain ⟨b, o, q, m, d, rfl, hc, hcb, hmd, hd, hi2⟩ := (hx.below hb).cell k hlt
        have ht := totH_take (hs := hs) (k := k) (by rw [hl.out]; exact hlt)
        rw [hi2.len] at ht
        have Ht := Lib.hid ht
        have hle2 := totH_le hs (k + 1)
        rw [ht] at hle2
        clear ht
        generalize hT : totH (hs.take k) = T at *
        have HT := Lib.hid hT
        clear hT
        by_cases hfit : (m : Int) ≤ left - ((n : Int) + (T : Int))
        · go_wp2_with fail
          refine (szHalf_any _ _ _ _ _ _ (by omega) (by omega) (by omega)).mono ?_
          rw [leftOf_yes hfit]
          rintro e w' ⟨rfl, hb1⟩
          go_wp2
          go_roundw
          case rel => exact ⟨k + 1, by omega, by go_num, by rw [Ht.out]; omega, by rw [Ht.out]; go_num, Below.step hb hb1⟩
          case measure => simp [intOf]; omega
        · go_wp2_with fail
          refine (szHalf_any _ _ _ _ _ _ (by omega) (by omega) (by omega)).mono ?_
          rw [leftOf_no (by omega)]
          rintro e w' ⟨rfl, hb1⟩
          go_wp2
          go_ret
          refine ⟨ret_int ?_, Below.step hb hb1⟩
          unfold leftOf
          rw [if_neg (by omega)]
      · go_wp2
        go_ret
        refine ⟨ret_int ?_, hb⟩
        obtain rfl : k = n := by omega
        rw [List.take_of_length_le (by rw [hl.out]; exact Nat.le_refl _)] at hle ⊢
        unfold leftOf
        rw [if_pos (by omega)]
        omega
  · go_enter Try.func16, Try.ntmps16
    go_wp2
    go_ret
    refine ⟨ret_int ?_, Below.refl _ _⟩
    unfold leftOf
    rw [if_neg (by omega)]

theorem eqHalfS_self (p q : Option Addr) (n c m d : Nat) (hs : List Pr) (w : World) (hx : Prs w p n hs) (hy : Prs w q m hs) (hn : n ≤ 9223372036854775807) (hm : m ≤ 9223372036854775807) :
    Calls Try.prog 32 #[.slice p n c, .slice q m d] w (Ret (.bool true) w) := by
  obtain rfl : n = m := hx.len.symm.trans hy.len
  go_enter Try.func32, Try.ntmps32
  go_wp2
  go_loopw [5] (fun i wr => ∃ k : Nat, k ≤ n ∧ i = .int .i64 k ∧ Below w.heap.size w wr) (fun i _ => n - (intOf i).toNat)
  case atStart => exact ⟨0, Nat.zero_le _, rfl, Below.refl _ _⟩
  case round =>
    obtain ⟨k, hk, rfl, hb⟩ := hrel
    by_cases hlt : k < n
    · obtain ⟨b, o, q1, m1, d1, rfl, hc, hcb, hmd1, hd1, hi1⟩ := (hx.below hb).cell k hlt
      obtain ⟨b2, o2, q2, m2, d2, rfl, hc2, hcb2, hmd2, hd2, hi2⟩ := (hy.below hb).cell k hlt
      go_wp2
      go_region_with ((go_at_call 52; refine (eqHalf_self _ _ _ _ _ _ _ _ _ hi1.drew hi2.drew (by omega) (by omega)).mono ?_; rintro e w1 ⟨rfl, hb1⟩))
      all_goals
        have hb2 := Below.step hb (Below.step (drewBelow _) hb1)
        go_wp2
        go_roundw
        case rel => exact ⟨k + 1, by omega, by go_num, hb2⟩
        case measure => simp [intOf]; omega
    · go_wp2
      go_ret
      exact ⟨rfl, hb⟩

theorem markHalfS_any (lo hi : Nat) (p : Option Addr) (n c : Nat) (hs : List Pr) (k0 : Int) (w : World) (hx : OwnPM 45 w lo hi p n c hs) (h0 : 0 ≤ k0) (h1 : k0 + (totH hs : Nat) + n ≤ 9223372036854775806) :
    Calls Try.prog 33 #[.slice p n c, .int .i64 k0] w fun e w' => e = .returned (.int .i64 (k0 + (totH hs : Nat) + n)) ∧ OwnPM 45 w' lo hi p n c (upP k0 hs) ∧ Within lo hi w w' := by
  have hl := Lib.hid hx.len
  have hl3 := Lib.hid (upP_length hs k0)
  have hsm := hx.small
  obtain ⟨rows, hx⟩ := hx
  have hcnt := Lib.hid hx.count
  go_enter Try.func33, Try.ntmps33
  go_wp2
  go_loopw [1, 5] (fun m i wr => ∃ k : Nat, k ≤ n ∧ i = .int .i64 k ∧ m = .int .i64 (k0 + (totH (hs.take k) : Nat) + k) ∧ OwnP 45 wr lo hi p n c rows (mixP (upP k0 hs) hs k) ∧ Within lo hi w wr) (fun _ i _ => n - (intOf i).toNat)
  case atStart => exact ⟨0, Nat.zero_le _, rfl, by simp [totH, nrms, tot], by rw [mixP_zero]; exact hx, Within.refl _ _ _⟩
  case round =>
    obtain ⟨k, hk, rfl, rfl, hown, hw⟩ := hrel
    by_cases hlt : k < n
    · have hkr : k < rows.length := by rw [hcnt.out]; exact hlt
      have hkx : k < hs.length := by rw [hl.out]; exact hlt
      have Ht := Lib.hid (totH_take hkx)
      have hle : totH (hs.take (k + 1)) ≤ totH hs := totH_le _ _
      rw [Ht.out] at hle
      have hmx : prAt (mixP (upP k0 hs) hs k) k = prAt hs k := mixP_at (by rw [hl3.out, hl.out]; exact hk)
      obtain ⟨lo', hi', ho, hset⟩ := hown.mark halfNe k hkr
      rw [nrm, hmx] at ho
      change Own _ _ _ _ _ _ (nrm hs k) at ho
      have hrl := Lib.hid ho.len
      rw [hrl.out] at hle
      have hcell := hown.rowAt k hlt hkr
      generalize hr : rows[k] = r at *
      obtain ⟨q, m, d⟩ := r
      obtain ⟨g, rfl, hg1, hg2, hc, hcb, hf⟩ := hcell
      dsimp only at hle hrl
      have Hset := Lib.hid hset
      have Hmx := Lib.hid hmx
      clear hset hr hmx
      go_wp2_with fail
      refine (markIntS_any _ _ _ _ _ _ _ _ ho (by omega) (by omega)).mono ?_
      rintro e w2 ⟨rfl, ho2, hw2⟩
      obtain ⟨hown2, hw3⟩ := Hset.out _ _ ho2 hw2
      have hkr2 : k < rows.length := hkr
      obtain ⟨g', hg', hg3, hg4, hc2, hcb2, hf2⟩ := hown2.rowAt k hlt hkr
      injection hg' with hg'
      injection hg' with e1
      subst e1
      have h5 := hown2.setB halfNe k hlt (k0 + (totH (hs.take k) : Nat) + k + m)
      have hf3 := hf2 (k * 2 + 1)
      clear hf2 hf
      go_wp2
      go_roundw
      case rel =>
        refine ⟨k + 1, by omega, by go_num, ?_, ?_, (hw.trans hw3).setCell hg1 hg2 _⟩
        · rw [Ht.out, hrl.out]; push_cast; go_num
        · have hat := upP_at hs k0 k hkx
          rw [hrl.out] at hat
          rw [nrm, prAt_set (by rw [mixP_length (by rw [hl3.out, hl.out]; exact hk) hl3.out, hl3.out]; exact hkx), if_pos rfl, List.set_set, ← hat, mixP_set (by rw [hl3.out]; exact hkx) hkx] at h5
          exact h5
      case measure => simp [intOf]; omega
    · go_wp2
      go_ret
      obtain rfl : k = n := by omega
      rw [mixP_all (by rw [hl3.out, hl.out]; exact Nat.le_refl _) (by rw [hl.out]; exact Nat.le_refl _)] at hown
      rw [List.take_of_length_le (by rw [hl.out]; exact Nat.le_refl _)]
      exact ⟨rfl, ⟨_, hown⟩, hw⟩

end Go.Proofs.Ytbdndkombedfnaa
