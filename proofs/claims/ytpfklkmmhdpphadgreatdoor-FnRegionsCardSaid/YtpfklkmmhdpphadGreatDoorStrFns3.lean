/- Contracts: the reference's FormatInt. Conditions: the number is an int. -/
import Derived.Test.YtpfklkmmhdpphadGreatDoorStrFns2
namespace Go.Proofs.YtpfklkmmhdpphadGreatDoor
open Go.RowKit
set_option linter.unusedVariables false
set_option linter.unusedSimpArgs false
set_option maxRecDepth 100000

theorem fmtStep {u0 u : Nat} {l l' : List UInt8} (h : Lib.decDigits u0 = digs u ++ l) (h0 : u ≠ 0) (x : Int) (hx : x = 48 + (u % 10 : Nat)) (hl : l' = byteD x :: l) : Lib.decDigits u0 = digs (u / 10) ++ l' := by
  rw [h, digs_step h0, List.append_assoc, hl, byteD]
  have : x.toNat = 48 + u % 10 := by omega
  rw [this]; rfl

set_option maxHeartbeats 400000 in
theorem specFormat_any (n : Int) (w : World) (h0 : -9223372036854775808 ≤ n) (h1 : n ≤ 9223372036854775807) :
    Calls Tryz.prog 66 #[.int .i64 n] w (NewText w (Lib.itoa n)) := by
  by_cases hn : n = 0
  · subst hn
    go_enter Tryz.func66, Tryz.ntmps66
    go_wp2
    go_ret
    exact ⟨ret_str (a := [48]) (by rw [itoa_pos (n := 0) (by omega)]; exact (decDigits_small (u := 0) (by omega)).symm), Below.refl _ _⟩
  · have hne : (n == 0) = false := by simpa using hn
    have hd : Lib.decDigits n.natAbs = digs n.natAbs ++ [] := by rw [digs, if_neg (by omega)]; simp
    have Hd := Lib.hid hd
    have Hn := Lib.hid hn
    clear hd hn
    by_cases hs : n < 0
    all_goals
      go_enter Tryz.func66, Tryz.ntmps66
      go_wp2
      go_loopw [0, 4] (fun a s wr => ∃ (m : Int) (l : List UInt8), a = .int .i64 m ∧ s = .string ⟨l.toArray⟩ ∧ -9223372036854775808 ≤ m ∧ m ≤ 9223372036854775807 ∧ Hid (Lib.decDigits n.natAbs = digs m.natAbs ++ l) ∧ Below w.heap.size w wr) (fun a _ _ => (intOf a).natAbs)
      case atStart => exact ⟨n, [], rfl, rfl, h0, h1, Hd, Below.refl _ _⟩
      case round =>
        obtain ⟨m, l, rfl, rfl, hm0, hm1, Hm, hb⟩ := hrel
        have hll : l.length ≤ 20 := by
          have := congrArg List.length Hm.out
          rw [List.length_append, decDigits_len] at this
          have h2 := Lib.nDigits_le20 n.natAbs (by omega)
          omega
        by_cases hm : m = 0
        · subst hm
          have he : Hid (Lib.decDigits n.natAbs = l) := Lib.hid (by have := Hm.out; rwa [show (0 : Int).natAbs = 0 from rfl, digs, if_pos rfl, List.nil_append] at this)
          obtain ⟨l', hl'⟩ : ∃ l', l' = [45] ++ l := ⟨_, rfl⟩
          have hadd : ∀ W, (Op.stringOp .add ⟨#[45]⟩ ⟨l.toArray⟩).run Tryz.prog W = .ok (.string ⟨l'.toArray⟩) W := fun W => by rw [hl']; exact addS [45] l (show 1 + l.length ≤ _ by omega) W
          have Hl' := Lib.hid hl'
          clear hl'
          go_wp2
          go_ret
          first
            | exact ⟨ret_str (by rw [Hl'.out, itoa_neg (n := n) (by omega), he.out]; rfl), hb⟩
            | exact ⟨ret_str (by rw [itoa_pos (n := n) (by omega), ← he.out]; congr 1; omega), hb⟩
        · have hmne : (m != 0) = true := by simpa using hm
          have hdiv : (m.tdiv 10).natAbs = m.natAbs / 10 := by rw [Int.natAbs_tdiv]; rfl
          have hmod : (m.tmod 10).natAbs = m.natAbs % 10 := by rw [Int.natAbs_tmod]; rfl
          have Hdiv := Lib.hid hdiv
          have Hmn : Hid (m.natAbs ≠ 0) := Lib.hid (by omega)
          by_cases hr : m.tmod 10 < 0
          · have hx : (48 + -(m.tmod 10)) = 48 + (m.natAbs % 10 : Nat) := by omega
            have hxl : 0 ≤ -(m.tmod 10) ∧ -(m.tmod 10) ≤ 9 := by omega
            obtain ⟨x1, x2⟩ := hxl
            obtain ⟨l', hl'⟩ : ∃ l', l' = byteD (48 + -(m.tmod 10)) :: l := ⟨_, rfl⟩
            have hst := Lib.hid (fmtStep Hm.out Hmn.out _ hx hl')
            have hcv := conv1 (48 + -(m.tmod 10)) (by omega) (by omega) wr
            have hadd := addB (48 + -(m.tmod 10)) l l' hl' (by omega)
            clear hl' hdiv hmod hx hm
            go_wp2
            go_roundw
            case rel => exact ⟨m.tdiv 10, _, by go_num, rfl, by have := Hdiv.out; omega, by have := Hdiv.out; omega, by rw [Hdiv.out]; exact hst, hb.alloc hb.size _⟩
            case measure => simp only [intOf]; have := Hdiv.out; have := Hmn.out; omega
          · have hx : (48 + m.tmod 10) = 48 + (m.natAbs % 10 : Nat) := by omega
            have hxl : 0 ≤ m.tmod 10 ∧ m.tmod 10 ≤ 9 := by omega
            obtain ⟨x1, x2⟩ := hxl
            obtain ⟨l', hl'⟩ : ∃ l', l' = byteD (48 + m.tmod 10) :: l := ⟨_, rfl⟩
            have hst := Lib.hid (fmtStep Hm.out Hmn.out _ hx hl')
            have hcv := conv1 (48 + m.tmod 10) (by omega) (by omega) wr
            have hadd := addB (48 + m.tmod 10) l l' hl' (by omega)
            clear hl' hdiv hmod hx hm
            go_wp2
            go_roundw
            case rel => exact ⟨m.tdiv 10, _, by go_num, rfl, by have := Hdiv.out; omega, by have := Hdiv.out; omega, by rw [Hdiv.out]; exact hst, hb.alloc hb.size _⟩
            case measure => simp only [intOf]; have := Hdiv.out; have := Hmn.out; omega

end Go.Proofs.YtpfklkmmhdpphadGreatDoor
