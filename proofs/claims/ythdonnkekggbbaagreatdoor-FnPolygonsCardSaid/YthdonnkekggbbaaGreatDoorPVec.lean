/- Contracts of both ParseVector. Conditions: sizes; the library's variables. -/
import Derived.Test.YthdonnkekggbbaaGreatDoorJnTexts
import Derived.Test.YthdonnkekggbbaaGreatDoorJnStrFns3
namespace Go.Proofs.YthdonnkekggbbaaGreatDoor
open Go.RowKit
set_option linter.unusedVariables false
set_option linter.unusedSimpArgs false
set_option maxRecDepth 100000

def numP (p : List UInt8) : Int × Bool := parseW 999999999999 p
def numsL (ps : List (List UInt8)) : List Int := ps.map fun p => (numP p).1
def okP (ps : List (List UInt8)) : Bool := ps.all fun p => (numP p).2
/-- A vector out of a text. -/
def pvecV (l : List UInt8) : List Int × Bool := if okP (splitW (byteD 44) l) = true then vecIf (numsL (splitW (byteD 44) l)) else ([], false)
theorem numsL_take {ps : List (List UInt8)} {k : Nat} (h : k < ps.length) : numsL (ps.take (k + 1)) = numsL (ps.take k) ++ [(numP (nthS ps k)).1] := by
  rw [take_nthS h]; simp [numsL]
theorem okP_take {ps : List (List UInt8)} {k : Nat} (h : k < ps.length) (ha : okP (ps.take k) = true) (hn : (numP (nthS ps k)).2 = true) : okP (ps.take (k + 1)) = true := by
  rw [take_nthS h]; simp only [okP, List.all_append, Bool.and_eq_true] at *; exact ⟨ha, by simpa using hn⟩
theorem okP_no {ps : List (List UInt8)} {k : Nat} (h : k < ps.length) (hn : (numP (nthS ps k)).2 = false) : okP ps = false := by
  unfold okP
  rw [List.all_eq_false]
  exact ⟨ps[k], List.getElem_mem h, by rw [← nthS_eq h]; simpa using hn⟩
theorem piece_len {c : UInt8} {l : List UInt8} {k : Nat} (h : k < (splitW c l).length) : (nthS (splitW c l) k).length ≤ l.length := by
  have := splitA_sum c l [] (nthS (splitW c l) k) (by rw [nthS_eq h]; exact List.getElem_mem h)
  simpa using this

set_option maxHeartbeats 2000000 in
theorem implPVec_any (l : List UInt8) (w : World) (hl : l.length ≤ 1048576) (ht : TabW w) (he : ErrW w) (hm : MaxW w) :
    Calls Tryz.prog 50 #[.string ⟨l.toArray⟩] w (NewIB w (pvecV l)) := by
  have Hpl : Hid (∀ k, k < (splitW (byteD 44) l).length → (nthS (splitW (byteD 44) l) k).length ≤ 1048576) := Lib.hid fun k hk => Nat.le_trans (piece_len hk) hl
  have HL := splitA_length (byteD 44) l []
  have HL2 : (splitW (byteD 44) l).length ≤ 1048577 := by unfold splitW; omega
  have HV : Hid (pvecV l = if okP (splitW (byteD 44) l) = true then vecIf (numsL (splitW (byteD 44) l)) else ([], false)) := rfl
  clear HL
  go_enter Tryz.func50, Tryz.ntmps50
  go_wp2_with fail
  refine (implSplit_any _ _ _ hl (by omega) (by omega) hm).mono ?_
  rintro e w1 ⟨p1, N, c1, rfl, hps, hb1⟩
  have hN := Lib.hid hps.len
  generalize splitW (byteD 44) l = ps at *
  have hNb : N ≤ 1048577 := by rw [← hN.out]; exact HL2
  have hsm := hb1.size
  go_wp2_with fail
  go_loopw [4, 12] (fun v i wr => ∃ (k : Nat) (p' : Option Addr) (c' : Nat), k ≤ N ∧ i = .int .i64 k ∧ v = .slice p' k c' ∧ Own wr w1.heap.size wr.heap.size p' k c' (numsL (ps.take k)) ∧ Hid (okP (ps.take k) = true) ∧ Below w1.heap.size w1 wr) (fun _ i _ => N - (intOf i).toNat)
  case atStart => exact ⟨0, _, _, Nat.zero_le _, rfl, rfl, by simpa [numsL] using Own.nil w1 w1.heap.size w1.heap.size, Lib.hid (by simp [okP]), Below.refl _ _⟩
  case round =>
    obtain ⟨k, p', c', hk, rfl, rfl, hown, hok, hb⟩ := hrel
    by_cases hlt : k < N
    · obtain ⟨b, o, rfl, hc⟩ := hps.rd.cell k hlt
      replace hc := (hb.cell (World.block_lt_of_cell? w1 _ hc)).trans hc
      have hkl : k < ps.length := by rw [hN.out]; exact hlt
      have hpl := Hpl.out k hkl
      have hd1 : decide ((k : Int) < (N : Int)) = true := by simp; omega
      have hbw := Below.step hb1 hb
      have E := Lib.hid (numsL_take hkl)
      have HKL := Lib.hid hkl
      have HR : Hid (numP (nthS ps k) = parseW 999999999999 (nthS ps k)) := rfl
      have C := Lib.hid (fun W (h1 : TabW W) (h2 : ErrW W) => implParseInt_any (nthS ps k) W hpl h1 h2)
      generalize hR : parseW 999999999999 (nthS ps k) = R at *
      obtain ⟨x, ok⟩ := R
      rw [HR.out] at E
      generalize wr = W at *
      clear hkl hpl hR
      cases ok
      · have HV2 : Hid (pvecV l = ([], false)) := Lib.hid (by rw [HV.out, okP_no HKL.out (by rw [HR.out])]; rfl)
        go_wp2_with fail
        refine (C.out W (ht.below hbw) (he.below hbw)).mono ?_
        rintro e w2 ⟨rfl, hb2⟩
        go_wp2_with fail
        go_ret2
        rw [HV2.out]
        exact ⟨_, _, _, rfl, Own.nil _ _ _, Below.step hbw hb2⟩
      · have HO : Hid (okP (ps.take (k + 1)) = true) := Lib.hid (okP_take HKL.out hok.out (by rw [HR.out]))
        go_wp2_with fail
        refine (C.out W (ht.below hbw) (he.below hbw)).mono ?_
        rintro e w2 ⟨rfl, hb2⟩
        have hown2 := (hown.below hb2).up
        have hb3 := Below.step hb hb2
        go_wp2_with (at_builtin; refine append_int rfl _ _ rfl _ w1.heap.size _ _ _ _ _ rfl (hown2.alloc _) w2.heap.size x rfl (cellNew _ _ _) (by omega) (sizeNew hb3 _) ?_; intro p5 c5 w5 hown5 hg5)
        have hb5 := hg5.below (sizeNew hb3 _) fun a ha => (hown2.lt a ha).1
        go_roundw
        case rel => exact ⟨k + 1, _, _, by omega, by go_num, rfl, by rw [E.out]; exact hown5, HO, Below.new hb3 _ hb5⟩
        case measure => simp [intOf]; omega
    · obtain rfl : k = N := by omega
      rw [List.take_of_length_le (by rw [hN.out]; exact Nat.le_refl _)] at hown hok
      have HV2 : Hid (pvecV l = vecIf (numsL ps)) := Lib.hid (by rw [HV.out, if_pos hok.out])
      have hbw := Below.step hb1 hb
      go_wp2_with fail
      refine (vectorOf_any w1.heap.size _ _ _ _ _ (by omega) hown).mono ?_
      rintro e w2 ⟨⟨p2, n2, c2, rfl, ho2⟩, rfl⟩
      go_wp2_with fail
      go_ret2
      rw [HV2.out]
      exact ⟨_, _, _, rfl, ho2.widen hsm (Nat.le_refl _), hbw⟩

set_option maxHeartbeats 2000000 in
theorem specPVec_any (l : List UInt8) (w : World) (hl : l.length ≤ 1048576) :
    Calls Tryz.prog 52 #[.string ⟨l.toArray⟩] w (NewIB w (pvecV l)) := by
  have Hpl : Hid (∀ k, k < (splitW (byteD 44) l).length → (nthS (splitW (byteD 44) l) k).length ≤ 1048576) := Lib.hid fun k hk => Nat.le_trans (piece_len hk) hl
  have HL := splitA_length (byteD 44) l []
  have HL2 : (splitW (byteD 44) l).length ≤ 1048577 := by unfold splitW; omega
  have HV : Hid (pvecV l = if okP (splitW (byteD 44) l) = true then vecIf (numsL (splitW (byteD 44) l)) else ([], false)) := rfl
  have hdl : (⟨l.toArray⟩ : ByteArray).data.toList = l := by simp
  have hE := Own.empty w
  have hB := boxed w (.cells #[] 3)
  have CS := Lib.hid (fun W => specSplit_any ⟨l.toArray⟩ l 44 W hdl hl (by omega) (by omega))
  clear HL hdl
  go_enter Tryz.func52, Tryz.ntmps52
  go_wp2_with fail
  refine (CS.out _).mono ?_
  rintro e w1 ⟨p1, N, c1, rfl, hps, hb1⟩
  have hbT := Below.step hB hb1
  have hE1 := (hE.below hb1).up
  have hN := Lib.hid hps.len
  generalize splitW (byteD 44) l = ps at *
  have hNb : N ≤ 1048577 := by rw [← hN.out]; exact HL2
  have hps1 := hps.widen (lo' := w.heap.size) (by simp) (Nat.le_refl _)
  clear hps
  go_wp2_with fail
  go_loopw [4, 6] (fun v i wr => ∃ (k : Nat) (p' : Option Addr) (c' : Nat), k ≤ N ∧ i = .int .i64 k ∧ v = .slice p' k c' ∧ Own wr w.heap.size wr.heap.size p' k c' (numsL (ps.take k)) ∧ OwnS wr w.heap.size wr.heap.size p1 N c1 ps ∧ Hid (okP (ps.take k) = true) ∧ Below w.heap.size w wr) (fun _ i _ => N - (intOf i).toNat)
  case atStart => exact ⟨0, _, _, Nat.zero_le _, rfl, rfl, by simpa [numsL] using hE1, hps1, Lib.hid (by simp [okP]), hbT⟩
  case round =>
    clear hE1 hps1 hE hB hb1
    obtain ⟨k, p', c', hk, rfl, rfl, hown, hps, hok, hb⟩ := hrel
    by_cases hlt : k < N
    · obtain ⟨b, o, rfl, hc⟩ := hps.rd.cell k hlt
      have hkl : k < ps.length := by rw [hN.out]; exact hlt
      have hpl := Hpl.out k hkl
      have hd1 : decide ((k : Int) < (N : Int)) = true := by simp; omega
      have E := Lib.hid (numsL_take hkl)
      have HKL := Lib.hid hkl
      have HR : Hid (numP (nthS ps k) = parseW 999999999999 (nthS ps k)) := rfl
      have C := Lib.hid (fun W => specParseInt_any (nthS ps k) W hpl)
      generalize hR : parseW 999999999999 (nthS ps k) = R at *
      obtain ⟨x, ok⟩ := R
      rw [HR.out] at E
      generalize wr = W at *
      clear hkl hpl hR
      cases ok
      · have HV2 : Hid (pvecV l = ([], false)) := Lib.hid (by rw [HV.out, okP_no HKL.out (by rw [HR.out])]; rfl)
        go_wp2_with fail
        refine (C.out W).mono ?_
        rintro e w2 ⟨rfl, hb2⟩
        have hb3 := Below.step hb hb2
        go_wp2_with fail
        go_ret2
        rw [HV2.out]
        exact ⟨_, _, _, rfl, (Own.empty w2).widen hb3.size (by simp), Below.step hb3 (boxed _ _)⟩
      · have HO : Hid (okP (ps.take (k + 1)) = true) := Lib.hid (okP_take HKL.out hok.out (by rw [HR.out]))
        go_wp2_with fail
        refine (C.out W).mono ?_
        rintro e w2 ⟨rfl, hb2⟩
        have hown2 := (hown.below hb2).up
        have hps2 := (hps.below hb2).widen (hi' := w2.heap.size) (Nat.le_refl _) hb2.size
        have hb3 := Below.step hb hb2
        go_wp2_with (at_builtin; refine append_int rfl _ _ rfl _ w.heap.size _ _ _ _ _ rfl (hown2.alloc _) w2.heap.size x rfl (cellNew _ _ _) (by omega) (sizeNew hb3 _) ?_; intro p5 c5 w5 hown5 hg5)
        have hb5 := hg5.below (sizeNew hb3 _) fun a ha => (hown2.lt a ha).1
        have hps5 : OwnS w5 w.heap.size w5.heap.size (some ⟨b, o, none⟩) N c1 ps := OwnV.up (OwnV.kept (OwnV.alloc hps2 (.cells #[.int .i64 x] 3)) hg5.by_ (OwnV.ne (hown2.alloc (.cells #[.int .i64 x] 3)).v (OwnV.alloc hps2 (.cells #[.int .i64 x] 3)) (by decide)))
        go_roundw
        case rel => exact ⟨k + 1, _, _, by omega, by go_num, rfl, by rw [E.out]; exact hown5, hps5, HO, Below.new hb3 _ hb5⟩
        case measure => simp [intOf]; omega
    · obtain rfl : k = N := by omega
      rw [List.take_of_length_le (by rw [hN.out]; exact Nat.le_refl _)] at hown hok
      have HV2 : Hid (pvecV l = vecIf (numsL ps)) := Lib.hid (by rw [HV.out, if_pos hok.out])
      cases hv : isVec (numsL ps)
      · have HV3 : Hid (pvecV l = ([], false)) := Lib.hid (by rw [HV2.out, vecIf_no hv])
        go_wp2_with (go_at_call 57; (with_reducible refine (specIsVector_any _ _ _ _ _ hown.ints (by omega)).mono ?_); rintro e w' ⟨rfl, rfl⟩)
        go_ret2
        rw [HV3.out]
        exact ⟨_, _, _, rfl, (Own.empty wr).widen hb.size (by simp), Below.step hb (boxed _ _)⟩
      · have HV3 : Hid (pvecV l = (numsL ps, true)) := Lib.hid (by rw [HV2.out, vecIf_yes hv])
        go_wp2_with (go_at_call 57; (with_reducible refine (specIsVector_any _ _ _ _ _ hown.ints (by omega)).mono ?_); rintro e w' ⟨rfl, rfl⟩)
        go_ret2
        rw [HV3.out]
        exact ⟨_, _, _, rfl, hown, hb⟩

theorem pvecV_len (l : List UInt8) : (pvecV l).1.length ≤ 3 := by
  unfold pvecV
  split
  · cases hv : isVec (numsL (splitW (byteD 44) l))
    · rw [vecIf_no hv]; simp
    · rw [vecIf_yes hv]
      unfold isVec at hv
      rw [Bool.and_eq_true] at hv
      have := inR_true hv.1
      show (numsL (splitW (byteD 44) l)).length ≤ 3
      omega
  · simp

end Go.Proofs.YthdonnkekggbbaaGreatDoor
