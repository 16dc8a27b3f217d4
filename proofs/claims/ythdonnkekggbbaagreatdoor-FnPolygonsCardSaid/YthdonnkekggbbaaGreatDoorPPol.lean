/- Contracts of both ParsePolygon. Conditions: sizes; the library's variables. -/
import Derived.Test.YthdonnkekggbbaaGreatDoorPVec
import Derived.Test.YthdonnkekggbbaaGreatDoorHull5
namespace Go.Proofs.YthdonnkekggbbaaGreatDoor
open Go.RowKit
set_option linter.unusedVariables false
set_option linter.unusedSimpArgs false
set_option maxRecDepth 100000

def rowsV (ps : List (List UInt8)) : List (List Int) := ps.map fun p => (pvecV p).1
def okV (ps : List (List UInt8)) : Bool := ps.all fun p => (pvecV p).2
open Classical in
/-- A polygon out of a text. -/
noncomputable def ppolV (l : List UInt8) : List (List Int) × Bool := if okV (splitW (byteD 32) l) = true ∧ polyB (rowsV (splitW (byteD 32) l)) = true then (rowsV (splitW (byteD 32) l), true) else ([], false)
theorem rowsV_length (ps : List (List UInt8)) : (rowsV ps).length = ps.length := by simp [rowsV]
theorem rowsV_take {ps : List (List UInt8)} {k : Nat} (h : k < ps.length) : rowsV (ps.take (k + 1)) = rowsV (ps.take k) ++ [(pvecV (nthS ps k)).1] := by
  rw [take_nthS h]; simp [rowsV]
theorem okV_take {ps : List (List UInt8)} {k : Nat} (h : k < ps.length) (ha : okV (ps.take k) = true) (hn : (pvecV (nthS ps k)).2 = true) : okV (ps.take (k + 1)) = true := by
  rw [take_nthS h]; simp only [okV, List.all_append, Bool.and_eq_true] at *; exact ⟨ha, by simpa using hn⟩
theorem okV_no {ps : List (List UInt8)} {k : Nat} (h : k < ps.length) (hn : (pvecV (nthS ps k)).2 = false) : okV ps = false := by
  unfold okV
  rw [List.all_eq_false]
  exact ⟨ps[k], List.getElem_mem h, by rw [← nthS_eq h]; simpa using hn⟩

set_option maxHeartbeats 2000000 in
theorem implPPol_any (l : List UInt8) (w : World) (hl : l.length ≤ 1048576) (ht : TabW w) (he : ErrW w) (hm : MaxW w) :
    Calls Tryz.prog 12 #[.string ⟨l.toArray⟩] w (NewMB w (ppolV l)) := by
  have Hpl : Hid (∀ k, k < (splitW (byteD 32) l).length → (nthS (splitW (byteD 32) l) k).length ≤ 1048576) := Lib.hid fun k hk => Nat.le_trans (piece_len hk) hl
  have HL := splitA_length (byteD 32) l []
  have HL2 : (splitW (byteD 32) l).length ≤ 1048577 := by unfold splitW; omega
  have HV1 : Hid (okV (splitW (byteD 32) l) = false → ppolV l = ([], false)) := Lib.hid fun h => by unfold ppolV; rw [if_neg]; rw [h]; simp
  have HV2 : Hid (polyB (rowsV (splitW (byteD 32) l)) = false → ppolV l = ([], false)) := Lib.hid fun h => by unfold ppolV; rw [if_neg]; rw [h]; simp
  have HV3 : Hid (okV (splitW (byteD 32) l) = true → polyB (rowsV (splitW (byteD 32) l)) = true → ppolV l = (rowsV (splitW (byteD 32) l), true)) := Lib.hid fun h h2 => by unfold ppolV; rw [if_pos ⟨h, h2⟩]
  clear HL
  go_enter Tryz.func12, Tryz.ntmps12
  go_wp2_with fail
  refine (implSplit_any _ _ _ hl (by omega) (by omega) hm).mono ?_
  rintro e w1 ⟨p1, N, c1, rfl, hps, hb1⟩
  have hN := Lib.hid hps.len
  generalize splitW (byteD 32) l = ps at *
  have hNb : N ≤ 1048577 := by rw [← hN.out]; exact HL2
  have hsm := hb1.size
  go_wp2_with fail
  go_loopw [4, 12] (fun v i wr => ∃ (k : Nat) (p' : Option Addr) (c' : Nat) (rows : List Row), k ≤ N ∧ i = .int .i64 k ∧ v = .slice p' k c' ∧ Own2 wr w1.heap.size wr.heap.size p' k c' rows (rowsV (ps.take k)) ∧ Hid (okV (ps.take k) = true) ∧ Below w1.heap.size w1 wr) (fun _ i _ => N - (intOf i).toNat)
  case atStart => exact ⟨0, _, _, [], Nat.zero_le _, rfl, rfl, by simpa [rowsV] using Own2.nil w1 w1.heap.size w1.heap.size, Lib.hid (by simp [okV]), Below.refl _ _⟩
  case round =>
    obtain ⟨k, p', c', rows, hk, rfl, rfl, hown, hok, hb⟩ := hrel
    by_cases hlt : k < N
    · obtain ⟨b, o, rfl, hc⟩ := hps.rd.cell k hlt
      replace hc := (hb.cell (World.block_lt_of_cell? w1 _ hc)).trans hc
      have hkl : k < ps.length := by rw [hN.out]; exact hlt
      have hpl := Hpl.out k hkl
      have hd1 : decide ((k : Int) < (N : Int)) = true := by simp; omega
      have hbw := Below.step hb1 hb
      have E := Lib.hid (rowsV_take hkl)
      have HKL := Lib.hid hkl
      have HR : Hid (pvecV (nthS ps k) = pvecV (nthS ps k)) := rfl
      have HO1 : Hid ((pvecV (nthS ps k)).2 = false → okV ps = false) := Lib.hid (okV_no hkl)
      have HO2 : Hid ((pvecV (nthS ps k)).2 = true → okV (ps.take (k + 1)) = true) := Lib.hid (okV_take hkl hok.out)
      have C := Lib.hid (fun W (h1 : TabW W) (h2 : ErrW W) (h3 : MaxW W) => implPVec_any (nthS ps k) W hpl h1 h2 h3)
      generalize pvecV (nthS ps k) = R at *
      obtain ⟨x, ok⟩ := R
      generalize wr = W at *
      clear hkl hpl HR
      cases ok
      · have HV4 : Hid (ppolV l = ([], false)) := Lib.hid (HV1.out (HO1.out rfl))
        go_wp2_with fail
        refine (C.out W (ht.below hbw) (he.below hbw) (hm.below hbw)).mono ?_
        rintro e w2 ⟨q, m, d, rfl, ho, hb2⟩
        go_wp2_with fail
        go_ret2
        rw [HV4.out]
        exact NewMB.none_ (Below.step hbw hb2)
      · have HO := Lib.hid (HO2.out rfl)
        go_wp2_with fail
        refine (C.out W (ht.below hbw) (he.below hbw) (hm.below hbw)).mono ?_
        rintro e w2 ⟨q, m, d, rfl, ho, hb2⟩
        dsimp only at ho
        have hown2 := (hown.below hb2).up
        have hb3 := Below.step hb hb2
        go_wp2_with (at_builtin; refine append_row rfl _ _ rfl _ w1.heap.size _ _ _ _ _ rfl (hown2.outer.alloc _) _ _ _ _ rfl (cellNew _ _ _) (by omega) (sizeNew hb3 _) ?_; intro p5 c5 w5 ho5 hg5)
        have hb5 := hg5.below (sizeNew hb3 _) fun a ha => (hown2.outer.lt a ha).1
        have h7 := (hown.below hb2).app ho hb.size (boxed _ _) ho5 hg5
        go_roundw
        case rel => exact ⟨k + 1, _, _, _, by omega, by go_num, rfl, by rw [E.out]; exact h7, HO, Below.new hb3 _ hb5⟩
        case measure => simp [intOf]; omega
    · obtain rfl : k = N := by omega
      rw [List.take_of_length_le (by rw [hN.out]; exact Nat.le_refl _)] at hown hok
      have hbw := Below.step hb1 hb
      cases hpo : polyB (rowsV ps)
      · have HV4 : Hid (ppolV l = ([], false)) := Lib.hid (HV2.out hpo)
        go_wp2_with fail
        refine (implIsPolygon_any _ _ _ _ _ (by omega) hown.rd).mono ?_
        rw [hpo]
        rintro e w2 ⟨rfl, hb2⟩
        go_wp2_with fail
        go_ret2
        rw [HV4.out]
        exact NewMB.none_ (Below.step hbw hb2)
      · have HV4 : Hid (ppolV l = (rowsV ps, true)) := Lib.hid (HV3.out hok.out hpo)
        go_wp2_with fail
        refine (implIsPolygon_any _ _ _ _ _ (by omega) hown.rd).mono ?_
        rw [hpo]
        rintro e w2 ⟨rfl, hb2⟩
        go_wp2_with fail
        go_ret2
        rw [HV4.out]
        exact ⟨_, _, _, rfl, ⟨rows, (hown.below hb2).up.widen hsm (Nat.le_refl _)⟩, Below.step hbw hb2⟩

set_option maxHeartbeats 2000000 in
theorem specPPol_any (l : List UInt8) (w : World) (hl : l.length ≤ 1048576) :
    Calls Tryz.prog 13 #[.string ⟨l.toArray⟩] w (NewMB w (ppolV l)) := by
  have Hpl : Hid (∀ k, k < (splitW (byteD 32) l).length → (nthS (splitW (byteD 32) l) k).length ≤ 1048576) := Lib.hid fun k hk => Nat.le_trans (piece_len hk) hl
  have HL := splitA_length (byteD 32) l []
  have HL2 : (splitW (byteD 32) l).length ≤ 1048577 := by unfold splitW; omega
  have HV1 : Hid (okV (splitW (byteD 32) l) = false → ppolV l = ([], false)) := Lib.hid fun h => by unfold ppolV; rw [if_neg]; rw [h]; simp
  have HV2 : Hid (polyB (rowsV (splitW (byteD 32) l)) = false → ppolV l = ([], false)) := Lib.hid fun h => by unfold ppolV; rw [if_neg]; rw [h]; simp
  have HV3 : Hid (okV (splitW (byteD 32) l) = true → polyB (rowsV (splitW (byteD 32) l)) = true → ppolV l = (rowsV (splitW (byteD 32) l), true)) := Lib.hid fun h h2 => by unfold ppolV; rw [if_pos ⟨h, h2⟩]
  have hdl : (⟨l.toArray⟩ : ByteArray).data.toList = l := by simp
  have hE := Own2.empty w
  have hB := boxed w (.cells #[] 29)
  have CS := Lib.hid (fun W => specSplit_any ⟨l.toArray⟩ l 32 W hdl hl (by omega) (by omega))
  clear HL hdl
  go_enter Tryz.func13, Tryz.ntmps13
  go_wp2_with fail
  refine (CS.out _).mono ?_
  rintro e w1 ⟨p1, N, c1, rfl, hps, hb1⟩
  have hbT := Below.step hB hb1
  have hE1 := (hE.below hb1).up
  have hN := Lib.hid hps.len
  generalize splitW (byteD 32) l = ps at *
  have hNb : N ≤ 1048577 := by rw [← hN.out]; exact HL2
  have hps1 := hps.widen (lo' := w.heap.size) (by simp) (Nat.le_refl _)
  clear hps
  go_wp2_with fail
  go_loopw [4, 6] (fun v i wr => ∃ (k : Nat) (p' : Option Addr) (c' : Nat) (rows : List Row), k ≤ N ∧ i = .int .i64 k ∧ v = .slice p' k c' ∧ Own2 wr w.heap.size wr.heap.size p' k c' rows (rowsV (ps.take k)) ∧ OwnS wr w.heap.size wr.heap.size p1 N c1 ps ∧ Hid (okV (ps.take k) = true) ∧ Below w.heap.size w wr) (fun _ i _ => N - (intOf i).toNat)
  case atStart => exact ⟨0, _, _, _, Nat.zero_le _, rfl, rfl, by simpa [rowsV] using hE1, hps1, Lib.hid (by simp [okV]), hbT⟩
  case round =>
    clear hE1 hps1 hE hB hb1
    obtain ⟨k, p', c', rows, hk, rfl, rfl, hown, hps, hok, hb⟩ := hrel
    by_cases hlt : k < N
    · obtain ⟨b, o, rfl, hc⟩ := hps.rd.cell k hlt
      have hkl : k < ps.length := by rw [hN.out]; exact hlt
      have hpl := Hpl.out k hkl
      have hd1 : decide ((k : Int) < (N : Int)) = true := by simp; omega
      have E := Lib.hid (rowsV_take hkl)
      have HO1 : Hid ((pvecV (nthS ps k)).2 = false → okV ps = false) := Lib.hid (okV_no hkl)
      have HO2 : Hid ((pvecV (nthS ps k)).2 = true → okV (ps.take (k + 1)) = true) := Lib.hid (okV_take hkl hok.out)
      have C := Lib.hid (fun W => specPVec_any (nthS ps k) W hpl)
      have HKL := Lib.hid hkl
      generalize pvecV (nthS ps k) = R at *
      obtain ⟨x, ok⟩ := R
      generalize wr = W at *
      clear hkl hpl
      cases ok
      · have HV4 : Hid (ppolV l = ([], false)) := Lib.hid (HV1.out (HO1.out rfl))
        go_wp2_with fail
        refine (C.out W).mono ?_
        rintro e w2 ⟨q, m, d, rfl, ho, hb2⟩
        have hb3 := Below.step hb hb2
        go_wp2_with fail
        go_ret2
        rw [HV4.out]
        exact NewMB.empty hb3
      · have HO := Lib.hid (HO2.out rfl)
        by_cases h12 : 12 ≤ k
        · have hd2 : decide (12 ≤ (k : Int)) = true := by simp; omega
          have HV4 : Hid (ppolV l = ([], false)) := Lib.hid (HV2.out (polyB_no fun h => by have h2 := h.2.1; rw [rowsV_length] at h2; have := HKL.out; omega))
          go_wp2_with fail
          refine (C.out W).mono ?_
          rintro e w2 ⟨q, m, d, rfl, ho, hb2⟩
          have hb3 := Below.step hb hb2
          go_wp2_with fail
          go_ret2
          rw [HV4.out]
          exact NewMB.empty hb3
        · have hd2 : decide (12 ≤ (k : Int)) = false := by simp; omega
          go_wp2_with fail
          refine (C.out W).mono ?_
          rintro e w2 ⟨q, m, d, rfl, ho, hb2⟩
          dsimp only at ho
          have hown2 := (hown.below hb2).up
          have hps2 := (hps.below hb2).widen (hi' := w2.heap.size) (Nat.le_refl _) hb2.size
          have hb3 := Below.step hb hb2
          go_wp2_with (at_builtin; refine append_row rfl _ _ rfl _ w.heap.size _ _ _ _ _ rfl (hown2.outer.alloc _) _ _ _ _ rfl (cellNew _ _ _) (by omega) (sizeNew hb3 _) ?_; intro p5 c5 w5 ho5 hg5)
          have hb5 := hg5.below (sizeNew hb3 _) fun a ha => (hown2.outer.lt a ha).1
          have h7 := (hown.below hb2).app ho hb.size (boxed _ _) ho5 hg5
          have hps5 : OwnS w5 w.heap.size w5.heap.size (some ⟨b, o, none⟩) N c1 ps := OwnV.up (OwnV.kept (OwnV.alloc hps2 (.cells #[.slice q m d] 29)) hg5.by_ (OwnV.ne (hown2.outer.alloc (.cells #[.slice q m d] 29)) (OwnV.alloc hps2 (.cells #[.slice q m d] 29)) (by decide)))
          go_roundw
          case rel => exact ⟨k + 1, _, _, _, by omega, by go_num, rfl, by rw [E.out]; exact h7, hps5, HO, Below.new hb3 _ hb5⟩
          case measure => simp [intOf]; omega
    · obtain rfl : k = N := by omega
      rw [List.take_of_length_le (by rw [hN.out]; exact Nat.le_refl _)] at hown hok
      cases hpo : polyB (rowsV ps)
      · have HV4 : Hid (ppolV l = ([], false)) := Lib.hid (HV2.out hpo)
        go_wp2_with fail
        refine (specIsPolygon_any _ _ _ _ _ (by omega) hown.rd).mono ?_
        rw [hpo]
        rintro e w2 ⟨rfl, hb2⟩
        go_wp2_with fail
        go_ret2
        rw [HV4.out]
        exact NewMB.empty (Below.step hb hb2)
      · have HV4 : Hid (ppolV l = (rowsV ps, true)) := Lib.hid (HV3.out hok.out hpo)
        go_wp2_with fail
        refine (specIsPolygon_any _ _ _ _ _ (by omega) hown.rd).mono ?_
        rw [hpo]
        rintro e w2 ⟨rfl, hb2⟩
        go_wp2_with fail
        go_ret2
        rw [HV4.out]
        exact ⟨_, _, _, rfl, ⟨rows, (hown.below hb2).up⟩, Below.step hb hb2⟩

theorem totV_rows (B : Nat) (xss : List (List Int)) (h : ∀ r, r ∈ xss → r.length ≤ B) : tot xss ≤ B * xss.length := by
  induction xss with
  | nil => simp [tot]
  | cons r t ih =>
    have h1 := h r (by simp)
    have h2 := ih (fun s hs => h s (by simp [hs]))
    simp only [tot, List.map_cons, List.sum_cons, List.length_cons, Nat.mul_succ] at h2 ⊢
    omega
theorem ppolV_len (l : List UInt8) : (ppolV l).1.length ≤ 12 ∧ tot (ppolV l).1 ≤ 36 := by
  unfold ppolV
  split
  · rename_i h
    have h12 := (polyB_iff.1 h.2).2.1
    have := totV_rows 3 (rowsV (splitW (byteD 32) l)) (fun r hr => by
      rw [rowsV, List.mem_map] at hr
      obtain ⟨p, _, rfl⟩ := hr
      exact pvecV_len p)
    refine ⟨h12, ?_⟩
    show tot (rowsV (splitW (byteD 32) l)) ≤ 36
    omega
  · simp [tot]

end Go.Proofs.YthdonnkekggbbaaGreatDoor
