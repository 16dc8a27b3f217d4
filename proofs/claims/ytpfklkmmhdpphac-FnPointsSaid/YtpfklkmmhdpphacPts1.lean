/- Contract of spec.PointsIn. Conditions: sizes. -/
import Derived.Test.YtpfklkmmhdpphacPts
namespace Go.Proofs.Ytpfklkmmhdpphac
open Go.RowKit
set_option linter.unusedVariables false
set_option linter.unusedSimpArgs false
set_option maxRecDepth 100000

theorem rowsOf_app (rows : List Row) (idx : List Nat) (i : Nat) : rowsOf rows (idx ++ [i]) = rowsOf rows idx ++ [rowAtD rows i] := by simp [rowsOf]
theorem Own2.cellD {w : World} {lo hi : Nat} {p : Option Addr} {n c : Nat} {rows : List Row} {xss : List (List Int)} (h : Own2 w lo hi p n c rows xss) {k : Nat} (hk : k < n) :
    ∃ g, p = some ⟨g, 0, none⟩ ∧ w.cell? ⟨g, k, none⟩ = some (.slice (rowAtD rows k).1 (rowAtD rows k).2.1 (rowAtD rows k).2.2) ∧ Ints w (rowAtD rows k).1 (rowAtD rows k).2.1 (nthR xss k) := by
  have hkr : k < rows.length := by rw [h.count]; exact hk
  obtain ⟨g, hg, hc⟩ := h.rowAt k hk hkr
  exact ⟨g, hg, by rw [rowAtD_eq hkr]; exact hc, by rw [rowAtD_eq hkr]; exact (h.inner k hkr).ints⟩

/-- A slice that lies outside an interval of blocks. -/
def Off (lo hi : Nat) (p : Option Addr) : Prop := ∀ g, blk p = some g → g < lo ∨ hi ≤ g
theorem Off.grow {W W' : World} {lo hi : Nat} {p p' : Option Addr} (h : Off lo hi p) (hg : Grow W W' p p') (hh : hi ≤ W.heap.size) : Off lo hi p' := fun g e => by
  rcases hg.at_ with h1 | h1
  · exact h g (by rw [← h1, e])
  · rw [h1] at e; injection e with e; omega
theorem Own2.off {W W' : World} {lo hi : Nat} {p p' q : Option Addr} {n c : Nat} {rows : List Row} {xss : List (List Int)} (h : Own2 W lo hi q n c rows xss) (ho : Off lo hi p) (hg : Grow W W' p p') : Own2 W' lo hi q n c rows xss := by
  cases p with
  | none => exact h.within (lo' := 0) (hi' := 0) ⟨hg.by_.os, hg.by_.tape, hg.by_.output, hg.by_.size, fun k hk _ => hg.by_.block k hk (by simp [blk])⟩ (.inr (Nat.zero_le _))
  | some a =>
    have h1 := ho a.block rfl
    exact h.within (lo' := a.block) (hi' := a.block + 1) ⟨hg.by_.os, hg.by_.tape, hg.by_.output, hg.by_.size, fun k hk hd => hg.by_.block k hk (by
      simp only [blk, Option.map_some, ne_eq, Option.some.injEq]; omega)⟩ (by omega)

set_option maxHeartbeats 1000000 in
theorem specPoints_any (z : Int) (p : Option Addr) (n c : Nat) (hs : List Pr) (w : World) (hn : n ≤ 9223372036854775807) (hx : Prs w p n hs) :
    Calls Try.prog 16 #[.agg #[.int .i64 z, .slice p n c]] w (NewL w (ptsV z hs)) := by
  have kb := (Box2.new w (.int .i64 z) (.slice p n c) 26).alloc (.cells #[] 30)
  have hT := boxed2 w (.cells #[.int .i64 z, .slice p n c] 26) (.cells #[] 30)
  have hx1 := hx.below hT
  have hsz : (w.alloc (.cells #[.int .i64 z, .slice p n c] 26)).heap.size = w.heap.size + 1 := by simp
  have hemp := Own2.empty (w.alloc (.cells #[.int .i64 z, .slice p n c] 26))
  rw [hsz] at hemp
  have b0 := kb.c0
  have b1 := kb.c1
  cases h1 : isReg z hs
  · go_enter Try.func16, Try.ntmps16
    go_wp2_with fail
    refine (specIsRegion_any _ _ _ _ _ _ hn hx1).mono ?_
    rw [h1]
    rintro e w1 ⟨rfl, hb1⟩
    go_wp2
    go_ret
    rw [ptsV_no h1]
    exact ⟨_, _, _, rfl, ⟨_, (hemp.below hb1).up.widen (by omega) (Nat.le_refl _)⟩, Below.step hT hb1⟩
  · have hf := isReg_facts h1
    obtain ⟨zn, rfl⟩ : ∃ zn : Nat, z = (zn : Int) := ⟨z.toNat, by omega⟩
    have hpts : Hid (ptsV (zn : Int) hs = (allTo (-6) 6 zn).filter (hasP hs)) := by show _ = _; rw [ptsV, if_pos h1, boxOf, Int.toNat_natCast]
    have hbl := boxOf_len hf.1 hf.2.1
    rw [boxOf, Int.toNat_natCast] at hbl
    have hz1 := hf.1
    have hz3 := hf.2.1
    have Hlen : Hid (∀ k, k < hs.length → (nrm hs k).length = zn) := Lib.hid fun k hk => by have := isReg_len h1 k hk; omega
    have Hrow : Hid (∀ r ∈ allTo (-6) 6 zn, r.length = zn) := Lib.hid (allTo_rows (-6) 6 zn)
    clear hf
    go_enter Try.func16, Try.ntmps16
    go_wp2_with fail
    refine (specIsRegion_any _ _ _ _ _ _ hn hx1).mono ?_
    rw [h1]
    rintro e w1 ⟨rfl, hb1⟩
    have kb1 := kb.below hb1
    have hx2 := hx1.below hb1
    have hT1 := Below.step hT hb1
    have hemp1 := (hemp.below hb1).up
    have hs1 := hb1.size
    simp only [World.size_alloc] at hs1
    clear b0 b1
    have b0 := kb1.c0
    have b1 := kb1.c1
    go_wp2_with fail
    refine (l5All_any zn (-6) 6 _ (by omega) (by decide) (by omega) (by omega)).mono ?_
    rintro e w2 ⟨pL, N, cL, rfl, ⟨rowsL, hL⟩, hb2⟩
    have kb2 := kb1.below hb2
    have hx3 := hx2.below hb2
    have hT2 := Below.step hT1 hb2
    have hemp2 := (hemp1.below hb2)
    have hs2 := hb2.size
    have hNl : (allTo (-6) 6 zn).length = N := by rw [← hL.len, hL.count]
    have HNl := Lib.hid hNl
    rw [hNl] at hbl
    clear hNl b0 b1
    have c20 := kb2.c0
    have c21 := kb2.c1
    generalize hA : allTo (-6) 6 zn = A at *
    have HA := Lib.hid hA
    clear hA
    go_wp2
    go_loopw [3, 5] (fun a i wr => ∃ (k : Nat) (p' : Option Addr) (n' c' : Nat), k ≤ N ∧ i = .int .i64 k ∧ a = .slice p' n' c' ∧ OwnV wr 30 1 (w.heap.size + 1) wr.heap.size p' n' c' ((rowsOf rowsL (idxTo (hasP hs) A k)).map Row.val) ∧ Off w1.heap.size w2.heap.size p' ∧ Own2 wr w1.heap.size w2.heap.size pL N cL rowsL A ∧ n' ≤ k ∧ w2.heap.size ≤ wr.heap.size ∧ Below (w.heap.size + 1) w2 wr) (fun _ i _ => N - (intOf i).toNat)
    case atStart => exact ⟨0, _, _, _, Nat.zero_le _, rfl, rfl, hemp2.outer.up, fun g e => .inl (by have := hemp1.outer.top _ (show some _ = some _ from rfl); simp [blk] at e; omega), hL, Nat.zero_le _, Nat.le_refl _, Below.refl _ _⟩
    case round =>
      obtain ⟨k, p', n', c', hk, rfl, rfl, hout, hoff, hL, hnk, hsw, hb⟩ := hrel
      have hbw : Below w.heap.size w wr := hT2.trans (hb.mono (Nat.le_succ _))
      have hx4 := hx.below hbw
      by_cases hlt : k < N
      · obtain ⟨g, rfl, hcc, hik⟩ := hL.cellD hlt
        have k0 := (hb.cell (Nat.lt_succ_self _)).trans c20
        have k1 := (hb.cell (Nat.lt_succ_self _)).trans c21
        have hAl : k < A.length := by rw [HNl.out]; exact hlt
        have hm3 : (rowAtD rowsL k).2.1 ≤ 3 := by rw [← hik.len, Hrow.out _ (nthR_mem hAl)]; omega
        have hlen1 : ∀ j, j < hs.length → (nrm hs j).length = (rowAtD rowsL k).2.1 := fun j hj => by rw [Hlen.out j hj, ← hik.len, Hrow.out _ (nthR_mem hAl)]
        have Hlen1 := Lib.hid hlen1
        clear hlen1
        have Hst : Hid (idxTo (hasP hs) A (k + 1) = if hasP hs (nthR A k) = true then idxTo (hasP hs) A k ++ [k] else idxTo (hasP hs) A k) := rfl
        generalize hrow : rowAtD rowsL k = row at *
        obtain ⟨q, m, d⟩ := row
        dsimp only at hcc hik hm3
        have Hrow2 := Lib.hid hrow
        clear hrow
        have hd1 : decide ((k : Int) < (N : Int)) = true := by simp; omega
        generalize hhas : hasP hs (nthR A k) = t at *
        have Hhas := Lib.hid hhas
        go_wp2
        go_region_held3 (fun w' => w'.cell? ⟨w.heap.size, 0, none⟩ = some (.int .i64 zn) ∧ w'.cell? ⟨w.heap.size, 1, none⟩ = some (.slice p n c) ∧ w'.cell? ⟨g, k, none⟩ = some (.slice q m d)) (exact ⟨k0, k1, hcc⟩) (first | (go_at_call 43; (with_reducible refine (l4Has_any _ _ _ _ _ _ _ _ _ _ hn (by omega) hx4.drew hik.drew Hlen1.out).mono ?_); rw [Hhas.out]; rintro e w5 ⟨rfl, hb5⟩; replace k0 := Below.cells hb5 k0; replace k1 := Below.cells hb5 k1; replace hcc := Below.cells hb5 hcc))
        have hb5' : Below (w.heap.size + 1) w2 w5 := hb.trans ((Below.step (drewBelow wr) hb5).mono (by omega))
        have hsw5 : w2.heap.size ≤ w5.heap.size := Nat.le_trans hsw (Below.step (drewBelow wr) hb5).size
        have hL5 := hL.drew.below hb5
        have hout5 := (hout.drew.below hb5).up
        cases t
        · go_wp2
          go_roundw
          case rel =>
            refine ⟨k + 1, _, _, _, by omega, by go_num, rfl, ?_, hoff, hL5, by omega, hsw5, hb5'⟩
            rw [Hst.out]
            simpa using hout5
          case measure => simp [intOf]; omega
        · go_wp2_with (first | (at_builtin; refine append_row rfl _ _ rfl _ (w.heap.size + 1) _ _ _ _ _ rfl (hout5.alloc _) _ _ _ _ rfl (cellNew _ _ _) (by omega) (by simp; omega) ?_; intro p7 c7 w7 ho7 hg7))
          have hsw7 : w2.heap.size ≤ w7.heap.size := by have := hg7.by_.size; simp at this; omega
          have hoff7 := hoff.grow hg7 (by simp; omega)
          have hL7 := (hL5.below (boxed w5 (.cells #[.slice q m d] 30))).off hoff hg7
          have hb7 : Below (w.heap.size + 1) w2 w7 := (hb5'.alloc (by omega) _).trans (hg7.below (by simp; omega) (fun a ha => (hout5.lt a ha).1))
          go_roundw
          case rel =>
            refine ⟨k + 1, _, _, _, by omega, by go_num, rfl, ?_, hoff7, hL7, by omega, hsw7, hb7⟩
            rw [Hst.out, if_pos rfl, rowsOf_app, Hrow2.out, List.map_append]
            exact ho7
          case measure => simp [intOf]; omega
      · have e : k = N := by omega
        subst e
        go_wp2
        go_ret
        refine ⟨_, _, _, rfl, ⟨rowsOf rowsL (idxTo (hasP hs) A k), ?_⟩, hbw⟩
        have h2 := (hL.widen (lo' := w.heap.size) (hi' := w2.heap.size) (by omega) (Nat.le_refl _)).pick (idx := idxTo (hasP hs) A k) (fun i hi => by have := idxTo_lt _ _ _ i hi; rw [hL.count]; exact this) (idxTo_inc _ _ _) hout (by omega) hsw
        rw [idxTo_filter _ _ _ (by rw [HNl.out]; exact Nat.le_refl _), List.take_of_length_le (by rw [HNl.out]; exact Nat.le_refl _)] at h2
        rw [hpts.out]
        exact h2

end Go.Proofs.Ytpfklkmmhdpphac
