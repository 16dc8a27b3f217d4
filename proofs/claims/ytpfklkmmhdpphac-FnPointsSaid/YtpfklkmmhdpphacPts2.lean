/- Contract of impl.PointsIn. Conditions: sizes. -/
import Derived.Test.YtpfklkmmhdpphacPts1
import Derived.Deep.OwnRows
import Derived.Deep.CutRange
namespace Go.Proofs.Ytpfklkmmhdpphac
open Go.RowKit
set_option linter.unusedVariables false
set_option linter.unusedSimpArgs false
set_option maxRecDepth 100000

theorem made_zeros1 (n : Nat) : (madeCells #[Value.int .i64 0] n).toList = (List.replicate n (0 : Int)).map (Value.int .i64) := by
  rw [toList_madeCells_one, List.map_replicate]
theorem Own.zeros (w : World) (n : Nat) (hn : n ≤ maxLen) : Own (w.alloc (.cells (madeCells #[Value.int .i64 0] n) 3)) w.heap.size (w.heap.size + 1) (some ⟨w.heap.size, 0, none⟩) n n (List.replicate n 0) := by
  have hs : (madeCells #[Value.int .i64 0] n).size = n := by rw [← Array.length_toList, made_zeros1]; simp
  have h := World.ownsRow_lit (base := w.heap.size) (e := 3) (size := 1) w (madeCells #[Value.int .i64 0] n) n (Nat.le_refl _) hn (by rw [hs, Nat.mul_one])
  rw [made_zeros1] at h
  exact ⟨h, fun a ha => by injection ha with ha; subst ha; exact Nat.lt_succ_self _⟩

/-- Two rows of the call's own, apart. -/
structure Two (w : World) (lo g1 g2 n : Nat) (xs ys : List Int) : Prop where
  a : Own w g1 (g1 + 1) (some ⟨g1, 0, none⟩) n n xs
  b : Own w g2 (g2 + 1) (some ⟨g2, 0, none⟩) n n ys
  ne : g1 ≠ g2
  la : lo ≤ g1
  lb : lo ≤ g2
theorem Two.ab (w : World) (n lo : Nat) (hn : n ≤ maxLen) (hl : lo ≤ w.heap.size) : Two ((w.alloc (.cells (madeCells #[Value.int .i64 0] n) 3)).alloc (.cells (madeCells #[Value.int .i64 0] n) 3)) lo w.heap.size (w.heap.size + 1) n (List.replicate n 0) (List.replicate n 0) := by
  have h2 := Own.zeros (w.alloc (.cells (madeCells #[Value.int .i64 0] n) 3)) n hn
  rw [World.size_alloc] at h2
  exact ⟨(Own.zeros w n hn).alloc _, h2, by omega, hl, by omega⟩
theorem Two.symm {w : World} {lo g1 g2 n : Nat} {xs ys : List Int} (h : Two w lo g1 g2 n xs ys) : Two w lo g2 g1 n ys xs := ⟨h.b, h.a, fun e => h.ne e.symm, h.lb, h.la⟩
theorem Two.drew {w : World} {lo g1 g2 n : Nat} {xs ys : List Int} (h : Two w lo g1 g2 n xs ys) : Two w.drew lo g1 g2 n xs ys := ⟨h.a.drew, h.b.drew, h.ne, h.la, h.lb⟩

theorem Own.other {w : World} {g n c g2 : Nat} {xs : List Int} (h : Own w g (g + 1) (some ⟨g, 0, none⟩) n c xs) (hne : g2 ≠ g) (k : Nat) (u : Value) : Own (w.setCell ⟨g2, k, none⟩ u) g (g + 1) (some ⟨g, 0, none⟩) n c xs :=
  h.within (lo' := g2) (hi' := g2 + 1) (Within.setCell (p := ⟨g2, k, none⟩) (Within.refl g2 (g2 + 1) w) (Nat.le_refl _) (Nat.lt_succ_self _) u) (by omega)
theorem Two.setA {w : World} {lo g1 g2 n : Nat} {xs ys : List Int} (h : Two w lo g1 g2 n xs ys) (k : Nat) (u : Int) : Two (w.setCell ⟨g1, k, none⟩ (.int .i64 u)) lo g1 g2 n (xs.set k u) ys := ⟨h.a.set k u, h.b.other h.ne k _, h.ne, h.la, h.lb⟩
theorem Two.setB {w : World} {lo g1 g2 n : Nat} {xs ys : List Int} (h : Two w lo g1 g2 n xs ys) (k : Nat) (u : Int) : Two (w.setCell ⟨g2, k, none⟩ (.int .i64 u)) lo g1 g2 n xs (ys.set k u) := (h.symm.setA k u).symm
theorem mix_rep {k n : Nat} {u v : Int} (h : k < n) : (mix (List.replicate n u) (List.replicate n v) k).set k u = mix (List.replicate n u) (List.replicate n v) (k + 1) := by
  have h2 := mix_set (ys := List.replicate n u) (zs := List.replicate n v) (k := k) (by simpa using h) (by simpa using h)
  rwa [nth_eq (by simpa using h), List.getElem_replicate] at h2

set_option maxHeartbeats 1000000 in
theorem implPoints_any (z : Int) (p : Option Addr) (n c : Nat) (hs : List Pr) (w : World) (hn : n ≤ 9223372036854775807) (hx : Prs w p n hs) :
    Calls Try.prog 6 #[.agg #[.int .i64 z, .slice p n c]] w (NewL w (ptsV z hs)) := by
  obtain ⟨b0, b1⟩ := box1c w (.int .i64 z) (.slice p n c) 26
  have kb := Box2.new w (.int .i64 z) (.slice p n c) 26
  have hT := boxed w (.cells #[.int .i64 z, .slice p n c] 26)
  have hx1 := hx.below hT
  have hsz : (w.alloc (.cells #[.int .i64 z, .slice p n c] 26)).heap.size = w.heap.size + 1 := by simp
  cases h1 : isReg z hs
  · go_enter Try.func6, Try.ntmps6
    go_wp2_with fail
    refine (implIsRegion_any _ _ _ _ _ _ hn hx1).mono ?_
    rw [h1]
    rintro e w1 ⟨rfl, hb1⟩
    go_wp2
    go_ret
    rw [ptsV_no h1]
    exact ⟨_, _, _, rfl, ⟨[], Own2.nil _ _ _⟩, Below.step hT hb1⟩
  · have hf := isReg_facts h1
    obtain ⟨zn, rfl⟩ : ∃ zn : Nat, z = (zn : Int) := ⟨z.toNat, by omega⟩
    have hpts : Hid (ptsV (zn : Int) hs = (allTo (-6) 6 zn).filter (hasPt zn hs)) := by show _ = _; rw [← ptsV_has h1, boxOf, Int.toNat_natCast]
    have hbl := boxOf_len hf.1 hf.2.1
    rw [boxOf, Int.toNat_natCast] at hbl
    have hz1 := hf.1
    have hz3 := hf.2.1
    have Hrow : Hid (∀ r ∈ allTo (-6) 6 zn, r.length = zn) := Lib.hid (allTo_rows (-6) 6 zn)
    clear hf
    go_enter Try.func6, Try.ntmps6
    go_wp2_with fail
    refine (implIsRegion_any _ _ _ _ _ _ hn hx1).mono ?_
    rw [h1]
    rintro e w1 ⟨rfl, hb1⟩
    have kb1 := kb.below hb1
    have hT1 := Below.step hT hb1
    have hs1 := hb1.size
    rw [hsz] at hs1
    clear b0 b1
    have b0 := kb1.c0
    have b1 := kb1.c1
    have hmk := run_make_row' (P := Try.prog) 30 3 (.int .i64 0) 8 Try.underlying30 Try.infoInt rfl .i64 .i64 zn (by omega) (by omega)
    have b0a : ∀ o, (w1.alloc o).cell? ⟨w.heap.size, 0, none⟩ = some (.int .i64 zn) := fun o => (kb1.alloc o).c0
    go_upto_region 3 with fail
    go_cut [3, 4] (fun a b wx => ∃ g1 g2 : Nat, a = .slice (some ⟨g1, 0, none⟩) zn zn ∧ b = .slice (some ⟨g2, 0, none⟩) zn zn ∧ Two wx w1.heap.size g1 g2 zn (List.replicate zn 0) (List.replicate zn 0) ∧ Below w1.heap.size w1 wx)
    case first =>
      go_region
      all_goals
        go_wp2_with fail
        go_meet
        have hB : Below w1.heap.size w1 ((w1.alloc (.cells (madeCells #[Value.int .i64 0] zn) 3)).alloc (.cells (madeCells #[Value.int .i64 0] zn) 3)).drew := (boxed2 w1 _ _).drew
        have hTw := (Two.ab w1 zn w1.heap.size (by unfold maxLen; omega) (Nat.le_refl _)).drew
        first | exact ⟨_, _, rfl, rfl, hTw, hB⟩ | exact ⟨_, _, rfl, rfl, hTw.symm, hB⟩
    case rest =>
      obtain ⟨g1, g2, rfl, rfl, hTw, hbc⟩ := hcut
      have kb2 := kb1.below hbc
      have hT2 := Below.step hT1 hbc
      have hs2 := hbc.size
      clear b0 b1 b0a hmk
      have c0 := kb2.c0
      have c1 := kb2.c1
      go_wp2
      go_loopw [20] (fun i wr => ∃ k : Nat, k ≤ zn ∧ i = .int .i64 k ∧ Two wr w1.heap.size g1 g2 zn (mix (List.replicate zn (-6)) (List.replicate zn 0) k) (mix (List.replicate zn 6) (List.replicate zn 0) k) ∧ Below w1.heap.size w1 wr) (fun i _ => zn - (intOf i).toNat)
      case atStart => exact ⟨0, Nat.zero_le _, rfl, by rw [mix_zero, mix_zero]; exact hTw, hbc⟩
      case round =>
        obtain ⟨k, hk, rfl, hTw, hb⟩ := hrel
        by_cases hlt : k < zn
        · have hc1 := hTw.a.cell hlt
          have hf1 := hTw.a.frozen k
          have hT3 := hTw.setA k (-6)
          have hT4 := hT3.setB k 6
          rw [mix_rep hlt] at hT4
          have hT5 := hT4
          rw [mix_rep hlt] at hT5
          clear hT4
          have hc2 := hT3.b.cell hlt
          have hf2 := hT3.b.frozen k
          go_wp2
          go_roundw
          case rel => exact ⟨k + 1, by omega, by go_num, hT5, (hb.setCell hTw.la _).setCell hTw.lb _⟩
          case measure => simp [intOf]; omega
        · obtain rfl : k = zn := by omega
          rw [mix_all (by simp) (by simp), mix_all (by simp) (by simp)] at hTw
          have hs3 := hb.size
          have hbw := Below.step hT1 hb
          have hnth : ∀ j, j < k → nth (List.replicate k (-6)) j = -6 ∧ nth (List.replicate k 6) j = 6 := fun j hj => by rw [nth_eq (by simpa using hj), nth_eq (by simpa using hj)]; simp
          have hwd : ∀ j, j < k → wid (nth (List.replicate k (-6)) j) (nth (List.replicate k 6) j) ≤ 201 := fun j hj => by rw [(hnth j hj).1, (hnth j hj).2]; decide
          have hrg : ∀ j, j < k → -100000 ≤ nth (List.replicate k (-6)) j ∧ nth (List.replicate k 6) j ≤ 100000 := fun j hj => by rw [(hnth j hj).1, (hnth j hj).2]; decide
          have hlc := latTo_const hnth k (Nat.le_refl _)
          go_wp2_with fail
          refine (lattice_any _ _ k _ _ (List.replicate k (-6)) (List.replicate k 6) _ (by omega) hTw.a.ints hTw.b.ints hwd hrg).mono ?_
          rw [hlc]
          clear hnth hwd hrg hlc
          rintro e w2 ⟨pL, N, cL, rfl, ⟨rowsL, hL⟩, hb2⟩
          have hs4 := hb2.size
          have hT6 := Below.step hbw hb2
          have c20 := (kb1.below (Below.step hb hb2)).c0
          have c21 := (kb1.below (Below.step hb hb2)).c1
          have hNl : (allTo (-6) 6 k).length = N := by rw [← hL.len, hL.count]
          have HNl := Lib.hid hNl
          rw [hNl] at hbl
          clear hNl c0 c1
          generalize hA : allTo (-6) 6 k = A at *
          have HA := Lib.hid hA
          clear hA
          go_wp2
          go_loopw [6, 34] (fun a i wr => ∃ (k' : Nat) (p' : Option Addr) (n' c' : Nat), k' ≤ N ∧ i = .int .i64 k' ∧ a = .slice p' n' c' ∧ OwnV wr 30 1 (w.heap.size + 1) wr.heap.size p' n' c' ((rowsOf rowsL (idxTo (hasPt k hs) A k')).map Row.val) ∧ Off w1.heap.size w2.heap.size p' ∧ Own2 wr w1.heap.size w2.heap.size pL N cL rowsL A ∧ n' ≤ k' ∧ w2.heap.size ≤ wr.heap.size ∧ Below (w.heap.size + 1) w2 wr) (fun _ i _ => N - (intOf i).toNat)
          case atStart => exact ⟨0, _, _, _, Nat.zero_le _, rfl, rfl, OwnV.nil _ _ _ _ _, fun g e => by simp [blk] at e, hL.widen (by omega) (Nat.le_refl _), Nat.zero_le _, Nat.le_refl _, Below.refl _ _⟩
          case round =>
            obtain ⟨k', p', n', c', hk', rfl, rfl, hout, hoff, hL, hnk, hsw, hb3⟩ := hrel
            have hbw3 : Below w.heap.size w wr := hT6.trans (hb3.mono (Nat.le_succ _))
            have hx4 := hx.below hbw3
            by_cases hlt : k' < N
            · obtain ⟨g, rfl, hcc, hik⟩ := hL.cellD hlt
              have k0 := (hb3.cell (Nat.lt_succ_self _)).trans c20
              have k1 := (hb3.cell (Nat.lt_succ_self _)).trans c21
              have hAl : k' < A.length := by rw [HNl.out]; exact hlt
              have hm3 : (rowAtD rowsL k').2.1 ≤ 3 := by rw [← hik.len, Hrow.out _ (nthR_mem hAl)]; omega
              have Hst : Hid (idxTo (hasPt k hs) A (k' + 1) = if hasPt k hs (nthR A k') = true then idxTo (hasPt k hs) A k' ++ [k'] else idxTo (hasPt k hs) A k') := rfl
              generalize hrow : rowAtD rowsL k' = row at *
              obtain ⟨q, m, d⟩ := row
              dsimp only at hcc hik hm3
              have Hrow2 := Lib.hid hrow
              clear hrow
              have hd1 : decide ((k' : Int) < (N : Int)) = true := by simp; omega
              generalize hhas : hasPt k hs (nthR A k') = t at *
              have Hhas := Lib.hid hhas
              go_wp2_with fail
              refine (implHas_any _ _ _ _ _ _ _ _ _ _ hn (by omega) hx4 hik).mono ?_
              rw [Hhas.out]
              rintro e w5 ⟨rfl, hb5⟩
              have hb5' : Below (w.heap.size + 1) w2 w5 := hb3.trans (hb5.mono (by omega))
              have hsw5 : w2.heap.size ≤ w5.heap.size := Nat.le_trans hsw hb5.size
              have hL5 := hL.below hb5
              have hout5 := (hout.below hb5).up
              cases t
              · go_wp2
                go_roundw
                case rel =>
                  refine ⟨k' + 1, _, _, _, by omega, by go_num, rfl, ?_, hoff, hL5, by omega, hsw5, hb5'⟩
                  rw [Hst.out]
                  simpa using hout5
                case measure => simp [intOf]; omega
              · go_wp2_with (first | (at_builtin; refine append_row rfl _ _ rfl _ (w.heap.size + 1) _ _ _ _ _ rfl (hout5.alloc _) _ _ _ _ rfl (cellNew _ _ _) (by omega) (by simp; omega) ?_; intro p7 c7 w7 ho7 hg7))
                have hsw7 : w2.heap.size ≤ w7.heap.size := by have := hg7.by_.size; simp at this; omega
                have hoff7 := hoff.grow hg7 (by simp; omega)
                have hL7 := (hL5.below (boxed w5 (.cells #[.slice q m d] 30))).off hoff hg7
                have hb7 : Below (w.heap.size + 1) w2 w7 := (hb5'.alloc (by omega) _).trans (hg7.below (by simp; omega) (fun a ha => (hout5.lt a ha).1))
                go_roundw
                case rel =>
                  refine ⟨k' + 1, _, _, _, by omega, by go_num, rfl, ?_, hoff7, hL7, by omega, hsw7, hb7⟩
                  rw [Hst.out, if_pos trivial, rowsOf_app, Hrow2.out, List.map_append]
                  exact ho7
                case measure => simp [intOf]; omega
            · have e : k' = N := by omega
              subst e
              go_wp2
              go_ret
              refine ⟨_, _, _, rfl, ⟨rowsOf rowsL (idxTo (hasPt k hs) A k'), ?_⟩, hbw3⟩
              have h2 := (hL.widen (lo' := w.heap.size) (hi' := w2.heap.size) (by omega) (Nat.le_refl _)).pick (idx := idxTo (hasPt k hs) A k') (fun i hi => by have := idxTo_lt _ _ _ i hi; rw [hL.count]; exact this) (idxTo_inc _ _ _) hout (by omega) hsw
              rw [idxTo_filter _ _ _ (by rw [HNl.out]; exact Nat.le_refl _), List.take_of_length_le (by rw [HNl.out]; exact Nat.le_refl _)] at h2
              rw [hpts.out]
              exact h2

end Go.Proofs.Ytpfklkmmhdpphac
