/- The reference's draws of matrices: one whose determinant is 1 or -1. Conditions: sizes. -/
import Derived.Test.YtdchckljggjaaaaMDraw
namespace Go.Proofs.Ytdchckljggjaaaa
open Go.RowKit
set_option linter.unusedVariables false
set_option linter.unusedSimpArgs false
set_option maxRecDepth 100000

theorem l1Bit_some (t : Bool) : ∃ z : Int, 0 ≤ z ∧ z ≤ 1 ∧ ∀ W : World, Calls Try.prog 74 #[.bool t] W fun e w' => e = .returned (.int .i64 z) ∧ W = w' := by
  cases t
  · refine ⟨0, by omega, by omega, fun W => ?_⟩
    go_enter Try.func74, Try.ntmps74
    go_wp2
    go_ret
    exact ⟨rfl, rfl⟩
  · refine ⟨1, by omega, by omega, fun W => ?_⟩
    go_enter Try.func74, Try.ntmps74
    go_wp2
    go_ret
    exact ⟨rfl, rfl⟩

theorem Own2.cellAt {w : World} {lo hi g : Nat} {n c : Nat} {rows : List Row} {xss : List (List Int)} (h : Own2 w lo hi (some ⟨g, 0, none⟩) n c rows xss) {k : Nat} (hk : k < rows.length) {q : Option Addr} {m d : Nat} (hr : rows[k] = (q, m, d)) :
    w.cell? ⟨g, k, none⟩ = some (.slice q m d) := by
  obtain ⟨g', hg, hc⟩ := h.rowAt k (by rw [← h.count]; exact hk) hk
  injection hg with hg
  injection hg with e
  subst e
  rw [hr] at hc
  exact hc
theorem Own2.rowOf {w : World} {lo hi : Nat} {p : Option Addr} {n c : Nat} {rows : List Row} {xss : List (List Int)} (h : Own2 w lo hi p n c rows xss) {k : Nat} (hk : k < rows.length) {q : Option Addr} {m d : Nat} (hr : rows[k] = (q, m, d)) :
    Own w lo hi q m d (nthR xss k) := by
  have h1 := h.inner k hk
  rw [hr] at h1
  exact h1

set_option maxHeartbeats 4000000 in
theorem l3Unit_any (g : Nat) (p : Option Addr) (n c m : Nat) (xs : List Int) (mi : Int) (w : World) (hmi : mi = (m : Int)) (hn : n ≤ 1048576) (hx : Cur w g p n c xs) (h1 : 1 ≤ m) (hm : m ≤ 3) :
    Calls Try.prog 91 #[.pointer (some ⟨g, 0, none⟩), .int .i64 mi] w (DrawnM w g p n c xs m) := by
  subst hmi
  have hgl := hx.lt
  have hE := Own2.empty w
  have hB := boxed w (.cells #[] 40)
  have hD0 := Drawn1.new hx hB
  obtain ⟨i0, hi0, hz0, hz1, hz2⟩ := info_parts Try.infoInt
  have hby : i0.bytes * m ≤ 281474976710656 := by rw [hz2]; omega
  have hml : m ≤ maxLen := by unfold maxLen; omega
  go_enter Try.func91, Try.ntmps91
  go_wp2_with fail
  go_loopw [5, 6] (fun v i wr => ∃ (k : Nat) (q : Option Addr) (d : Nat) (rows : List Row) (yss : List (List Int)), k ≤ m ∧ i = .int .i64 k ∧ v = .slice q k d ∧ Own2 wr w.heap.size wr.heap.size q k d rows yss ∧ Hid (∀ j, j < k → (nthR yss j).length = m) ∧ Drawn1 w g p n c xs wr) (fun _ i _ => m - (intOf i).toNat)
  case atStart => exact ⟨0, _, _, [], [], Nat.zero_le _, rfl, rfl, hE.up, Lib.hid fun j hj => by omega, hD0⟩
  case round =>
    clear hE hD0 hB
    obtain ⟨k, q, d, rows, yss, hk, rfl, rfl, hown, hys, hD⟩ := hrel
    by_cases hlt : k < m
    · have hd1 : decide ((k : Int) < (m : Int)) = true := by simp; omega
      generalize wr = W at *
      have hsW := hD.2.size
      go_wp2_with (at_make; refine wpList_make_full _ rfl _ _ 40 rfl W.heap.size 3 i0 (.int .i64 0) 1 Try.underlying40 hi0 hz0 hz1 .i64 .i64 _ _ m rfl rfl rfl rfl hby hml (Nat.le_refl _) ?_; intro w1 hmade hgrow)
      have ho0 : Own w1 W.heap.size (W.heap.size + 1) (some ⟨W.heap.size, 0, none⟩) m m (List.replicate m 0) := by
        refine ⟨?_, fun a ha => by injection ha with ha; subst ha; exact Nat.lt_succ_self _⟩
        rw [made_zeros] at hmade
        exact hmade
      have hb0 : Below W.heap.size W w1 := (Below.refl _ _).grown hgrow (Nat.le_refl _) (fun k hk => by cases hk)
      clear hmade hgrow
      have hD1 := hD.step (Drawn1.new hD.1 hb0)
      refine (l1Once_any _ _ _ _ _ _ _ hn hD1.1 (by omega) (by omega)).mono ?_
      rintro e w2 ⟨t, rfl, hD2⟩
      have ho2 := ho0.within hD2.2 (.inr (by omega))
      have hown2 := (hown.below hb0).within hD2.2 (.inr (by omega))
      have hD3 := hD1.step hD2
      have hs3 := hD3.2.size
      have hs2 := (ho2.lt _ rfl).2.2
      obtain ⟨z, hz0', hz1', hz⟩ := l1Bit_some t
      have hc := ho2.cell hlt
      have hf := ho2.frozen k
      have hA : ∀ u, Own2 (w2.setCell ⟨W.heap.size, k, none⟩ u) w.heap.size W.heap.size q k d rows yss := fun u =>
        hown2.within ((Within.refl W.heap.size (W.heap.size + 1) w2).setCell (p := ⟨W.heap.size, k, none⟩) (Nat.le_refl _) (Nat.lt_succ_self _) u) (.inl (Nat.le_refl _))
      have hcA : ∀ u, ((w2.setCell ⟨W.heap.size, k, none⟩ u).alloc (.cells #[.slice (some ⟨W.heap.size, 0, none⟩) m m] 40)).cell? ⟨w2.heap.size, 0, none⟩ = some (.slice (some ⟨W.heap.size, 0, none⟩) m m) := fun u => by
        have h := cellNew (w2.setCell ⟨W.heap.size, k, none⟩ u) (.slice (some ⟨W.heap.size, 0, none⟩) m m) 40
        rwa [show (w2.setCell ⟨W.heap.size, k, none⟩ u).heap.size = w2.heap.size by simp [World.setCell]] at h
      have hsA : ∀ u, w.heap.size ≤ ((w2.setCell ⟨W.heap.size, k, none⟩ u).alloc (.cells #[.slice (some ⟨W.heap.size, 0, none⟩) m m] 40)).heap.size := fun u => by simp [World.setCell]; omega
      go_wp2_with (first | (go_at_call 74; (with_reducible refine (hz _).mono ?_); rintro e w' ⟨rfl, rfl⟩) | (at_builtin; refine append_row rfl _ _ rfl _ w.heap.size _ _ _ _ _ rfl ((hA _).outer.alloc _) _ _ _ _ rfl (hcA _) (by omega) (hsA _) ?_; intro p5 c5 w5 ho5 hg5))
      have h5 := (hA _).app (ho2.set k _) hsW (boxed _ _) ho5 hg5
      have hb5 : Below w.heap.size w2 w5 := (((Below.refl w.heap.size w2).setCell (p := ⟨W.heap.size, k, none⟩) hsW _).alloc (by simp [World.setCell]; omega) _).trans (hg5.below (by simp [World.setCell]; omega) fun a ha => (hown2.outer.lt a ha).1)
      have hD5 := hD3.low hb5 (Nat.le_refl _) hgl
      have hly := hown2.len
      have hcy := hown2.count
      go_roundw
      case rel =>
        refine ⟨k + 1, _, _, _, _, by omega, by go_num, rfl, h5, Lib.hid fun j hj => ?_, hD5⟩
        by_cases hjk : j < k
        · rw [show nthR (yss ++ [_]) j = nthR yss j by rw [nthR_eq (by simp; omega), nthR_eq (by omega), List.getElem_append_left]]
          exact hys.out j hjk
        · obtain rfl : j = k := by omega
          rw [nthR_eq (by simp; omega), List.getElem_append_right (by omega)]
          simp
      case measure => simp [intOf]; omega
    · obtain rfl : k = m := by omega
      obtain ⟨gq, rfl, _⟩ := hown.rowAt 0 (by omega) (by rw [hown.count]; omega)
      have hgl := hgl
      generalize wr = W at *
      have hsW := hD.2.size
      have hown := hown.up
      go_wp2_with fail
      refine (l1Below_any _ _ _ _ _ _ _ hn hD.1 (by omega) (by omega)).mono ?_
      rintro e w1 ⟨x, rfl, hx0, hx1, hD1⟩
      have hown1 := hown.within hD1.2 (.inr (by omega))
      have hDa := hD.step hD1
      have hsa := hDa.2.size
      clear hown hD hD1
      generalize hW0 : W.heap.size = S at *
      clear hW0
      go_wp2_with fail
      go_loopw [9] (fun i wr => ∃ (j : Nat) (rows : List Row) (yss : List (List Int)), (j : Int) ≤ x ∧ i = .int .i64 j ∧ Own2 wr w.heap.size wr.heap.size (some ⟨gq, 0, none⟩) k d rows yss ∧ Hid (∀ j, j < k → (nthR yss j).length = k) ∧ Drawn1 w g p n c xs wr) (fun i _ => x.toNat - (intOf i).toNat)
      case atStart => exact ⟨0, _, _, hx0, rfl, hown1.up, hys, hDa⟩
      case round =>
        clear hown1 hys hDa hsW hsa
        obtain ⟨j, rows, yss, hj, rfl, hown, hys, hD⟩ := hrel
        generalize wr = W at *
        by_cases hlt : (j : Int) < x
        · have hd1 : decide ((j : Int) < x) = true := by simpa using hlt
          by_cases hm1 : 1 < k
          · have hd2 : decide ((1 : Int) < (k : Int)) = true := by simp; omega
            have hkne : ((k : Int) == 0) = false := by simp; omega
            go_wp2_with fail
            refine (l1Below_any _ _ _ _ _ _ _ hn hD.1 (by omega) (by omega)).mono ?_
            rintro e w2 ⟨ya, rfl, ha0, ha1, hD2⟩
            obtain ⟨ka, rfl⟩ : ∃ ka : Nat, ya = (ka : Int) := ⟨ya.toNat, by omega⟩
            have hka : ka < k := by omega
            have hown2 := (hown.within hD2.2 (.inr (by omega))).up
            have hD3 := hD.step hD2
            clear hown hD hD2
            go_wp2_with fail
            refine (l1Below_any _ _ _ _ _ _ _ hn hD3.1 (by omega) (by omega)).mono ?_
            rintro e w3 ⟨yb, rfl, hb0, hb1, hD4⟩
            have hown3 := (hown2.within hD4.2 (.inr (by omega))).up
            have hD5 := hD3.step hD4
            clear hown2 hD3 hD4
            obtain ⟨kb, hkb, ekb⟩ : ∃ kb : Nat, kb < k ∧ ((ka : Int) + 1 + yb).tmod (k : Int) = (kb : Int) := by
              have h3 := Int.emod_nonneg ((ka : Int) + 1 + yb) (show (k : Int) ≠ 0 by omega)
              have h4 := Int.emod_lt_of_pos ((ka : Int) + 1 + yb) (show (0 : Int) < (k : Int) by omega)
              exact ⟨(((ka : Int) + 1 + yb) % (k : Int)).toNat, by omega, by rw [Int.tmod_eq_emod_of_nonneg (by omega)]; omega⟩
            go_wp2_with fail
            generalize w3 = V at *
            have hcnt := hown3.count
            have hlen := hown3.len
            have hka' : ka < rows.length := by omega
            have hkb' : kb < rows.length := by omega
            have hgV := hD5.1.lt
            have hsV := hD5.2.size
            obtain ⟨⟨qa, ma, da⟩, hra⟩ : ∃ r, rows[ka] = r := ⟨_, rfl⟩
            obtain ⟨⟨qb, mb, db⟩, hrb⟩ : ∃ r, rows[kb] = r := ⟨_, rfl⟩
            obtain rfl : k = ma := by rw [← (hown3.rowOf hka' hra).len]; exact (hys.out ka hka).symm
            obtain rfl : k = mb := by rw [← (hown3.rowOf hkb' hrb).len]; exact (hys.out kb hkb).symm
            have hDd := hD5.step (Drawn1.new hD5.1 (drewBelow V))
            have hown4 := hown3.drew
            have ca := hown3.cellAt hka' hra
            have cb := hown3.cellAt hkb' hrb
            have z1 : (0 : Int) ≤ (ka : Int) := by omega
            have z2 : (0 : Int) ≤ (kb : Int) := by omega
            have z3 : (ka : Int) < (k : Int) := by omega
            have z4 : (kb : Int) < (k : Int) := by omega
            go_region_law (first | (go_simp; go_at_call 73; refine (l1Below_any _ _ _ _ _ _ _ hn hDd.1 (by omega) (by omega)).mono ?_; rintro e w4 ⟨y, rfl, hy0, hy1, hD6⟩; have hown5 := hown4.within hD6.2 (.inr (by omega)); have ca5 := hown5.cellAt hka' hra; have cb5 := hown5.cellAt hkb' hrb) | (go_simp; go_at_call 123; refine (l2Scale_any _ _ _ _ _ _ (by omega) ((hown5.rowOf hkb' hrb).ints)).mono ?_; rintro e w5 ⟨q5, d5, rfl, ho5, hb5⟩; have hown6 := hown5.below hb5; have ca6 := hown6.cellAt hka' hra) | (go_simp; go_at_call 122; refine (l2Add_any _ _ _ _ _ _ _ _ (by omega) ((hown6.rowOf hka' hra).ints) ho5.ints).mono ?_; rintro e w6 ⟨q6, d6, rfl, ho6, hb6⟩; have hown7 := hown6.below hb6; have hf7 := hown7.outer.frozen ka; have ca7 := hown7.cellAt hka' hra))
            all_goals
              have s4 := hD6.2.size
              have s5 := hb5.size
              have s6 := hb6.size
              rw [World.size_drew] at s4
              have hst := hown7.store (ho6.widen (lo' := V.heap.size) (by omega) (Nat.le_refl _)) hsV (by omega) ka hka
              have hD7 := hDd.step hD6
              have hD8 := hD7.step (Drawn1.new hD7.1 hb5)
              have hD9 := hD8.step (Drawn1.new hD8.1 hb6)
              have hD10 := hD9.low ((Below.refl w.heap.size w6).setCell (p := ⟨gq, ka, none⟩) (hown7.outer.lt _ rfl).1 (.slice q6 k d6)) (Nat.le_refl _) hgl
              have hl6 := ho6.len
              go_wp2_with fail
              go_roundw
              case rel =>
                refine ⟨j + 1, _, _, by omega, by go_num, hst.up, Lib.hid fun i hi => ?_, hD10⟩
                rw [nthR_eq (by simp; omega), List.getElem_set]
                split
                · exact hl6
                · rw [← nthR_eq]; exact hys.out i hi
              case measure => simp [intOf]; omega
          · have hd2 : decide ((1 : Int) < (k : Int)) = false := by simp; omega
            go_wp2_with fail
            go_ret
            exact ⟨_, _, _, rfl, ⟨_, hown⟩, hys, hD⟩
        · have hd1 : decide ((j : Int) < x) = false := by simpa using hlt
          go_wp2_with fail
          go_ret
          exact ⟨_, _, _, rfl, ⟨_, hown⟩, hys, hD⟩

end Go.Proofs.Ytdchckljggjaaaa
