/- Contract of spec.PolygonPoints. Conditions: sizes. -/
import Derived.Test.YthdonnkekggbbaaGreatDoorPpt0
import Derived.Test.YthdonnkekggbbaaGreatDoorPick
import Derived.Test.YthdonnkekggbbaaGreatDoorOpenM
import Derived.Test.YthdonnkekggbbaaGreatDoorPpts
namespace Go.Proofs.YthdonnkekggbbaaGreatDoor
open Go.RowKit
set_option linter.unusedVariables false
set_option linter.unusedSimpArgs false
set_option maxRecDepth 100000

theorem totP_rows (B : Nat) (xss : List (List Int)) (h : ∀ r, r ∈ xss → r.length ≤ B) : tot xss ≤ B * xss.length := by
  induction xss with
  | nil => simp [tot]
  | cons r t ih =>
    have h1 := h r (by simp)
    have h2 := ih (fun s hs => h s (by simp [hs]))
    simp only [tot, List.map_cons, List.sum_cons, List.length_cons, Nat.mul_succ] at h2 ⊢
    omega
theorem ptsPV_len2 (P : List (List Int)) : (ptsPV P).length ≤ 10201 ∧ tot (ptsPV P) ≤ 20402 := by
  have h1 := ptsPV_len P
  have h2 := totP_rows 2 (ptsPV P) (fun r hr => Nat.le_of_eq (ptsPV_row r hr))
  omega

set_option maxHeartbeats 8000000 in
theorem l7Points_any (p : Option Addr) (n c : Nat) (xss : List (List Int)) (w : World) (h3 : 3 ≤ n) (h12 : n ≤ 12) (hx : Intss w p n xss) (hp : ∀ k, k < n → PtIn 50 (nthR xss k)) (hg : mnTo xss 0 n = nth (nthR xss 0) 0) :
    Calls Tryz.prog 55 #[.slice p n c] w (NewL w ((boxP xss).filter (inP xss))) := by
  have hl := Lib.hid hx.len
  have Hp := Lib.hid hp
  have Hg := Lib.hid hg
  clear hp hg
  obtain ⟨b, o, rfl⟩ : ∃ b o, p = some ⟨b, o, none⟩ := by
    obtain ⟨b, o, _, _, _, e, _⟩ := hx.cell 0 (by omega)
    exact ⟨b, o, e⟩
  have hn0 : 0 < n := by omega
  have hn0i : (0 : Int) < (n : Int) := by omega
  obtain ⟨q0, d0, c0, hbl, i0⟩ := hx.row2 rfl (show 0 < n by omega) (Hp.out 0 (by omega)).len
  rw [Nat.add_zero] at c0
  obtain ⟨b0, o0, rfl, e0⟩ := i0.cell 0 (by omega)
  obtain ⟨_, _, e', e1⟩ := i0.cell 1 (by omega)
  injection e' with e'; injection e' with ea eb
  subst ea; subst eb
  rw [Nat.add_zero] at e0
  have hbB := boxed w (.cells #[] 29)
  have c1 := (hbB.cell hbl).trans c0
  have f0 := (hbB.cell (World.block_lt_of_cell? w _ e0)).trans e0
  have f1 := (hbB.cell (World.block_lt_of_cell? w _ e1)).trans e1
  generalize hA0 : nth (nthR xss 0) 0 = A0 at *
  generalize hA1 : nth (nthR xss 0) 1 = A1 at *
  have HA0 := Lib.hid hA0
  have HA1 := Lib.hid hA1
  clear hA0 hA1 c0
  go_enter Tryz.func55, Tryz.ntmps55
  go_wp2_with fail
  have hemp := Own2.empty w
  go_loopw [4, 5, 6, 7] (fun l h x i wr => ∃ k : Nat, k ≤ n ∧ i = .int .i64 k ∧ l = .int .i64 (mnTo xss 1 k) ∧ h = .int .i64 (mxTo xss 1 k) ∧ x = .int .i64 (mxTo xss 0 k) ∧ wr = w.alloc (.cells #[] 29)) (fun _ _ _ i _ => n - (intOf i).toNat)
  case atStart => exact ⟨0, Nat.zero_le _, rfl, by rw [mnTo, HA1.out], by rw [mxTo, HA1.out], by rw [mxTo, HA0.out], rfl⟩
  case round =>
    obtain ⟨k, hk, rfl, rfl, rfl, rfl, rfl⟩ := hrel
    by_cases hlt : k < n
    · obtain ⟨q1, d1, c2, hbl2, i1⟩ := hx.row2 rfl hlt (Hp.out k hlt).len
      obtain ⟨bx, ox, rfl, g0⟩ := i1.cell 0 (by omega)
      obtain ⟨_, _, e', g1⟩ := i1.cell 1 (by omega)
      injection e' with e'; injection e' with ea eb
      subst ea; subst eb
      rw [Nat.add_zero] at g0
      have hbx := World.block_lt_of_cell? w _ g0
      replace c2 := (hbB.cell hbl2).trans c2
      replace g0 := (hbB.cell hbx).trans g0
      replace g1 := (hbB.cell (World.block_lt_of_cell? w _ g1)).trans g1
      have hd1 : decide ((k : Int) < (n : Int)) = true := by simp; omega
      have M1 : Hid (mnTo xss 1 (k + 1) = min (mnTo xss 1 k) (nth (nthR xss k) 1)) := rfl
      have M2 : Hid (mxTo xss 1 (k + 1) = max (mxTo xss 1 k) (nth (nthR xss k) 1)) := rfl
      have M3 : Hid (mxTo xss 0 (k + 1) = max (mxTo xss 0 k) (nth (nthR xss k) 0)) := rfl
      generalize mnTo xss 1 k = V1 at *
      generalize mxTo xss 1 k = V2 at *
      generalize mxTo xss 0 k = V3 at *
      generalize nth (nthR xss k) 1 = Y at *
      generalize nth (nthR xss k) 0 = X at *
      clear c1 f0 f1
      go_wp2_with (first | (go_at_call 86; (with_reducible refine (l1Min_any _ _ _).mono ?_); rintro e w' ⟨rfl, rfl⟩) | (go_at_call 87; (with_reducible refine (l1Max_any _ _ _).mono ?_); rintro e w' ⟨rfl, rfl⟩))
      go_roundw
      case rel => exact ⟨k + 1, by omega, by go_num, by rw [M1.out], by rw [M2.out], by rw [M3.out], trivial⟩
      case measure => simp [intOf]; omega
    · obtain rfl : k = n := by omega
      have B1 := mn_in Hp.out hn0 (j := 1) (by omega) k (Nat.le_refl _)
      have B2 := mx_in Hp.out hn0 (j := 1) (by omega) k (Nat.le_refl _)
      have B3 := mx_in Hp.out hn0 (j := 0) (by omega) k (Nat.le_refl _)
      have B4 := mn_in Hp.out hn0 (j := 0) (by omega) k (Nat.le_refl _)
      have HB : Hid (boxP xss = latStep (mnTo xss 1 k) (mxTo xss 1 k) (latRow [] A0 (wid A0 (mxTo xss 0 k)))) := Lib.hid (by rw [boxP_eq, hl.out, Hg.out])
      rw [Hg.out] at B4
      have Hpt := Lib.hid (boxP_ptsIn hl.out Hp.out hn0)
      generalize mnTo xss 1 k = ly at *
      generalize mxTo xss 1 k = hy at *
      generalize mxTo xss 0 k = hx0 at *
      have hw1 : wid A0 hx0 ≤ 101 := by unfold wid; omega
      have hw2 : wid ly hy ≤ 101 := by unfold wid; omega
      have hbW : Below w.heap.size w (w.alloc (.cells #[] 29)) := hbB
      go_wp2_with fail
      go_loopw [3, 8] (fun a x wr => ∃ (t : Nat) (p' : Option Addr) (n' c' : Nat) (rows : List Row), t ≤ wid A0 hx0 ∧ a = .slice p' n' c' ∧ x = .int .i64 (A0 + (t : Int)) ∧ Own2 wr w.heap.size wr.heap.size p' n' c' rows ((latStep ly hy (latRow [] A0 t)).filter (inP xss)) ∧ n' ≤ 101 * t ∧ Below w.heap.size w wr) (fun _ x _ => (hx0 + 1 - intOf x).toNat)
      case atStart => exact ⟨0, _, _, _, [], Nat.zero_le _, rfl, by simp, by simpa [latRow, latStep] using hemp.up, by omega, hbW⟩
      case round =>
        obtain ⟨t, p', n', c', rows, ht, rfl, rfl, hown, hn', hb⟩ := hrel
        have hxx : A0 + (wid A0 hx0 : Nat) = max A0 (hx0 + 1) := by unfold wid; omega
        have hyy : ly + (wid ly hy : Nat) = max ly (hy + 1) := by unfold wid; omega
        by_cases hlt : t < wid A0 hx0
        · have hle : A0 + (t : Int) ≤ hx0 := by unfold wid at hlt; omega
          have Hst : Hid ((latStep ly hy (latRow [] A0 (t + 1))).filter (inP xss) = (latStep ly hy (latRow [] A0 t)).filter (inP xss) ++ (latRow [A0 + (t : Int)] ly (wid ly hy)).filter (inP xss)) := Lib.hid (by
            rw [latRow_succ, latStep_app, List.filter_append]; simp [latStep])
          have Hmem : Hid (∀ s, s < wid ly hy → [A0 + (t : Int), ly + (s : Int)] ∈ boxP xss) := Lib.hid fun s hs => by
            rw [HB.out]
            have hsub : ∀ r, r ∈ latStep ly hy (latRow [] A0 (t + 1)) → r ∈ latStep ly hy (latRow [] A0 (wid A0 hx0)) := fun r hr => by
              have e : wid A0 hx0 = (t + 1) + (wid A0 hx0 - (t + 1)) := by omega
              rw [e, latRow, List.range_add, List.map_append, latStep_app]
              exact List.mem_append_left _ hr
            refine hsub _ ?_
            rw [latRow_succ, latStep_app]
            refine List.mem_append_right _ ?_
            simp only [latStep, List.append_nil, List.nil_append, latRow, List.mem_map, List.mem_range]
            exact ⟨s, hs, rfl⟩
          generalize wr = W1 at *
          go_wp2_with fail
          go_loopw [3, 9] (fun a y wr => ∃ (s : Nat) (p3 : Option Addr) (n3 c3 : Nat) (rows : List Row), s ≤ wid ly hy ∧ a = .slice p3 n3 c3 ∧ y = .int .i64 (ly + (s : Int)) ∧ Own2 wr w.heap.size wr.heap.size p3 n3 c3 rows ((latStep ly hy (latRow [] A0 t)).filter (inP xss) ++ (latRow [A0 + (t : Int)] ly s).filter (inP xss)) ∧ n3 ≤ 101 * t + s ∧ Below w.heap.size w wr) (fun _ y _ => (hy + 1 - intOf y).toNat)
          case atStart => exact ⟨0, _, _, _, rows, Nat.zero_le _, rfl, by simp, by simpa [latRow] using hown, by omega, hb⟩
          case round =>
            obtain ⟨s, p3, n3, c3, rows, hs, rfl, rfl, hown3, hn3, hb3⟩ := hrel
            by_cases hlt3 : s < wid ly hy
            · have hle3 : ly + (s : Int) ≤ hy := by unfold wid at hlt3; omega
              have hpt := Hpt.out _ (Hmem.out s hlt3)
              have Hs : Hid ((latRow [A0 + (t : Int)] ly (s + 1)).filter (inP xss) = (latRow [A0 + (t : Int)] ly s).filter (inP xss) ++ if 0 ≤ placV xss [A0 + (t : Int), ly + (s : Int)] then [[A0 + (t : Int), ly + (s : Int)]] else []) := Lib.hid (by
                rw [latRow_succ, List.filter_append]
                by_cases h : 0 ≤ placV xss [A0 + (t : Int), ly + (s : Int)]
                · simp [inP, h]
                · simp [inP, h])
              have hi1 := (made2 wr (A0 + (t : Int)) (ly + (s : Int))).ints
              have hbx1 := boxed wr (.cells #[.int .i64 (A0 + (t : Int)), .int .i64 (ly + (s : Int))] 3)
              have hbw1 := Below.step hb3 hbx1
              generalize hV0 : placV xss [A0 + (t : Int), ly + (s : Int)] = V0 at *
              have HV0 := Lib.hid hV0
              clear hV0
              go_wp2_with fail
              refine (l7Place_any _ _ _ _ _ _ _ _ h3 h12 (hx.below hbw1) Hp.out hi1 hpt).mono ?_
              rw [HV0.out]
              rintro e w5 ⟨rfl, hb5⟩
              have hbw5 := Below.step hbw1 hb5
              have hown5 := (hown3.below hbx1).below hb5
              have hs5 : wr.heap.size ≤ w5.heap.size := (Below.step hbx1 hb5).size
              by_cases hV : 0 ≤ V0
              · have hd2 : decide (0 ≤ V0) = true := by simpa using hV
                have hrow := made2 w5 (A0 + (t : Int)) (ly + (s : Int))
                have hbx5 := boxed w5 (.cells #[.int .i64 (A0 + (t : Int)), .int .i64 (ly + (s : Int))] 3)
                have hown6 := hown5.below hbx5
                have hsz6 : (w5.alloc (.cells #[.int .i64 (A0 + (t : Int)), .int .i64 (ly + (s : Int))] 3)).heap.size = w5.heap.size + 1 := by simp
                have hbw6 := Below.step hbw5 hbx5
                have Hs2 : Hid ((latRow [A0 + (t : Int)] ly (s + 1)).filter (inP xss) = (latRow [A0 + (t : Int)] ly s).filter (inP xss) ++ [[A0 + (t : Int), ly + (s : Int)]]) := Lib.hid (by rw [Hs.out, if_pos hV])
                have hsW : w.heap.size ≤ w5.heap.size := hbw5.size
                go_wp2_with (first | (at_builtin; refine append_row rfl _ _ rfl _ w.heap.size _ _ _ _ _ rfl (hown6.outer.alloc _) _ _ _ _ rfl ((by rw [← hsz6]; exact cellNew _ _ _)) (by omega) (by simp; omega) ?_; intro p7 c7 w7 ho7 hg7))
                have hb7 : Below w.heap.size w w7 := (hbw6.alloc hbw6.size _).trans (hg7.below (sizeNew hbw6 _) (fun a ha => (hown6.outer.lt a ha).1))
                have h7 := (hown6.widen (Nat.le_refl _) hs5).app hrow hsW (boxed _ _) ho7 hg7
                go_roundw
                case rel =>
                  rw [List.append_assoc, ← Hs2.out] at h7
                  exact ⟨s + 1, _, _, _, _, by omega, rfl, by go_num, h7, by omega, hb7⟩
                case measure => simp [intOf]; omega
              · have hd2 : decide (0 ≤ V0) = false := by simpa using hV
                have Hs2 : Hid ((latRow [A0 + (t : Int)] ly (s + 1)).filter (inP xss) = (latRow [A0 + (t : Int)] ly s).filter (inP xss)) := Lib.hid (by rw [Hs.out, if_neg hV, List.append_nil])
                go_wp2_with fail
                go_roundw
                case rel => exact ⟨s + 1, _, _, _, rows, by omega, rfl, by go_num, by rw [Hs2.out]; exact hown5.widen (Nat.le_refl _) hs5, by omega, hbw5⟩
                case measure => simp [intOf]; omega
            · have e : s = wid ly hy := by omega
              subst e
              have hgt : hy < ly + (wid ly hy : Nat) := by omega
              go_wp2_with fail
              go_roundw
              case rel => exact ⟨t + 1, _, _, _, _, by omega, rfl, by go_num, by rw [Hst.out]; exact hown3, by omega, hb3⟩
              case measure => simp [intOf]; omega
        · have e : t = wid A0 hx0 := by omega
          subst e
          have hgt : hx0 < A0 + (wid A0 hx0 : Nat) := by omega
          go_wp2_with fail
          go_ret
          exact ⟨_, _, _, rfl, ⟨rows, by rw [HB.out]; exact hown⟩, hb⟩

set_option maxHeartbeats 2000000 in
theorem specPolygonPoints_any (p : Option Addr) (n c : Nat) (w : World) (xss : List (List Int)) (hn : n ≤ 9223372036854775807) (hx : Intss w p n xss) :
    Calls Tryz.prog 15 #[.slice p n c] w (NewL w (ptsPV xss)) := by
  have hl := Lib.hid hx.len
  cases h : polyB xss
  · go_enter Tryz.func15, Tryz.ntmps15
    go_wp2_with fail
    refine (specIsPolygon_any _ _ _ _ _ hn hx).mono ?_
    rw [h]
    rintro e w1 ⟨rfl, hb1⟩
    go_wp2
    go_ret
    rw [ptsPV_no h]
    exact ⟨_, _, _, rfl, ⟨[], (Own2.empty w1).up.widen hb1.size (Nat.le_refl _)⟩, Below.step hb1 (boxed _ _)⟩
  · obtain ⟨h3, h12, hpt, hG⟩ := polyB_iff.1 h
    rw [hl.out] at h3 h12 hpt
    have HG := Lib.hid (show mnTo xss 0 n = nth (nthR xss 0) 0 from mn_first (fun k hk => (isPt_in (hpt k (by rw [← hl.out]; exact hk))).len) (fun k hk h0 => (hG k hk).2.1 h0) (by rw [hl.out]; omega) n (by rw [hl.out]; exact Nat.le_refl _))
    have HV : Hid (areaV xss = areaTo xss n) := Lib.hid (by simp [areaV, h, hl.out])
    have hp : ∀ k, k < n → PtIn 50 (nthR xss k) := fun k hk => isPt_in (hpt k hk)
    have Hp := Lib.hid hp
    clear hpt hG hp
    by_cases h2 : areaTo xss n ≤ 2000
    · have hV : Hid (ptsPV xss = (boxP xss).filter (inP xss)) := Lib.hid (by rw [ptsPV, if_pos ⟨h, by rw [HV.out]; exact h2⟩])
      generalize hA : areaTo xss n = A at *
      have HA := Lib.hid hA
      clear hA
      have hd : decide (2000 < A) = false := by simp; omega
      go_enter Tryz.func15, Tryz.ntmps15
      go_wp2_with fail
      refine (specIsPolygon_any _ _ _ _ _ hn hx).mono ?_
      rw [h]
      rintro e w1 ⟨rfl, hb1⟩
      go_wp2_with fail
      refine (l7Area_any _ _ _ _ _ h3 h12 (hx.below hb1) Hp.out).mono ?_
      rw [HA.out]
      rintro e w2 ⟨rfl, z, rfl⟩
      have hb2 : Below w.heap.size w (w1.drewN z) := hb1.trans (belowDrawn _ _ _)
      go_wp2_with fail
      refine (l7Points_any _ _ _ _ _ h3 h12 (hx.below hb2) Hp.out HG.out).mono ?_
      rintro e w3 ⟨p3, n3, c3, rfl, ⟨rows, h5⟩, hb3⟩
      go_wp2_with fail
      go_ret
      exact ⟨_, _, _, rfl, ⟨rows, by rw [hV.out]; exact h5.widen hb2.size (Nat.le_refl _)⟩, Below.step hb2 hb3⟩
    · have hV : Hid (ptsPV xss = []) := Lib.hid (ptsPV_big (by rw [HV.out]; omega))
      generalize hA : areaTo xss n = A at *
      have HA := Lib.hid hA
      clear hA
      have hd : decide (2000 < A) = true := by simp; omega
      go_enter Tryz.func15, Tryz.ntmps15
      go_wp2_with fail
      refine (specIsPolygon_any _ _ _ _ _ hn hx).mono ?_
      rw [h]
      rintro e w1 ⟨rfl, hb1⟩
      go_wp2_with fail
      refine (l7Area_any _ _ _ _ _ h3 h12 (hx.below hb1) Hp.out).mono ?_
      rw [HA.out]
      rintro e w2 ⟨rfl, z, rfl⟩
      have hb2 : Below w.heap.size w (w1.drewN z) := hb1.trans (belowDrawn _ _ _)
      go_wp2_with fail
      go_ret
      rw [hV.out]
      exact ⟨_, _, _, rfl, ⟨[], (Own2.empty _).up.widen hb2.size (Nat.le_refl _)⟩, Below.step hb2 (boxed _ _)⟩

end Go.Proofs.YthdonnkekggbbaaGreatDoor
