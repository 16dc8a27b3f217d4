/- Contract of impl.HullOf. Conditions: sizes. -/
import Derived.Test.YthdonnkekggbbaaGreatDoorHullS
namespace Go.Proofs.YthdonnkekggbbaaGreatDoor
open Go.RowKit
set_option linter.unusedVariables false
set_option linter.unusedSimpArgs false
set_option maxRecDepth 100000

theorem gpush_out {t : List Int → List Int → List Int → Int} {st : List (List Int)} {x : List Int} (h : st.length < 2) : pushC t st x = x :: st := by
  match st with
  | [] => rfl
  | [b] => rfl
theorem gpush_pop {t : List Int → List Int → List Int → Int} {a b x : List Int} {r : List (List Int)} (h : t a b x ≤ 0) : pushC t (b :: a :: r) x = pushC t (a :: r) x := by rw [pushC, if_pos h]
theorem gpush_top {t : List Int → List Int → List Int → Int} {a b x : List Int} {r : List (List Int)} (h : ¬ t a b x ≤ 0) : pushC t (b :: a :: r) x = x :: b :: a :: r := by rw [pushC, if_neg h]
theorem gpush_ne {t : List Int → List Int → List Int → Int} (x : List Int) : ∀ st, pushC t st x ≠ []
  | [] => by simp [pushC]
  | [b] => by simp [pushC]
  | b :: a :: r => by
    rw [pushC]
    split
    · exact gpush_ne x (a :: r)
    · simp
def sq (seq : List Nat) (s : Nat) : List Nat := if s = 1 then seq.reverse else seq
theorem sq_length (seq : List Nat) (s : Nat) : (sq seq s).length = seq.length := by unfold sq; split <;> simp
theorem sq_succ {seq : List Nat} {s : Nat} (h : s < 2) : (sq seq s).reverse = sq seq (s + 1) := by
  match s, h with
  | 0, _ => rfl
  | 1, _ => simp [sq]
def vsq (xss : List (List Int)) (seq : List Nat) (s : Nat) : List (List Int) := (sq seq s).map (nthR xss)
theorem vsq_length (xss : List (List Int)) (seq : List Nat) (s : Nat) : (vsq xss seq s).length = seq.length := by simp [vsq, sq_length]
def outG (D : List (List Int)) : Nat → List (List Int)
  | 0 => []
  | 1 => (chainR turnZ D).reverse.dropLast
  | _ + 2 => hullOf turnZ D
theorem outG_succ {xss : List (List Int)} {seq : List Nat} {s : Nat} (h : s < 2) : outG (seq.map (nthR xss)) (s + 1) = outG (seq.map (nthR xss)) s ++ ((vsq xss seq s).foldl (pushC turnZ) []).reverse.dropLast := by
  match s, h with
  | 0, _ => rfl
  | 1, _ => simp [outG, vsq, sq, hullOf, chainR, List.map_reverse]
theorem gfold_next {L : List (List Int)} {k : Nat} {x : List Int} (h : L[k]? = some x) : (L.take (k + 1)).foldl (pushC turnZ) [] = pushC turnZ ((L.take k).foldl (pushC turnZ) []) x := by
  have hk : k < L.length := (List.getElem?_eq_some_iff.1 h).1
  rw [List.take_succ_eq_append_getElem hk, List.foldl_append, (List.getElem?_eq_some_iff.1 h).2]; rfl
theorem gdrop_out {A B : List (List Int)} (h : B ≠ []) : (A ++ B).dropLast = A ++ B.dropLast := by rw [List.dropLast_append_of_ne_nil h]
theorem Own2.pre {w : World} {lo hi : Nat} {p : Option Addr} {n c : Nat} {rows : List Row} {xss : List (List Int)} (h : Own2 w lo hi p n c rows xss) {k : Nat} (hk : k ≤ n) : Own2 w lo hi p k c (rows.take k) (xss.take k) := by
  refine ⟨by rw [List.map_take]; exact h.outer.pre hk, by simp [h.len], fun j hj => ?_, h.apart.take⟩
  rw [List.length_take] at hj
  have e : nthR (xss.take k) j = nthR xss j := by
    have h1 : j < xss.length := by have := h.len; omega
    rw [nthR_eq (by rw [List.length_take]; omega), nthR_eq h1, List.getElem_take]
  rw [e, List.getElem_take]
  exact h.inner j (by omega)

set_option maxHeartbeats 8000000 in
theorem hullZero (p : Option Addr) (c : Nat) (w : World) :
    Calls Tryz.prog 8 #[.slice p 0 c] w (NewMB w ([], false)) := by
  go_enter Tryz.func8, Tryz.ntmps8
  go_wp2_with fail
  go_loop [17] (fun i => i = .int .i64 0) (fun _ => 0)
  case atStart => rfl
  case round =>
    subst hrel
    go_wp2_with fail
    refine (copyPoints_any _ 0 _ _ _ (by omega) (Intss.nil w p) (fun k hk => by omega)).mono ?_
    rintro e w1 ⟨p1, c1, rfl, _, hb1⟩
    go_wp2_with fail
    refine (Tryz.slices_SortFunc_none (α := Nat) p1 c1 _ w1).mono ?_
    rintro e w2 ⟨rfl, rfl⟩
    go_wp2_with fail
    go_loopw [7, 8] (fun v i wr => ∃ s : Nat, s ≤ 2 ∧ i = .int .i64 s ∧ v = .slice none 0 0 ∧ Below w.heap.size w wr) (fun _ i _ => 2 - (intOf i).toNat)
    case atStart => exact ⟨0, by omega, rfl, rfl, hb1⟩
    case round =>
      obtain ⟨s, hs, rfl, rfl, hb⟩ := hrel
      generalize wr = W at *
      by_cases hlt : s < 2
      · have hd1 : decide ((s : Int) < 2) = true := by simp; omega
        go_wp2_with fail
        go_loopw [7, 37] (fun v i wr => i = .int .i64 0 ∧ v = .slice none 0 0 ∧ wr = W) (fun _ i _ => 0)
        case atStart => exact ⟨rfl, rfl, rfl⟩
        case round =>
          obtain ⟨rfl, rfl, rfl⟩ := hrel
          go_wp2_with fail
          refine (Tryz.slices_Reverse_empty (α := Nat) p1 c1 _).mono ?_
          rintro e w3 ⟨rfl, rfl⟩
          go_wp2_with fail
          go_roundw
          case rel => exact ⟨s + 1, by omega, by go_num, rfl, hb⟩
          case measure => simp [intOf]; omega
      · obtain rfl : s = 2 := by omega
        go_wp2_with fail
        have hp0 : polyB [] = false := polyB_no (fun h => by have := h.1; simp at this)
        refine (implIsPolygon_any _ 0 _ _ _ (by omega) (Intss.nil W none)).mono ?_
        rw [hp0]
        rintro e w4 ⟨rfl, hb4⟩
        go_wp2_with fail
        go_ret2
        exact NewMB.none_ (Below.step hb hb4)

set_option maxHeartbeats 8000000 in
theorem hullSome (p : Option Addr) (n c : Nat) (xss : List (List Int)) (w : World) (h1 : 1 ≤ n) (h200 : n ≤ 200) (hx : Intss w p n xss) (hf : flatB xss = true) :
    Calls Tryz.prog 8 #[.slice p n c] w (NewMB w (hullV xss)) := by
  have hl := Lib.hid hx.len
  have Hp := Lib.hid (show ∀ k, k < n → PtIn 50 (nthR xss k) from fun k hk => isPt_in (flatB_at hf (by rw [hl.out]; exact hk)))
  have HF := Lib.hid hf
  have Hpb : Hid (∀ k, k < n → isPt 50 (nthR xss k) = true) := Lib.hid fun k hk => flatB_at hf (by rw [hl.out]; exact hk)
  have Hcp : Hid (∀ k, k < n → (nthR xss k).length ≤ 1048576) := Lib.hid fun k hk => by have := (Hp.out k hk).len; omega
  clear hf
  have hd0 : decide (200 < (n : Int)) = false := by simp; omega
  have hd0n : decide (200 < n) = false := by simp; omega
  obtain ⟨b, o, rfl⟩ : ∃ b o, p = some ⟨b, o, none⟩ := by
    obtain ⟨b, o, _, _, _, e, _⟩ := hx.cell 0 (by omega)
    exact ⟨b, o, e⟩
  go_enter Tryz.func8, Tryz.ntmps8
  go_wp2_with fail
  go_loop [17] (fun i => ∃ k : Nat, k ≤ n ∧ i = .int .i64 k) (fun i => n - (intOf i).toNat)
  case atStart => exact ⟨0, by omega, rfl⟩
  case round =>
    obtain ⟨k, hk, rfl⟩ := hrel
    by_cases hlt : k < n
    · obtain ⟨q, d, hc, _, hi⟩ := hx.row2 rfl hlt (Hp.out k hlt).len
      have hP := Hpb.out k hlt
      have hd1 : decide ((k : Int) < (n : Int)) = true := by simp; omega
      go_wp2_with fail
      refine (isPoint_any _ 2 _ _ 50 _ (by omega) hi (by omega) (by omega)).mono ?_
      rw [hP]
      rintro e w1 ⟨rfl, rfl⟩
      go_wp2_with fail
      go_round
      case rel => exact ⟨k + 1, by omega, by go_num⟩
      case measure => simp [intOf]; omega
    · obtain rfl : k = n := by omega
      go_wp2_with fail
      refine (copyPoints_any _ _ _ _ _ (by omega) hx Hcp.out).mono ?_
      rintro e w1 ⟨p1, c1, rfl, ⟨R, hR⟩, hb1⟩
      obtain ⟨g, rfl, hgl, hgw⟩ : ∃ g, p1 = some ⟨g, 0, none⟩ ∧ w.heap.size ≤ g ∧ g < w1.heap.size := by
        rcases hR.outer.form with ⟨_, h0, _⟩ | ⟨g, e, h2, h3, _⟩
        · omega
        · exact ⟨g, e, h2, h3⟩
      have hPt := ptsOf hR (fun k hk => (Hp.out k hk).len)
      obtain ⟨B, hB⟩ : ∃ B, B = w1.heap.size := ⟨_, rfl⟩
      clear hR
      go_wp2_with fail
      refine (sort_any hPt h1 (by omega)).mono ?_
      clear hPt
      rintro e w2 ⟨rfl, seq, hPt, hb2, hmem, hsrt⟩
      rw [← hB] at hPt hgw
      have hBw : B ≤ w2.heap.size := by rw [hB]; exact hb2.size
      have hbT : Below w.heap.size w w2 := hb1.trans (hb2.mono hgl)
      have Hseq := Lib.hid (And.intro hmem hsrt)
      have hsl := Lib.hid hPt.len
      have hBl : w.heap.size ≤ B := by omega
      clear hmem hsrt hb1 hb2 hB
      have HsqL : Hid (∀ s, (sq seq s).length = k) := Lib.hid fun s => by rw [sq_length, hsl.out]
      have HvsL : Hid (∀ s, (vsq xss seq s).length = k) := Lib.hid fun s => by rw [vsq_length, hsl.out]
      go_wp2_with fail
      go_loopw [7, 8] (fun v i wr => ∃ (s : Nat) (p' : Option Addr) (c' : Nat) (rows : List Row), s ≤ 2 ∧ i = .int .i64 s ∧ v = .slice p' (outG (seq.map (nthR xss)) s).length c' ∧ Own2 wr B wr.heap.size p' (outG (seq.map (nthR xss)) s).length c' rows (outG (seq.map (nthR xss)) s) ∧ Hid ((outG (seq.map (nthR xss)) s).length ≤ k * s ∧ ∀ a ∈ outG (seq.map (nthR xss)) s, PtIn 50 a) ∧ PtsS B wr g k c1 R xss (sq seq s) ∧ B ≤ wr.heap.size ∧ Below w.heap.size w wr) (fun _ i _ => 2 - (intOf i).toNat)
      case atStart => exact ⟨0, _, _, [], by omega, rfl, rfl, Own2.nil _ _ _, Lib.hid ⟨by simp [outG], fun a ha => by simp [outG] at ha⟩, hPt, hBw, hbT⟩
      case round =>
        clear hPt hBw hbT
        obtain ⟨s, p', c', rows, hs, rfl, rfl, hown, HB, hPt, hBw, hbT⟩ := hrel
        generalize wr = W at *
        by_cases hlt2 : s < 2
        · have hd2 : decide ((s : Int) < 2) = true := by simp; omega
          have Hnx := Lib.hid (outG_succ (xss := xss) (seq := seq) hlt2)
          generalize hBs : outG (seq.map (nthR xss)) s = Bs at *
          have HBs := Lib.hid hBs
          clear hBs
          have hBl2 : Bs.length ≤ 400 := by
            have h1 := HB.out.1
            have h2 : k * s ≤ k * 2 := Nat.mul_le_mul (Nat.le_refl _) hs
            omega
          have hmax : Hid True := trivial
          go_wp2_with fail
          go_loopw [7, 37] (fun v i wr => ∃ (j : Nat) (p' : Option Addr) (c' : Nat) (rows : List Row) (O : List (List Int)), j ≤ k ∧ i = .int .i64 j ∧ v = .slice p' O.length c' ∧ Own2 wr B wr.heap.size p' O.length c' rows O ∧ Hid (O = Bs ++ (((vsq xss seq s).take j).foldl (pushC turnZ) []).reverse ∧ (∀ a ∈ O, PtIn 50 a) ∧ O.length ≤ Bs.length + j) ∧ Below B W wr ∧ B ≤ wr.heap.size) (fun _ i _ => k - (intOf i).toNat)
          case atStart => exact ⟨0, _, _, rows, Bs, by omega, rfl, rfl, hown, Lib.hid ⟨by simp, HB.out.2, by omega⟩, Below.refl _ _, hBw⟩
          case round =>
            clear hown hBw
            obtain ⟨j, p', c', rows, O, hj, rfl, rfl, hown, HO, hb, hBw⟩ := hrel
            by_cases hlt3 : j < k
            · generalize wr = W2 at *
              have hd3 : decide ((j : Int) < (k : Int)) = true := by simp; omega
              obtain ⟨i, hi⟩ : ∃ i, (sq seq s)[j]? = some i := ⟨_, List.getElem?_eq_getElem (by rw [HsqL.out]; exact hlt3)⟩
              have hik : i < k := hPt.lt i (List.mem_of_getElem? hi)
              have hvi : (vsq xss seq s)[j]? = some (nthR xss i) := by rw [vsq, List.getElem?_map, hi]; rfl
              obtain ⟨bx, ox, dx, ex, ix, hbx, _⟩ := hPt.row i hik
              have cx : W2.cell? ⟨g, j, none⟩ = some (.slice (some ⟨bx, ox, none⟩) 2 dx) := by
                have h1 := hPt.hdr.cell (k := j) (by omega)
                rw [List.getElem?_map, hi, Option.map_some, ex] at h1
                exact (hb.cell hgw).trans h1
              have ix2 : Ints W2 (some ⟨bx, ox, none⟩) 2 (nthR xss i) := ⟨ix.len, fun m hm => by
                obtain ⟨b', o', e', hc⟩ := ix.cell m hm
                injection e' with e'; injection e' with ea eb
                subst ea; subst eb
                exact ⟨bx, ox, rfl, (hb.cell hbx).trans hc⟩⟩
              have px := Hp.out i hik
              have Hvi := Lib.hid hvi
              generalize hX : nthR xss i = X at *
              clear hi hvi ex ix hX
              go_wp2_with fail
              go_loopw [7] (fun v wr => ∃ (p' : Option Addr) (c' : Nat) (rows : List Row) (O st : List (List Int)), v = .slice p' O.length c' ∧ Own2 wr B wr.heap.size p' O.length c' rows O ∧ Hid (O = Bs ++ st.reverse ∧ pushC turnZ st X = pushC turnZ (((vsq xss seq s).take j).foldl (pushC turnZ) []) X ∧ (∀ a ∈ O, PtIn 50 a) ∧ O.length ≤ Bs.length + j) ∧ Below W2.heap.size W2 W2 ∧ Below B W2 wr ∧ B ≤ wr.heap.size) (fun v _ => lenOf v)
              case atStart => exact ⟨p', c', rows, O, _, rfl, hown, Lib.hid ⟨HO.out.1, rfl, HO.out.2.1, HO.out.2.2⟩, Below.refl _ _, Below.refl _ _, hBw⟩
              case round =>
                clear hown cx HO hBw
                obtain ⟨p', c', rows, O, st, rfl, hown, HO2, _, hb2, hBw⟩ := hrel
                have ix3 : Ints wr (some ⟨bx, ox, none⟩) 2 X := ⟨ix2.len, fun m hm => by
                  obtain ⟨b', o', e', hc⟩ := ix2.cell m hm
                  injection e' with e'; injection e' with ea eb
                  subst ea; subst eb
                  exact ⟨bx, ox, rfl, (hb2.cell hbx).trans hc⟩⟩
                have hbb := hb.trans hb2
                generalize wr = W3 at *
                have hform := hown.outer.form
                have hlenO : O.length = Bs.length + st.length := by rw [HO2.out.1]; simp
                have hOb : O.length ≤ 700 := by have := HO2.out.2.2.2; omega
                have hwb : IntKind.i64.wrap ((Bs.length : Int) + 2) = (Bs.length : Int) + 2 := by rw [wrapEq, wrap64_id (by omega) (by omega)]
                by_cases hst : st.length < 2
                · have hge : decide ((Bs.length : Int) + 2 ≤ (O.length : Int)) = false := by simp; omega
                  have hgn : decide (Bs.length + 2 ≤ O.length) = false := by simp; omega
                  have HlO := Lib.hid hlenO
                  clear hlenO hform
                  go_wp2_with fail
                  refine wp_region_quiet_below (by kernel_rfl) (by kernel_rfl) ?_
                  repeat (go_big_quiet_step (fail))
                  refine wpQuiet_nil ?_
                  intro _ hw'
                  obtain ⟨⟨dq, osq⟩, hw''⟩ := hw'
                  subst hw''
                  generalize hV : Go.Sort.grow (redrawn W3 dq) osq = V at *
                  have hbV : Below W3.heap.size W3 V := hV ▸ below_regrown W3 dq osq
                  clear hV
                  have hsV := hbV.size
                  go_wp2_with fail
                  refine (copyInts_any _ 2 _ _ _ (by omega) (ix3.below hbV)).mono ?_
                  rintro e w5 ⟨p5, c5, rfl, ho5, hb5⟩
                  have hs5 := hb5.size
                  have hown5 := ((hown.below hbV).below hb5).up
                  have hbw := hb2.trans ((hbV.mono hBw).trans (hb5.mono (by omega)))
                  have hsz : B ≤ w5.heap.size := by omega
                  have hownA := hown5.below (boxed w5 (.cells #[.slice p5 2 c5] 29))
                  go_wp2_with (at_builtin; refine append_row rfl _ _ rfl _ B _ _ _ _ _ rfl hownA.outer _ _ _ _ rfl (cellNew _ _ _) (by have := HO2.out.2.2.2; omega) (by simp; omega) ?_; intro p3 c3 w3 ho3 hg3)
                  have hb3 : Below B W2 w3 := (hbw.alloc hsz _).trans (hg3.below (by simp; omega) (fun a ha => (hownA.outer.lt a ha).1))
                  have hs3 : B ≤ w3.heap.size := by have := hg3.by_.size; simp at this; omega
                  have h7 := (((hown.below hbV).below hb5).widen (hi' := V.heap.size) (Nat.le_refl _) hsV).app ho5 (by omega) (boxed _ _) ho3 hg3
                  go_roundw
                  case rel =>
                    have eO : (O ++ [X]).length = O.length + 1 := by simp
                    refine ⟨j + 1, p3, c3, _, O ++ [X], by omega, by go_num, by rw [eO], by rw [eO]; exact h7, Lib.hid ⟨?_, fun a ha => ?_, by rw [eO]; have := HO2.out.2.2.2; omega⟩, hb.trans hb3, hs3⟩
                    · rw [HO2.out.1, gfold_next Hvi.out, ← HO2.out.2.1, gpush_out hst]
                      simp
                    · rcases List.mem_append.1 ha with ha | ha
                      · exact HO2.out.2.2.1 a ha
                      · obtain rfl : a = X := by simpa using ha
                        exact px
                  case measure => simp [intOf]; omega
                · obtain ⟨b2, a, r, rfl⟩ : ∃ b a r, st = b :: a :: r := by
                    match st, hst with
                    | b :: a :: r, _ => exact ⟨b, a, r, rfl⟩
                    | [b], h => exact absurd (by simp) h
                    | [], h => exact absurd (by simp) h
                  rcases hform with ⟨_, h0, _⟩ | ⟨g0, rfl, hg1, _, hg3, hg4, hg5⟩
                  · simp at hlenO; omega
                  obtain ⟨M, hM⟩ : ∃ M, M = Bs.length + r.length := ⟨_, rfl⟩
                  obtain ⟨M1, hM1⟩ : ∃ M1, M1 = M + 1 := ⟨_, rfl⟩
                  have hON : O.length = M + 2 := by rw [hlenO, hM]; simp; omega
                  have eO : O = Bs ++ r.reverse ++ [a, b2] := by rw [HO2.out.1]; simp
                  have e1 : ∀ (x : List (List Int)) (u v : List Int), x.length = M → nthR (x ++ [u, v]) M = u ∧ nthR (x ++ [u, v]) (M + 1) = v := fun x u v hx => by subst hx; simp [nthR, List.getD]
                  have e2 := e1 (Bs ++ r.reverse) a b2 (by simp [hM])
                  rw [← eO, ← hM1] at e2
                  have pa := HO2.out.2.2.1 a (by rw [eO]; simp)
                  have pb := HO2.out.2.2.1 b2 (by rw [eO]; simp)
                  obtain ⟨qa, da, hca, _, ia⟩ := hown.rd.row2 rfl (show M < O.length by omega) (by rw [e2.1]; exact pa.len)
                  obtain ⟨qb, db, hcb, _, ib⟩ := hown.rd.row2 rfl (show M1 < O.length by omega) (by rw [e2.2]; exact pb.len)
                  rw [e2.1] at ia
                  rw [e2.2] at ib
                  rw [Nat.zero_add] at hca hcb
                  have eca := cell_regrown hca
                  have ecb := cell_regrown hcb
                  have K1 : Hid (∀ d os, Calls Tryz.prog 40 #[.slice qa 2 da, .slice qb 2 db, .slice (some ⟨bx, ox, none⟩) 2 dx] (Sort.grow (redrawn W3 d) os) fun e w' => e = .returned (.int .i64 (turnZ a b2 X)) ∧ ∃ p : Regrown, w' = Sort.grow (redrawn W3 p.d) p.os) :=
                    Lib.hid fun d os => Calls.regrown_of (turn_any _ _ _ _ _ _ _ _ _ _ (ia.below (below_regrown W3 d os)) (ib.below (below_regrown W3 d os)) (ix3.below (below_regrown W3 d os)) (pa.wide (by omega)) (pb.wide (by omega)) (px.wide (by omega)))
                  generalize hT1 : turnZ a b2 X = T1 at *
                  have HT0 := Lib.hid hT1
                  generalize hN : O.length = N at *
                  have hge : decide ((Bs.length : Int) + 2 ≤ (N : Int)) = true := by simp; omega
                  have hgn : decide (Bs.length + 2 ≤ N) = true := by simp; omega
                  have hgm : Bs.length + 2 ≤ N := by omega
                  have hw3 : IntKind.i64.wrap ((N : Int) - 2) = (M : Int) := by rw [wrapEq, wrap64_id (by omega) (by omega)]; omega
                  have hw4 : IntKind.i64.wrap ((N : Int) - 1) = (M1 : Int) := by rw [wrapEq, wrap64_id (by omega) (by omega)]; omega
                  have z1 : (0 : Int) ≤ (M : Int) := by omega
                  have z2 : (0 : Int) ≤ (M1 : Int) := by omega
                  have z3 : (M : Int) < (N : Int) := by omega
                  have z4 : (M1 : Int) < (N : Int) := by omega
                  have z5 : (M1 : Int) ≤ (c' : Int) := by omega
                  have z6 : M1 ≤ c' := by omega
                  have HM := Lib.hid (And.intro hM hM1)
                  have HON := Lib.hid hON
                  have HEO := Lib.hid eO
                  have HNN := Lib.hid hN
                  clear e1 e2 hM hM1 hON eO hN hlenO hT1 hca hcb ia ib pa pb hst
                  by_cases ht : T1 ≤ 0
                  · have HT : Hid (turnZ a b2 X ≤ 0) := Lib.hid (by rw [HT0.out]; exact ht)
                    have htd : decide (T1 ≤ 0) = true := by simpa using ht
                    go_wp2_with fail
                    refine wp_region_quiet_below (by kernel_rfl) (by kernel_rfl) ?_
                    repeat (go_big_quiet_step (with_reducible exact K1.out _ _))
                    refine wpQuiet_nil ?_
                    intro _ hw'
                    obtain ⟨⟨dq, osq⟩, hw''⟩ := hw'
                    subst hw''
                    have hbr := below_regrown W3 dq osq
                    go_wp2_with fail
                    go_roundw
                    case rel =>
                      have eL : (Bs ++ (a :: r).reverse).length = M1 := by simp [HM.out.1, HM.out.2]; omega
                      have eT : O.take M1 = Bs ++ (a :: r).reverse := by
                        rw [HEO.out, show Bs ++ r.reverse ++ [a, b2] = (Bs ++ (a :: r).reverse) ++ [b2] by simp, List.take_left' eL]
                      have hpr := ((hown.below hbr).up.pre (k := M1) (by omega))
                      rw [eT] at hpr
                      refine ⟨_, c', _, Bs ++ (a :: r).reverse, a :: r, by rw [eL], by rw [eL]; exact hpr, Lib.hid ⟨rfl, (gpush_pop HT.out).symm.trans HO2.out.2.1, fun x hx => HO2.out.2.2.1 x ?_, ?_⟩, Below.refl _ _, hb2.trans (hbr.mono (by omega)), Nat.le_trans hBw hbr.size⟩
                      · rw [← eT] at hx; exact List.mem_of_mem_take hx
                      · rw [eL]; have := HO2.out.2.2.2; have := HON.out; omega
                    case measure => simp [lenOf]; omega
                  · have HT : Hid (¬ turnZ a b2 X ≤ 0) := Lib.hid (by rw [HT0.out]; exact ht)
                    have htd : decide (T1 ≤ 0) = false := by simpa using ht
                    clear ht
                    go_wp2_with fail
                    refine wp_region_quiet_below (by kernel_rfl) (by kernel_rfl) ?_
                    repeat (go_big_quiet_step (with_reducible exact K1.out _ _))
                    refine wpQuiet_nil ?_
                    intro _ hw'
                    obtain ⟨⟨dq, osq⟩, hw''⟩ := hw'
                    subst hw''
                    generalize hV : Go.Sort.grow (redrawn W3 dq) osq = V at *
                    have hbV : Below W3.heap.size W3 V := hV ▸ below_regrown W3 dq osq
                    clear hV
                    have hsV := hbV.size
                    go_wp2_with fail
                    refine (copyInts_any _ 2 _ _ _ (by omega) (ix3.below hbV)).mono ?_
                    rintro e w5 ⟨p5, c5, rfl, ho5, hb5⟩
                    have hs5 := hb5.size
                    have hown5 := ((hown.below hbV).below hb5).up
                    have hbw := hb2.trans ((hbV.mono hBw).trans (hb5.mono (by omega)))
                    have hsz : B ≤ w5.heap.size := by omega
                    have hownA := hown5.below (boxed w5 (.cells #[.slice p5 2 c5] 29))
                    go_wp2_with (at_builtin; refine append_row rfl _ _ rfl _ B _ _ _ _ _ rfl hownA.outer _ _ _ _ rfl (cellNew _ _ _) (by have := HO2.out.2.2.2; have := HNN.out; omega) (by simp; omega) ?_; intro p3 c3 w3 ho3 hg3)
                    have hb3 : Below B W2 w3 := (hbw.alloc hsz _).trans (hg3.below (by simp; omega) (fun a ha => (hownA.outer.lt a ha).1))
                    have hs3 : B ≤ w3.heap.size := by have := hg3.by_.size; simp at this; omega
                    have h7 := (((hown.below hbV).below hb5).widen (hi' := V.heap.size) (Nat.le_refl _) hsV).app ho5 (by omega) (boxed _ _) ho3 hg3
                    go_roundw
                    case rel =>
                      have eO : (O ++ [X]).length = N + 1 := by simp [HNN.out]
                      refine ⟨j + 1, p3, c3, _, O ++ [X], by omega, by go_num, by rw [eO], by rw [eO]; exact h7, Lib.hid ⟨?_, fun a ha => ?_, by rw [eO]; have := HO2.out.2.2.2; have := HNN.out; omega⟩, hb.trans hb3, hs3⟩
                      · rw [HO2.out.1, gfold_next Hvi.out, ← HO2.out.2.1, gpush_top (show ¬ turnZ a b2 X ≤ 0 by have := HT.out; omega)]
                        simp
                      · rcases List.mem_append.1 ha with ha | ha
                        · exact HO2.out.2.2.1 a ha
                        · obtain rfl : a = X := by simpa using ha
                          exact px
                    case measure => simp [intOf]; omega
            · obtain rfl : j = k := by omega
              generalize wr = W2 at *
              have hvn : (vsq xss seq s).take j = vsq xss seq s := List.take_of_length_le (by rw [HvsL.out]; exact Nat.le_refl _)
              have hO := HO.out.1
              rw [hvn] at hO
              have hne : ((vsq xss seq s).foldl (pushC turnZ) []).reverse ≠ [] := by
                have hg : (vsq xss seq s)[j - 1]? = some ((vsq xss seq s)[j - 1]'(by rw [HvsL.out]; omega)) := List.getElem?_eq_getElem _
                have h2 := gfold_next hg
                rw [show j - 1 + 1 = j by omega, hvn] at h2
                rw [h2]
                simp [gpush_ne]
              have hnext : outG (seq.map (nthR xss)) (s + 1) = O.dropLast := by rw [Hnx.out, hO, gdrop_out hne]
              have hpos : 0 < O.length := by
                rw [hO, List.length_append]
                have := List.length_pos_iff.2 hne
                omega
              have hOb := HO.out.2.2
              rcases hown.outer.form with ⟨_, h0, _⟩ | ⟨g0, rfl, hg1, _, hg3, hg4, hg5⟩
              · omega
              obtain ⟨M1, hM1⟩ : ∃ M1, M1 = O.length - 1 := ⟨_, rfl⟩
              have hw4 : IntKind.i64.wrap ((O.length : Int) - 1) = (M1 : Int) := by rw [wrapEq, wrap64_id (by omega) (by omega)]; omega
              have hmx : (if (0 : Int) < (M1 : Int) then (M1 : Int) else 0) = (M1 : Int) := by split <;> omega
              have hmxn : (if 0 < M1 then (M1 : Int) else 0) = (M1 : Int) := by split <;> omega
              have z2 : (0 : Int) ≤ (M1 : Int) := by omega
              have z5 : (M1 : Int) ≤ (c' : Int) := by omega
              have z6 : M1 ≤ c' := by omega
              have HNext := Lib.hid hnext
              have HM1 := Lib.hid hM1
              have hPt2 := hPt.below hb
              clear hnext hM1 hO hne hvn
              go_wp2_with fail
              refine (reverse_any hPt2 (by omega)).mono ?_
              rintro e w5 ⟨rfl, hPt5, hwi⟩
              have hs5 := hwi.size
              go_wp2_with fail
              go_roundw
              case rel =>
                rw [sq_succ hlt2] at hPt5
                have eT : O.take M1 = outG (seq.map (nthR xss)) (s + 1) := by rw [HNext.out, HM1.out, ← List.dropLast_eq_take]
                have eL : (outG (seq.map (nthR xss)) (s + 1)).length = M1 := by rw [HNext.out, List.length_dropLast, HM1.out]
                have hpr := ((hown.within hwi (.inr hgw)).up.pre (k := M1) (by have := HM1.out; omega))
                rw [eT] at hpr
                refine ⟨s + 1, _, c', _, by omega, by go_num, by rw [eL], by rw [eL]; exact hpr, Lib.hid ⟨?_, fun a ha => ?_⟩, hPt5, by omega, hbT.trans ((hb.mono hBl).trans (hwi.below hgl (by omega)))⟩
                · rw [eL, HM1.out, Nat.mul_succ]; have := HB.out.1; omega
                · rw [HNext.out] at ha; exact HO.out.2.1 a (List.dropLast_subset _ ha)
              case measure => simp [intOf]; omega
        · obtain rfl : s = 2 := by omega
          have HD : Hid (hullV xss = if polyB (outG (seq.map (nthR xss)) 2) = true then (outG (seq.map (nthR xss)) 2, true) else ([], false)) := Lib.hid (hullD_eq (D := seq.map (nthR xss)) (by rw [hl.out]; exact h200) HF.out (fun a => by
              rw [List.mem_map]
              constructor
              · rintro ⟨i, hi, rfl⟩; exact nthR_mem (by rw [hl.out]; exact (Hseq.out.1 i).1 hi)
              · intro ha
                obtain ⟨i, hi, rfl⟩ := List.getElem_of_mem ha
                exact ⟨i, (Hseq.out.1 i).2 (by rw [← hl.out]; exact hi), nthR_eq hi⟩) (by
              refine Hseq.out.2.imp_of_mem fun {a b} ha hb h => ?_
              obtain ⟨i, hi, rfl⟩ := List.mem_map.1 ha
              obtain ⟨j, hj, rfl⟩ := List.mem_map.1 hb
              rw [← cmp_lx (Hp.out j ((Hseq.out.1 j).1 hj)).len (Hp.out i ((Hseq.out.1 i).1 hi)).len]
              omega))
          have hOb := HB.out.1
          generalize outG (seq.map (nthR xss)) 2 = O at *
          cases hpo : polyB O
          · have HD2 : Hid (hullV xss = ([], false)) := Lib.hid (by rw [HD.out, hpo]; rfl)
            go_wp2_with fail
            refine (implIsPolygon_any _ _ _ _ _ (by omega) hown.rd).mono ?_
            rw [hpo]
            rintro e w4 ⟨rfl, hb4⟩
            go_wp2_with fail
            go_ret2
            rw [HD2.out]
            exact NewMB.none_ (Below.step hbT hb4)
          · have HD2 : Hid (hullV xss = (O, true)) := Lib.hid (by rw [HD.out, hpo]; rfl)
            go_wp2_with fail
            refine (implIsPolygon_any _ _ _ _ _ (by omega) hown.rd).mono ?_
            rw [hpo]
            rintro e w4 ⟨rfl, hb4⟩
            go_wp2_with fail
            go_ret2
            rw [HD2.out]
            exact ⟨_, _, _, rfl, ⟨rows, (hown.below hb4).up.widen hBl (Nat.le_refl _)⟩, Below.step hbT hb4⟩

set_option maxHeartbeats 4000000 in
theorem implHullOf_any (p : Option Addr) (n c : Nat) (xss : List (List Int)) (w : World) (hn : n ≤ 9223372036854775807) (hx : Intss w p n xss) :
    Calls Tryz.prog 8 #[.slice p n c] w (NewMB w (hullV xss)) := by
  have hl := Lib.hid hx.len
  by_cases h200 : n ≤ 200
  · cases hf : flatB xss
    · have HV : Hid (hullV xss = ([], false)) := Lib.hid (by unfold hullV; rw [if_neg]; intro h; rw [h.2.1] at hf; cases hf)
      have HF := Lib.hid hf
      clear hf
      have hd0 : decide (200 < (n : Int)) = false := by simp; omega
      have hd0n : decide (200 < n) = false := by simp; omega
      go_enter Tryz.func8, Tryz.ntmps8
      go_wp2_with fail
      go_loop [17] (fun i => ∃ k : Nat, k ≤ n ∧ i = .int .i64 k ∧ Hid (∀ j, j < k → isPt 50 (nthR xss j) = true)) (fun i => n - (intOf i).toNat)
      case atStart => exact ⟨0, Nat.zero_le _, rfl, Lib.hid fun j hj => by omega⟩
      case round =>
        obtain ⟨k, hk, rfl, hall⟩ := hrel
        by_cases hlt : k < n
        · obtain ⟨b, o, q, m, d, rfl, hc, hm, hi⟩ := hx.cell k hlt
          have hd1 : decide ((k : Int) < (n : Int)) = true := by simp; omega
          cases hP : isPt 50 (nthR xss k)
          · go_wp2_with fail
            refine (isPoint_any _ _ _ _ 50 _ hm hi (by omega) (by omega)).mono ?_
            rw [hP]
            rintro e w1 ⟨rfl, rfl⟩
            go_wp2_with fail
            go_ret2
            rw [HV.out]
            exact NewMB.none_ (Below.refl _ _)
          · have HP := Lib.hid hP
            go_wp2_with fail
            refine (isPoint_any _ _ _ _ 50 _ hm hi (by omega) (by omega)).mono ?_
            rw [HP.out]
            rintro e w1 ⟨rfl, rfl⟩
            go_wp2_with fail
            go_round
            case rel =>
              refine ⟨k + 1, by omega, by go_num, Lib.hid fun j hj => ?_⟩
              by_cases hjk : j < k
              · exact hall.out j hjk
              · obtain rfl : j = k := by omega
                exact HP.out
            case measure => simp [intOf]; omega
        · obtain rfl : k = n := by omega
          have := flatB_yes (xss := xss) fun j hj => hall.out j (by rw [hl.out] at hj; exact hj)
          rw [HF.out] at this
          cases this
    · rcases Nat.eq_zero_or_pos n with rfl | h1
      · have HV : Hid (hullV xss = ([], false)) := Lib.hid (by
          unfold hullV
          rw [if_neg]
          intro h
          have := sortL_length xss
          have := h.2.2.1
          have := hl.out
          omega)
        rw [HV.out]
        exact hullZero p c w
      · exact hullSome p n c xss w h1 h200 hx hf
  · have HV : Hid (hullV xss = ([], false)) := Lib.hid (by unfold hullV; rw [if_neg]; intro h; exact h200 (by rw [← hl.out]; exact h.1))
    have hd0 : decide (200 < (n : Int)) = true := by simp; omega
    go_enter Tryz.func8, Tryz.ntmps8
    go_wp2_with fail
    go_ret2
    rw [HV.out]
    exact NewMB.none_ (Below.refl _ _)

end Go.Proofs.YthdonnkekggbbaaGreatDoor
