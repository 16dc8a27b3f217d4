/- Contract of spec.l7Hull. Conditions: sizes, points of the plane. -/
import Derived.Test.YthdonnkekggbbaaGreatDoorJnSame
import Derived.Test.YthdonnkekggbbaaGreatDoorPg2
namespace Go.Proofs.YthdonnkekggbbaaGreatDoor
open Go.RowKit
set_option linter.unusedVariables false
set_option linter.unusedSimpArgs false
set_option maxRecDepth 100000

def rowD (rows : List Row) (i : Nat) : Row := rows.getD i (none, 0, 0)
theorem rowD_eq {rows : List Row} {i : Nat} (h : i < rows.length) : rowD rows i = rows[i] := by simp [rowD, List.getD, h]
def turnI (xss : List (List Int)) (i j k : Nat) : Int := turnZ (nthR xss i) (nthR xss j) (nthR xss k)
/-- The out of l7Hull behind s passes. -/
def outAt (t : Nat → Nat → Nat → Int) (n : Nat) : Nat → List Nat
  | 0 => []
  | 1 => (chainR t (List.range n)).reverse.dropLast
  | _ + 2 => hullOf t (List.range n)
def seqAt (n s : Nat) : List Nat := if s = 0 then List.range n else (List.range n).reverse

def lenOf : Value → Nat
  | .slice _ n _ => n
  | _ => 0
theorem pushC_out {t : Nat → Nat → Nat → Int} {st : List Nat} {x : Nat} (h : st.length < 2) : pushC t st x = x :: st := by
  match st with
  | [] => rfl
  | [b] => rfl
theorem pushC_pop {t : Nat → Nat → Nat → Int} {a b x : Nat} {r : List Nat} (h : t a b x ≤ 0) : pushC t (b :: a :: r) x = pushC t (a :: r) x := by rw [pushC, if_pos h]
theorem pushC_top {t : Nat → Nat → Nat → Int} {a b x : Nat} {r : List Nat} (h : ¬ t a b x ≤ 0) : pushC t (b :: a :: r) x = x :: b :: a :: r := by rw [pushC, if_neg h]
theorem pushC_ne {t : Nat → Nat → Nat → Int} (x : Nat) : ∀ st, pushC t st x ≠ []
  | [] => by simp [pushC]
  | [b] => by simp [pushC]
  | b :: a :: r => by
    rw [pushC]
    split
    · exact pushC_ne x (a :: r)
    · simp

theorem seqAt_length (n s : Nat) : (seqAt n s).length = n := by unfold seqAt; split <;> simp
theorem seqAt_zero {n k : Nat} (h : k < n) : (seqAt n 0)[k]'(by rw [seqAt_length]; exact h) = k := by simp [seqAt]
theorem seqAt_one {n k : Nat} (h : k < n) : (seqAt n 1)[k]'(by rw [seqAt_length]; exact h) = n - 1 - k := by simp [seqAt]
theorem fold_next {t : Nat → Nat → Nat → Int} {L : List Nat} {k i : Nat} (h : k < L.length) (hi : L[k] = i) : (L.take (k + 1)).foldl (pushC t) [] = pushC t ((L.take k).foldl (pushC t) []) i := by
  rw [List.take_succ_eq_append_getElem h, List.foldl_append, hi]; rfl
theorem outAt_succ {t : Nat → Nat → Nat → Int} {n g : Nat} (hg : g < 2) : outAt t n (g + 1) = outAt t n g ++ ((seqAt n g).foldl (pushC t) []).reverse.dropLast := by
  match g, hg with
  | 0, _ => rfl
  | 1, _ => rfl
theorem drop_out {A B : List Nat} (h : B ≠ []) : (A ++ B).dropLast = A ++ B.dropLast := by rw [List.dropLast_append_of_ne_nil h]

set_option maxHeartbeats 4000000 in
theorem l7Hull_any (lo s : Nat) (n c : Nat) (rows : List Row) (xss : List (List Int)) (w : World) (h1 : 2 ≤ n) (hn : n ≤ 1000) (hlo : lo ≤ w.heap.size) (h : Own2 w lo w.heap.size (some ⟨s, 0, none⟩) n c rows xss) (hp : ∀ k, k < n → PtIn 50 (nthR xss k)) :
    Calls Tryz.prog 44 #[.slice (some ⟨s, 0, none⟩) n c] w fun e w' => ∃ p' c', e = .returned (.slice p' (hullOf (turnI xss) (List.range n)).length c') ∧ OwnV w' 29 1 w.heap.size w'.heap.size p' (hullOf (turnI xss) (List.range n)).length c' (((hullOf (turnI xss) (List.range n)).map (rowD rows)).map Row.val) ∧ Below w.heap.size w w' := by
  have hcnt := Lib.hid h.count
  have hl := Lib.hid (show xss.length = n from h.len ▸ h.count)
  have Hp := Lib.hid hp
  have HK := Lib.hid h
  have Hrow : Hid (∀ a, a < n → ∃ q d, rowD rows a = (q, 2, d) ∧ w.cell? ⟨s, a, none⟩ = some (.slice q 2 d) ∧ Ints w q 2 (nthR xss a) ∧ PtIn 1000 (nthR xss a)) := Lib.hid fun a ha => by
    have har : a < rows.length := by rw [h.count]; exact ha
    have hc := h.hdr har
    have hi := (h.inner a har).ints
    have h2 : rows[a].2.1 = 2 := by rw [← hi.len]; exact (hp a ha).len
    rw [h2] at hc hi
    exact ⟨rows[a].1, rows[a].2.2, by rw [rowD_eq har, ← h2], hc, hi, (hp a ha).wide (by omega)⟩
  clear hp
  go_enter Tryz.func44, Tryz.ntmps44
  go_wp2
  go_loopw [3, 4] (fun v i wr => ∃ (g : Nat) (p' : Option Addr) (c' : Nat), g ≤ 2 ∧ i = .int .i64 g ∧ v = .slice p' (outAt (turnI xss) n g).length c' ∧ OwnV wr 29 1 w.heap.size wr.heap.size p' (outAt (turnI xss) n g).length c' (((outAt (turnI xss) n g).map (rowD rows)).map Row.val) ∧ Hid ((outAt (turnI xss) n g).length ≤ n * g ∧ ∀ a ∈ outAt (turnI xss) n g, a < n) ∧ Below w.heap.size w wr) (fun _ i _ => 2 - (intOf i).toNat)
  case atStart => exact ⟨0, _, _, by omega, rfl, rfl, (Own2.empty w).outer.up, ⟨by simp [outAt], fun a ha => by simp [outAt] at ha⟩, boxed w _⟩
  case round =>
    obtain ⟨g, p', c', hg, rfl, rfl, hown, HB, hb⟩ := hrel
    by_cases hlt : g < 2
    · generalize wr = W at *
      generalize hB : outAt (turnI xss) n g = B at *
      have hd1 : decide ((g : Int) < 2) = true := by simp; omega
      go_wp2
      have hBl : B.length ≤ 2000 := by
        have h1 := HB.out.1
        have h2 : n * g ≤ n * 2 := Nat.mul_le_mul (Nat.le_refl _) hg
        omega
      go_loopw [3, 6] (fun v i wr => ∃ (k : Nat) (p' : Option Addr) (c' : Nat) (O : List Nat), k ≤ n ∧ i = .int .i64 k ∧ v = .slice p' O.length c' ∧ OwnV wr 29 1 w.heap.size wr.heap.size p' O.length c' ((O.map (rowD rows)).map Row.val) ∧ Hid (O = B ++ (((seqAt n g).take k).foldl (pushC (turnI xss)) []).reverse ∧ (∀ a ∈ O, a < n) ∧ O.length ≤ B.length + k) ∧ Below w.heap.size w wr) (fun _ i _ => n - (intOf i).toNat)
      case atStart => exact ⟨0, _, _, B, by omega, rfl, rfl, hown, ⟨by simp, HB.out.2, by omega⟩, hb⟩
      case round =>
        obtain ⟨k, p', c', O, hk, rfl, rfl, hown, HO, hb⟩ := hrel
        by_cases hlt2 : k < n
        · generalize wr = W2 at *
          have hd2 : decide ((k : Int) < (n : Int)) = true := by simp; omega
          obtain ⟨i, hi, hseq, hcase⟩ : ∃ i, i < n ∧ (∀ h, (seqAt n g)[k]'h = i) ∧ ((g = 0 ∧ i = k) ∨ (g = 1 ∧ i = n - 1 - k)) := by
            have hg01 : g = 0 ∨ g = 1 := by omega
            rcases hg01 with rfl | rfl
            · exact ⟨k, hlt2, fun _ => seqAt_zero hlt2, .inl ⟨rfl, rfl⟩⟩
            · exact ⟨n - 1 - k, by omega, fun _ => seqAt_one hlt2, .inr ⟨rfl, rfl⟩⟩
          obtain ⟨qi, di, ei, ci, ii, pi⟩ := Hrow.out i hi
          obtain ⟨qk, dk, _, ck, _, _⟩ := Hrow.out k hlt2
          replace ci := (hb.cell (World.block_lt_of_cell? w _ ci)).trans ci
          replace ck := (hb.cell (World.block_lt_of_cell? w _ ck)).trans ck
          have Hei := Lib.hid ei
          obtain ⟨n1, hn1⟩ : ∃ n1, n1 = n - 1 := ⟨_, rfl⟩
          have hw1 : IntKind.i64.wrap ((n : Int) - 1) = (n1 : Int) := by rw [wrapEq, wrap64_id (by omega) (by omega)]; omega
          have hz1 : (0 : Int) ≤ (i : Int) := by omega
          have hz2 : (i : Int) < (n : Int) := by omega
          have hcase2 : (((g : Int) == 1) = false ∧ W2.cell? ⟨s, k, none⟩ = some (.slice qi 2 di)) ∨ (((g : Int) == 1) = true ∧ IntKind.i64.wrap ((n1 : Int) - (k : Int)) = (i : Int) ∧ W2.cell? ⟨s, k, none⟩ = some (.slice qk 2 dk) ∧ W2.cell? ⟨s, i, none⟩ = some (.slice qi 2 di)) := by
            rcases hcase with ⟨h0, hik⟩ | ⟨h0, hik⟩
            · exact .inl ⟨by subst h0; rfl, hik ▸ ci⟩
            · exact .inr ⟨by subst h0; rfl, by rw [wrapEq, wrap64_id (by omega) (by omega)]; omega, ck, ci⟩
          clear ei ci ck hcase hn1
          rcases hcase2 with ⟨hg1', c1⟩ | ⟨hg1', hw2, ck, c1⟩
          all_goals
            go_wp2
            go_loopw [3] (fun v wr => ∃ (p' : Option Addr) (c' : Nat) (O st : List Nat), v = .slice p' O.length c' ∧ OwnV wr 29 1 w.heap.size wr.heap.size p' O.length c' ((O.map (rowD rows)).map Row.val) ∧ Hid (O = B ++ st.reverse ∧ pushC (turnI xss) st i = pushC (turnI xss) (((seqAt n _).take k).foldl (pushC (turnI xss)) []) i ∧ (∀ a ∈ O, a < n) ∧ O.length ≤ B.length + k) ∧ Below w.heap.size w wr) (fun v _ => lenOf v)
            case atStart => exact ⟨p', c', O, _, rfl, hown, ⟨HO.out.1, rfl, HO.out.2.1, HO.out.2.2⟩, hb⟩
            case round =>
              clear hown hb c1 HO
              obtain ⟨p', c', O, st, rfl, hown, HO2, hb⟩ := hrel
              generalize wr = W3 at *
              have hform := hown.form
              have hlenO : O.length = B.length + st.length := by rw [HO2.out.1]; simp
              by_cases hst : st.length < 2
              · have hge : decide ((B.length : Int) + 2 ≤ (O.length : Int)) = false := by simp; omega
                have hgn : decide (B.length + 2 ≤ O.length) = false := by simp; omega
                clear hlenO
                have hwb : IntKind.i64.wrap ((B.length : Int) + 2) = (B.length : Int) + 2 := by rw [wrapEq, wrap64_id (by omega) (by omega)]
                go_wp2
                refine wp_region_quiet_below (by kernel_rfl) (by kernel_rfl) ?_
                repeat (go_big_quiet_step (fail))
                refine wpQuiet_nil ?_
                intro _ hw'
                obtain ⟨⟨dq, osq⟩, hw''⟩ := hw'
                subst hw''
                generalize hV : Go.Sort.grow (redrawn W3 dq) osq = V at *
                have hbV : Below W3.heap.size W3 V := hV ▸ below_regrown W3 dq osq
                clear hV
                have hownA := (hown.below hbV).below (boxed V (.cells #[.slice qi 2 di] 29))
                have hbw := Below.step hb hbV
                have hszw := hbw.size
                go_wp2_with (at_builtin; refine append_row rfl _ _ rfl _ w.heap.size _ _ _ _ _ rfl hownA _ _ _ _ rfl (cellNew _ _ _) (by have := HO2.out.2.2.2; omega) (sizeNew hbw _) ?_; intro p3 c3 w3 ho3 hg3)
                have hb3 : Below w.heap.size w w3 := (hbw.alloc hbw.size _).trans (hg3.below (sizeNew hbw _) (fun a ha => (hownA.lt a ha).1))
                go_roundw
                case rel =>
                  have eO : (O ++ [i]).length = O.length + 1 := by simp
                  refine ⟨k + 1, p3, c3, O ++ [i], by omega, by go_num, by rw [eO], by rw [eO]; simpa [Hei.out, Row.val] using ho3, ⟨?_, fun a ha => ?_, by rw [eO]; have := HO2.out.2.2.2; omega⟩, hb3⟩
                  · rw [HO2.out.1, fold_next (by rw [seqAt_length]; exact hlt2) (hseq _), ← HO2.out.2.1, pushC_out hst]
                    simp
                  · rcases List.mem_append.1 ha with ha | ha
                    · exact HO2.out.2.2.1 a ha
                    · obtain rfl : a = i := by simpa using ha
                      exact hi
                case measure => simp [intOf]; omega
              · obtain ⟨b, a, r, rfl⟩ : ∃ b a r, st = b :: a :: r := by
                  match st, hst with
                  | b :: a :: r, _ => exact ⟨b, a, r, rfl⟩
                  | [b], h => exact absurd (by simp) h
                  | [], h => exact absurd (by simp) h
                rcases hform with ⟨_, h0, _⟩ | ⟨g0, rfl, hg1, _, hg3, hg4, hg5⟩
                · simp at hlenO; omega
                obtain ⟨M, hM⟩ : ∃ M, M = B.length + r.length := ⟨_, rfl⟩
                obtain ⟨M1, hM1⟩ : ∃ M1, M1 = M + 1 := ⟨_, rfl⟩
                have hON : O.length = M + 2 := by rw [hlenO, hM]; simp; omega
                have eO : O = B ++ r.reverse ++ [a, b] := by rw [HO2.out.1]; simp
                have e1 : ∀ (x y : List Nat) (u v : Nat), x.length = M → (x ++ [u, v])[M]? = some u ∧ (x ++ [u, v])[M + 1]? = some v := fun x y u v hx => by subst hx; simp
                have e2 := e1 (B ++ r.reverse) [] a b (by simp [hM])
                rw [← eO] at e2
                have hca := hown.cell (k := M) (by omega)
                have hcb := hown.cell (k := M1) (by omega)
                rw [List.map_map, List.getElem?_map, e2.1] at hca
                rw [List.map_map, List.getElem?_map, hM1, e2.2, ← hM1] at hcb
                have ha := HO2.out.2.2.1 a (by rw [eO]; simp)
                have hb' := HO2.out.2.2.1 b (by rw [eO]; simp)
                obtain ⟨qa, da, ea, _, ia, pa⟩ := Hrow.out a ha
                obtain ⟨qb, db, eb, _, ib, pb⟩ := Hrow.out b hb'
                simp only [Option.map_some, Function.comp_apply, ea, eb, Row.val] at hca hcb
                have eca := cell_regrown hca
                have ecb := cell_regrown hcb
                have K1 : Hid (∀ d os, Calls Tryz.prog 79 #[.slice qa 2 da, .slice qb 2 db, .slice qi 2 di] (Sort.grow (redrawn W3 d) os) fun e w' => e = .returned (.int .i64 (turnZ (nthR xss a) (nthR xss b) (nthR xss i))) ∧ ∃ p : Regrown, w' = Sort.grow (redrawn W3 p.d) p.os) :=
                  Lib.hid fun d os => Calls.regrown_of (specTurn_any _ _ _ _ _ _ _ _ _ _ (ia.below (Below.step hb (below_regrown W3 d os))) (ib.below (Below.step hb (below_regrown W3 d os))) (ii.below (Below.step hb (below_regrown W3 d os))) pa pb pi)
                have HT0 : Hid (turnI xss a b i = turnZ (nthR xss a) (nthR xss b) (nthR xss i)) := rfl
                generalize turnZ (nthR xss a) (nthR xss b) (nthR xss i) = T1 at *
                generalize hN : O.length = N at *
                have hge : decide ((B.length : Int) + 2 ≤ (N : Int)) = true := by simp; omega
                have hgn : decide (B.length + 2 ≤ N) = true := by simp; omega
                have hgm : B.length + 2 ≤ N := by omega
                have hwb : IntKind.i64.wrap ((B.length : Int) + 2) = (B.length : Int) + 2 := by rw [wrapEq, wrap64_id (by omega) (by omega)]
                have hNb : N ≤ 3000 := by have := HO2.out.2.2.2; omega
                have hw3 : IntKind.i64.wrap ((N : Int) - 2) = (M : Int) := by rw [wrapEq, wrap64_id (by omega) (by omega)]; omega
                have hw4 : IntKind.i64.wrap ((N : Int) - 1) = (M1 : Int) := by rw [wrapEq, wrap64_id (by omega) (by omega)]; omega
                have z1 : (0 : Int) ≤ (M : Int) := by omega
                have z2 : (0 : Int) ≤ (M1 : Int) := by omega
                have z3 : (M : Int) < (N : Int) := by omega
                have z4 : (M1 : Int) < (N : Int) := by omega
                have z5 : (M1 : Int) ≤ (c' : Int) := by omega
                have z6 : M1 ≤ c' := by omega
                have HM := Lib.hid (And.intro hM hM1)
                have HON := Lib.hid hON
                have HEO := Lib.hid eO
                have HNN := Lib.hid hN
                clear e1 e2 hM hM1 hON eO ea eb hN hlenO
                by_cases ht : T1 ≤ 0
                · have HT : Hid (turnI xss a b i ≤ 0) := Lib.hid (by rw [HT0.out]; exact ht)
                  go_wp2
                  refine wp_region_quiet_below (by kernel_rfl) (by kernel_rfl) ?_
                  repeat (go_big_quiet_step (with_reducible exact K1.out _ _))
                  refine wpQuiet_nil ?_
                  intro _ hw'
                  obtain ⟨⟨dq, osq⟩, hw''⟩ := hw'
                  subst hw''
                  go_wp2
                  go_roundw
                  case rel =>
                    have eL : (B ++ (a :: r).reverse).length = M1 := by simp [HM.out.1, HM.out.2]; omega
                    refine ⟨_, c', B ++ (a :: r).reverse, a :: r, by rw [eL], ?_, ⟨rfl, (pushC_pop HT.out).symm.trans HO2.out.2.1, fun x hx => HO2.out.2.2.1 x ?_, ?_⟩, Below.step hb (below_regrown W3 dq osq)⟩
                    · rw [eL]
                      have := ((hown.below (below_regrown W3 dq osq)).pre (k := M1) (by omega)).up
                      rw [HEO.out] at this
                      have e5 : ((B ++ r.reverse ++ [a, b]).map (rowD rows)).map Row.val = (((B ++ (a :: r).reverse).map (rowD rows)).map Row.val) ++ [Row.val (rowD rows b)] := by simp
                      rw [e5, List.take_left' (by simp only [List.length_map]; exact eL)] at this
                      exact this
                    · rw [HEO.out]
                      simp only [List.reverse_cons, ← List.append_assoc] at hx
                      rcases List.mem_append.1 hx with h1 | h1
                      · exact List.mem_append_left _ h1
                      · exact List.mem_append_right _ (by simp at h1; simp [h1])
                    · rw [eL]; have := HO2.out.2.2.2; have := HON.out; omega
                  case measure => simp [lenOf]; omega
                · have HT : Hid (¬ turnI xss a b i ≤ 0) := Lib.hid (by rw [HT0.out]; exact ht)
                  have htd : decide (T1 ≤ 0) = false := by simpa using ht
                  clear ht
                  go_wp2
                  refine wp_region_quiet_below (by kernel_rfl) (by kernel_rfl) ?_
                  repeat (go_big_quiet_step (with_reducible exact K1.out _ _))
                  refine wpQuiet_nil ?_
                  intro _ hw'
                  obtain ⟨⟨dq, osq⟩, hw''⟩ := hw'
                  subst hw''
                  generalize hV : Go.Sort.grow (redrawn W3 dq) osq = V at *
                  have hbV : Below W3.heap.size W3 V := hV ▸ below_regrown W3 dq osq
                  clear hV
                  have hownA := (hown.below hbV).below (boxed V (.cells #[.slice qi 2 di] 29))
                  have hbw := Below.step hb hbV
                  have hszw := hbw.size
                  go_wp2_with (at_builtin; refine append_row rfl _ _ rfl _ w.heap.size _ _ _ _ _ rfl hownA _ _ _ _ rfl (cellNew _ _ _) (by have := HO2.out.2.2.2; omega) (sizeNew hbw _) ?_; intro p3 c3 w3 ho3 hg3)
                  have hb3 : Below w.heap.size w w3 := (hbw.alloc hbw.size _).trans (hg3.below (sizeNew hbw _) (fun a ha => (hownA.lt a ha).1))
                  go_roundw
                  case rel =>
                    have eO : (O ++ [i]).length = N + 1 := by simp [HNN.out]
                    refine ⟨k + 1, p3, c3, O ++ [i], by omega, by go_num, by rw [eO], by rw [eO]; simpa [Hei.out, Row.val] using ho3, ⟨?_, fun a ha => ?_, by rw [eO]; have := HO2.out.2.2.2; have := HNN.out; omega⟩, hb3⟩
                    · rw [HO2.out.1, fold_next (by rw [seqAt_length]; exact hlt2) (hseq _), ← HO2.out.2.1, pushC_top (show ¬ turnI xss a b i ≤ 0 by have := HT.out; omega)]
                      simp
                    · rcases List.mem_append.1 ha with ha | ha
                      · exact HO2.out.2.2.1 a ha
                      · obtain rfl : a = i := by simpa using ha
                        exact hi
                  case measure => simp [intOf]; omega
        · obtain rfl : k = n := by omega
          have hseqn : (seqAt k g).take k = seqAt k g := List.take_of_length_le (by rw [seqAt_length]; exact Nat.le_refl _)
          have hO := HO.out.1
          rw [hseqn] at hO
          have hne : ((seqAt k g).foldl (pushC (turnI xss)) []).reverse ≠ [] := by
            have h2 := fold_next (t := turnI xss) (L := seqAt k g) (k := k - 1) (by rw [seqAt_length]; omega) rfl
            rw [show k - 1 + 1 = k by omega, hseqn] at h2
            rw [h2]
            simp [pushC_ne]
          have hnext : outAt (turnI xss) k (g + 1) = O.dropLast := by rw [outAt_succ hlt, hB, hO, drop_out hne]
          have hpos : 0 < O.length := by
            rw [hO, List.length_append]
            have := List.length_pos_iff.2 hne
            omega
          rcases hown.form with ⟨_, h0, _⟩ | ⟨g0, rfl, hg1, _, hg3, hg4, hg5⟩
          · omega
          obtain ⟨M1, hM1⟩ : ∃ M1, M1 = O.length - 1 := ⟨_, rfl⟩
          have hw4 : IntKind.i64.wrap ((O.length : Int) - 1) = (M1 : Int) := by rw [wrapEq, wrap64_id (by omega) (by have := HO.out.2.2; omega)]; omega
          have z2 : (0 : Int) ≤ (M1 : Int) := by omega
          have z5 : (M1 : Int) ≤ (c' : Int) := by omega
          have z6 : M1 ≤ c' := by omega
          have HNext := Lib.hid hnext
          have HM1 := Lib.hid hM1
          clear hnext hM1 hO hne hseqn
          go_wp2
          go_roundw
          case rel =>
            have eL : (outAt (turnI xss) k (g + 1)).length = M1 := by rw [HNext.out, List.length_dropLast, HM1.out]
            refine ⟨g + 1, _, c', by omega, by go_num, by rw [eL], ?_, ⟨?_, fun a ha => ?_⟩, hb⟩
            · rw [eL, HNext.out]
              have := (hown.pre (k := M1) (by rw [HM1.out]; omega)).up
              rw [HM1.out, ← List.map_take, ← List.map_take, ← List.dropLast_eq_take] at this
              rw [HM1.out]
              exact this
            · rw [eL, HM1.out, Nat.mul_succ]; have := HO.out.2.2; have := HB.out.1; omega
            · rw [HNext.out] at ha; exact HO.out.2.1 a (List.dropLast_subset _ ha)
          case measure => simp [intOf]; omega
    · obtain rfl : g = 2 := by omega
      go_wp2
      go_ret
      exact ⟨_, _, rfl, hown, hb⟩

end Go.Proofs.YthdonnkekggbbaaGreatDoor
