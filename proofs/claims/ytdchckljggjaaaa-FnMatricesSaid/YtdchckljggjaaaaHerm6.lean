/- Contract of spec.l3Hermite. Conditions: sizes, a determinant other than nought. -/
import Derived.Test.YtdchckljggjaaaaHerm5
import Derived.Test.YtdchckljggjaaaaAnyU
namespace Go.Proofs.Ytdchckljggjaaaa
open Go.RowKit
set_option linter.unusedVariables false
set_option linter.unusedSimpArgs false
set_option maxRecDepth 100000

/-- Row c becomes row r, row r a new one. -/
theorem Own2.rot {w : World} {lo mid hi g : Nat} {n c0 : Nat} {rows : List Row} {xss : List (List Int)} (h : Own2 w lo mid (some ⟨g, 0, none⟩) n c0 rows xss) {q : Option Addr} {m d : Nat} {ys : List Int}
    (hr : Own w mid hi q m d ys) (hlm : lo ≤ mid) (hmh : mid ≤ hi) {c r : Nat} (hc : c < rows.length) (hrr : r < rows.length) (hne : c ≠ r) :
    Own2 ((w.setCell ⟨g, c, none⟩ (Row.val rows[r])).setCell ⟨g, r, none⟩ (.slice q m d)) lo hi (some ⟨g, 0, none⟩) n c0 ((rows.set c rows[r]).set r (q, m, d)) ((xss.set c (nthR xss r)).set r ys) := by
  have hcn := h.count
  have hl := h.len
  have h1 := h.store hr hlm hmh c (by omega)
  have h2 := h1.swap (i := c) (j := r) (by simpa using hc) (by simpa using hrr) hne
  have e1 : (rows.set c (q, m, d))[r]'(by simpa using hrr) = rows[r] := by rw [List.getElem_set_ne hne]
  have e2 : (rows.set c (q, m, d))[c]'(by simpa using hc) = (q, m, d) := by rw [List.getElem_set_self]
  have e3 : nthR (xss.set c ys) r = nthR xss r := by rw [nthR_set _ (by omega), if_neg hne]
  have e4 : nthR (xss.set c ys) c = ys := by rw [nthR_set _ (by omega), if_pos rfl]
  rw [e1, e2, e3, e4, List.set_set, List.set_set] at h2
  have e5 : ((w.setCell ⟨g, c, none⟩ (.slice q m d)).setCell ⟨g, c, none⟩ (Row.val rows[r])) = w.setCell ⟨g, c, none⟩ (Row.val rows[r]) := setCell_twice _ _ _ _ _
  rw [e5] at h2
  exact h2
theorem belowFrz {w w1 : World} (hb : Below w.heap.size w w1) {a : Addr} {v : Value} (h : w.cell? a = some v) (hf : w.frozen? a = false) : w1.frozen? a = false :=
  (hb.frozen (World.block_lt_of_cell? w a h)).trans hf

set_option maxHeartbeats 8000000 in
theorem l3Hermite_any (p : Option Addr) (n c0 : Nat) (xss : List (List Int)) (w : World) (h1 : 1 ≤ n) (h3 : n ≤ 3) (hx : Intss w p n xss) (hI : Inv n 0 xss) :
    Calls Try.prog 96 #[.slice p n c0] w (NewM w n (hermTo n xss n)) := by
  have hl := Lib.hid hx.len
  have HI := Lib.hid hI
  have hlen : ∀ k, k < n → (nthR xss k).length = n := fun k hk => hI.good.sq.2 k hk
  have Hlen := Lib.hid hlen
  clear hlen hI
  go_enter Try.func96, Try.ntmps96
  go_wp2
  go_loopw [3, 4] (fun v i wr => ∃ (k : Nat) (p' : Option Addr) (c' : Nat) (rows : List Row), k ≤ n ∧ i = .int .i64 k ∧ v = .slice p' k c' ∧ Own2 wr w.heap.size wr.heap.size p' k c' rows (xss.take k) ∧ Below w.heap.size w wr) (fun _ i _ => n - (intOf i).toNat)
  case atStart => exact ⟨0, _, _, [], Nat.zero_le _, rfl, rfl, (Own2.empty w).up, (Below.refl _ _).alloc (Nat.le_refl _) _⟩
  case round =>
    obtain ⟨k, p', c', rows, hk, rfl, rfl, hown, hb⟩ := hrel
    by_cases hlt : k < n
    · generalize wr = W at *
      obtain ⟨b, o, q1, m1, d1, rfl, hc, hm1, hi⟩ := (hx.below hb).cell k hlt
      have hm2 : m1 ≤ 3 := by rw [← hi.len, Hlen.out k hlt]; exact h3
      have hbA := boxed W (.cells #[] 3)
      have hsA := hbA.size
      have hc' := (hbA.cell (World.block_lt_of_cell? W _ hc)).trans hc
      go_wp2_with (at_builtin; refine append_ints rfl _ _ rfl _ W.heap.size _ _ _ _ _ rfl (Own.empty W) _ _ _ _ rfl (hi.below hbA) (by omega) (by simp) ?_; intro p2 c2 w2 ho2 hg2; refine Hid.out ?_)
      refine Lib.hid ?_
      have hb2 : Below W.heap.size W w2 := hbA.trans (hg2.belowO (Own.empty W) (by simp))
      have hown2 := hown.below hb2
      have hbw2 := Below.step hb hb2
      rw [List.nil_append] at ho2
      simp only [Nat.zero_add] at ho2 ⊢
      go_wp2_with (at_builtin; refine append_row rfl _ _ rfl _ w.heap.size _ _ _ _ _ rfl (hown2.outer.alloc _) _ _ _ _ rfl (cellNew _ _ _) (by omega) (sizeNew hbw2 _) ?_; intro p3 c3 w3 ho3 hg3)
      have hb3 : Below w.heap.size w w3 := (hbw2.alloc hbw2.size _).trans (hg3.below (sizeNew hbw2 _) (fun a ha => (hown2.outer.lt a ha).1))
      have h3' := hown2.app ho2 hb.size (boxed _ _) ho3 hg3
      go_roundw
      case rel =>
        rw [← take_nthR (by rw [hl.out]; exact hlt)] at h3'
        exact ⟨k + 1, _, _, _, by omega, by go_num, rfl, h3', hb3⟩
      case measure => simp [intOf]; omega
    · obtain rfl : k = n := by omega
      rw [List.take_of_length_le (by rw [hl.out]; exact Nat.le_refl _)] at hown
      obtain ⟨g, rfl, _⟩ := hown.rowAt 0 (by omega) (by rw [hown.count]; omega)
      generalize wr = W0 at *
      have hd0 : decide ((k : Int) < (k : Int)) = false := by simp
      go_wp2
      go_loopw [5] (fun i wr => ∃ (c : Nat) (rows : List Row), c ≤ k ∧ i = .int .i64 c ∧ Own2 wr w.heap.size wr.heap.size (some ⟨g, 0, none⟩) k c' rows (hermTo k xss c) ∧ Hid (Inv k c (hermTo k xss c)) ∧ Below w.heap.size w wr) (fun i _ => k - (intOf i).toNat)
      case atStart => exact ⟨0, _, Nat.zero_le _, rfl, hown, HI, hb⟩
      case round =>
        obtain ⟨c, rows, hc, rfl, hown, HIc, hb⟩ := hrel
        by_cases hlt : c < k
        · generalize wr = Wc at *
          have hd1 : decide ((c : Int) < (k : Int)) = true := by simp; omega
          generalize hM : hermTo k xss c = Mc at *
          go_wp2
          go_loopw [6] (fun i wr => ∃ (r : Nat) (rows : List Row), c + 1 ≤ r ∧ r ≤ k ∧ i = .int .i64 r ∧ Own2 wr w.heap.size wr.heap.size (some ⟨g, 0, none⟩) k c' rows (elimsTo c Mc (r - (c + 1))) ∧ Hid (Inv k c (elimsTo c Mc (r - (c + 1))) ∧ ZC c r (elimsTo c Mc (r - (c + 1)))) ∧ Below w.heap.size w wr) (fun i _ => k - (intOf i).toNat)
          case atStart => exact ⟨c + 1, rows, Nat.le_refl _, by omega, by go_num, by rw [Nat.sub_self]; exact hown, by rw [Nat.sub_self]; exact ⟨HIc.out, fun r h1 h2 => by omega⟩, hb⟩
          case round =>
            obtain ⟨r, rows, hcr, hrn, rfl, hown, HId, hb⟩ := hrel
            by_cases hlt2 : r < k
            · generalize wr = Wd at *
              have hd2 : decide ((r : Int) < (k : Int)) = true := by simp; omega
              have hnext : elimsTo c Mc (r + 1 - (c + 1)) = elimA c r (elimsTo c Mc (r - (c + 1))) := by
                rw [show r + 1 - (c + 1) = (r - (c + 1)) + 1 by omega, elimsTo, show c + 1 + (r - (c + 1)) = r by omega]
              have Hnext := Lib.hid hnext
              clear hnext
              generalize hMd : elimsTo c Mc (r - (c + 1)) = Md at *
              have HMd := Lib.hid hMd
              clear hMd
              go_wp2
              go_loopg [] ((ent Md r c).natAbs) (fun m wr => ∃ (rows : List Row) (M : List (List Int)), m = (ent M r c).natAbs ∧ Own2 wr w.heap.size wr.heap.size (some ⟨g, 0, none⟩) k c' rows M ∧ Hid (Inv k c M ∧ ZC c r M ∧ elimA c r M = elimA c r Md) ∧ Below w.heap.size w wr)
              case atStart => exact ⟨rows, Md, rfl, hown, ⟨HId.out.1, HId.out.2, rfl⟩, hb⟩
              case round =>
                obtain ⟨rows, M, hm, hown, HIm, hb⟩ := hrel
                have Hm := Lib.hid hm
                clear hm
                have hcnt := hown.count
                have hsq := HIm.out.1.good.sq
                have hrr : r < rows.length := by omega
                have hcr2 : c < rows.length := by omega
                obtain ⟨br, ebr, enr, hcapr, cer⟩ := hown.cellEnt hsq hrr (show c < k by omega)
                obtain ⟨bc, ebc, enc, hcapc, cec⟩ := hown.cellEnt hsq hcr2 (show c < k by omega)
                have cr := hown.cellRow hrr
                have cc := hown.cellRow hcr2
                by_cases h0 : ent M r c = 0
                · have h0' : (ent M r c != 0) = false := by simp [h0]
                  have hdone : M = elimsTo c Mc (r + 1 - (c + 1)) := by rw [Hnext.out, ← HIm.out.2.2, elimA_done h0]
                  have HIn : Hid (Inv k c M ∧ ZC c (r + 1) M) := ⟨HIm.out.1, fun r' h1 h2 => by
                    by_cases e : r' = r
                    · subst e; exact h0
                    · exact HIm.out.2.1 r' h1 (by omega)⟩
                  have Hdone := Lib.hid hdone
                  rw [ebr, enr] at cr
                  clear h0 hdone hsq
                  go_wp2
                  go_roundw
                  case rel => exact ⟨r + 1, rows, by omega, by omega, by go_num, by rw [← Hdone.out]; exact hown, by rw [← Hdone.out]; exact HIn, hb⟩
                  case measure => simp [intOf]; omega
                · have h0' : (ent M r c != 0) = true := by simp [h0]
                  have hgood := HIm.out.1.good
                  have Hstep : Hid (Inv k c (stepH c r M) ∧ ZC c r (stepH c r M) ∧ elimA c r (stepH c r M) = elimA c r Md ∧ (ent (stepH c r M) r c).natAbs < (ent M r c).natAbs) :=
                    ⟨HIm.out.1.step h3 (by omega) hlt2, HIm.out.2.1.step hgood (by omega) hlt2, by rw [← elimA_step hgood hlt hlt2 h0]; exact HIm.out.2.2, stepH_less hgood hlt hlt2 h0⟩
                  have hir := (hown.inner r hrr).ints
                  have hic := (hown.inner c hcr2).ints
                  rw [ebr, enr] at cr hir
                  rw [ebc, enc] at cc hic
                  have hlenr : (nthR M r).length = (nthR M c).length := by rw [hsq.2 r hlt2, hsq.2 c hlt]
                  have HS : Hid (∀ q, lessW (nthR M c) (scaleW (nthR M r) q) = subRow (nthR M c) q (nthR M r)) := Lib.hid fun q => lessW_scale hlenr.symm
                  have Hrr : Hid (Row.val rows[r] = .slice (some ⟨br, 0, none⟩) k rows[r].2.2) := by show _ = _; rw [Row.val, ebr, enr]
                  have hlr : rows[r].2.2 ≤ 9223372036854775807 := by
                    rcases (hown.inner r hrr).form with ⟨_, _, h2⟩ | ⟨_, _, _, _, _, _, h2⟩
                    · omega
                    · unfold maxLen at h2; omega
                  have hgl := (hown.outer.lt _ rfl)
                  have fr := hown.frz r
                  have fc := hown.frz c
                  have hne1 : (r : Nat) ≠ c := by omega
                  have HG := Lib.hid hgood
                  have HK := Lib.hid hown
                  clear hgood hsq hlenr ebr enr ebc enc hown
                  have hle : wr.heap.size ≤ wr.heap.size := Nat.le_refl _
                  generalize hdr : rows[r].2.2 = dr at *
                  generalize hdc : rows[c].2.2 = dc at *
                  have HQ : Hid (IntKind.i64.wrap ((ent M c c).tdiv (ent M r c)) = qOf (ent M c c) (ent M r c)) := Lib.hid (wrapEq _)
                  go_wp2
                  go_quiet (fail)
                  have cc : (wr.drewN nq).cell? _ = _ := cc
                  have cr : (wr.drewN nq).cell? _ = _ := cr
                  have fc : (wr.drewN nq).frozen? _ = _ := fc
                  have fr : (wr.drewN nq).frozen? _ = _ := fr
                  have hir := hir.drewN nq
                  have hic := hic.drewN nq
                  have HKq := Lib.hid (HK.out.drewN nq)
                  have hbq := Below.drawn hb nq
                  have hsq : wr.heap.size = (wr.drewN nq).heap.size := rfl
                  clear HK
                  rw [hsq] at HKq hgl
                  clear hsq
                  generalize wr.drewN nq = Wq at *
                  go_wp2
                  go_region_held3 (fun w' => w'.cell? ⟨g, c, none⟩ = some (.slice (some ⟨bc, 0, none⟩) k dc) ∧ w'.cell? ⟨g, r, none⟩ = some (.slice (some ⟨br, 0, none⟩) k dr)) (exact ⟨cc, cr⟩) (first | (go_at_call 123; (with_reducible refine (l2Scale_any _ _ _ _ _ _ (by omega) hir.drew).mono ?_); rintro e w4 ⟨p4, c4, rfl, ho4, hb4⟩; replace cc := belowCell hb4 cc; replace cr := belowCell hb4 cr) | (go_at_call 128; (with_reducible refine (l2Less_any _ _ _ _ _ _ _ _ (by omega) (hic.drew.below hb4) ho4.ints).mono ?_); rintro e w5 ⟨p5, c5, rfl, ho5, hb5⟩; replace cc := belowCell hb5 cc; replace cr := belowCell hb5 cr))
                  have hb45 := (drewBelow Wq).trans hb4
                  have hb6 := Below.step hb45 hb5
                  have hK5 := HKq.out.below hb6
                  have fc5 := belowFrz hb6 (HKq.out.cellRow hcr2) fc
                  have fr5 := belowFrz hb6 (HKq.out.cellRow hrr) fr
                  have hgl5 := Nat.lt_of_lt_of_le hgl.2.2 hb6.size
                  have hbw5 := Below.step hbq hb6
                  have hrot := hK5.rot (ho5.widen hb45.size (Nat.le_refl _)) hbq.size hb6.size hcr2 hrr (by omega)
                  rw [Hrr.out, HS.out] at hrot
                  change Own2 _ _ _ _ _ _ _ (stepH c r M) at hrot
                  go_wp2_with fail
                  go_roundg ((ent (stepH c r M) r c).natAbs)
                  case measure => rw [Hm.out]; exact Hstep.out.2.2.2
                  case rel => exact ⟨_, _, rfl, hrot.up', ⟨Hstep.out.1, Hstep.out.2.1, Hstep.out.2.2.1⟩, (hbw5.setCell (p := ⟨g, c, none⟩) hgl.1 _).setCell (p := ⟨g, r, none⟩) hgl.1 _⟩
            · skip
              -- BEGIN herm6.py
              obtain rfl : r = k := by omega
              have hcol : hermTo r xss (c + 1) = redTo c (negIf c (elimsTo c Mc (r - (c + 1)))) c := by
                rw [hermTo, hM, colH, show r - 1 - c = r - (c + 1) by omega]
              have Hcol := Lib.hid hcol
              have HM := Lib.hid hM
              clear hcol hM
              generalize hMd : elimsTo c Mc (r - (c + 1)) = Md at *
              have HMd := Lib.hid hMd
              clear hMd
              have hcnt := hown.count
              have hsq := HId.out.1.good.sq
              have hcr2 : c < rows.length := by omega
              obtain ⟨bc, ebc, enc, hcapc, cec⟩ := hown.cellEnt hsq hcr2 (show c < r by omega)
              have cc := hown.cellRow hcr2
              have hic := (hown.inner c hcr2).ints
              rw [ebc, enc] at cc hic
              have fc := hown.frz c
              have hgl := (hown.outer.lt _ rfl)
              generalize hdc : rows[c].2.2 = dc at *
              clear hsq ebc enc hdc
              by_cases h0 : ent Md c c < 0
              · have hN : negIf c Md = negH c Md := by rw [negIf, if_pos h0]
                have HN : Hid (Inv r c (negIf c Md) ∧ ZC c r (negIf c Md)) := by
                  show _ ∧ _
                  rw [hN]; exact ⟨HId.out.1.neg h3 hlt, HId.out.2.neg HId.out.1.good hlt⟩
                have HNe := Lib.hid hN
                clear hN
                generalize wr = We at *
                go_wp2_with fail
                refine (l2Scale_any _ _ _ _ _ _ (by omega) hic).mono ?_
                rintro e w5 ⟨p5, c5, rfl, ho5, hb5⟩
                have cc5 := belowCell hb5 cc
                have fc5 := belowFrz hb5 cc fc
                have hg5 := Nat.lt_of_lt_of_le hgl.2.2 hb5.size
                have hst := (hown.below hb5).store ho5 hb.size hb5.size c (by omega)
                rw [scale_neg] at hst
                change Own2 _ _ _ _ _ _ _ (negH c Md) at hst
                rw [← HNe.out] at hst
                have hb6 := (Below.step hb hb5).setCell (p := ⟨g, c, none⟩) hgl.1 (.slice p5 r c5)
                clear cc cec hic ho5 hown hb fc
                have hown := hst
                have hb := hb6
                clear hst hb6
                go_wp2_with fail
                generalize negIf c Md = N0 at *
                go_wp2
                go_loopw [9] (fun i wr => ∃ (t : Nat) (rows : List Row), t ≤ c ∧ i = .int .i64 t ∧ Own2 wr w.heap.size wr.heap.size (some ⟨g, 0, none⟩) r c' rows (redTo c N0 t) ∧ Hid (Inv r c (redTo c N0 t) ∧ ZC c r (redTo c N0 t)) ∧ Below w.heap.size w wr) (fun i _ => c - (intOf i).toNat)
                case atStart => exact ⟨0, _, Nat.zero_le _, rfl, hown.up', HN, hb⟩
                case round =>
                  obtain ⟨t, rows, ht, rfl, hown, HT, hbT⟩ := hrel
                  by_cases hlt4 : t < c
                  · have hcnt := hown.count
                    have hsq := HT.out.1.good.sq
                    have htn : t < r := by omega
                    have htr : t < rows.length := by omega
                    have hcr2 : c < rows.length := by omega
                    have hdiag := HT.out.1.diag h3 HT.out.2 hlt
                    have HTn : Hid (Inv r c (redH c t (redTo c N0 t)) ∧ ZC c r (redH c t (redTo c N0 t))) := ⟨HT.out.1.red h3 hlt4 hlt, HT.out.2.red HT.out.1.good hlt4 hlt⟩
                    obtain ⟨bt, ebt, ent', hcapt, cet⟩ := hown.cellEnt hsq htr (show c < r by omega)
                    obtain ⟨bc, ebc, enc, hcapc, cec⟩ := hown.cellEnt hsq hcr2 (show c < r by omega)
                    have ct := hown.cellRow htr
                    have cc := hown.cellRow hcr2
                    have hic := (hown.inner c hcr2).ints
                    have hit := (hown.inner t htr).ints
                    rw [ebc, enc] at cc hic
                    rw [ebt, ent'] at ct hit
                    have hlenr : (nthR (redTo c N0 t) t).length = (nthR (redTo c N0 t) c).length := by rw [hsq.2 t htn, hsq.2 c hlt]
                    have HS : Hid (∀ q, lessW (nthR (redTo c N0 t) t) (scaleW (nthR (redTo c N0 t) c) q) = subRow (nthR (redTo c N0 t) t) q (nthR (redTo c N0 t) c)) := Lib.hid fun q => lessW_scale hlenr
                    have ng1 : bc ≠ g := fun h => by rw [h] at cec; rw [cec] at cc; cases cc
                    have ng2 : bt ≠ g := fun h => by rw [h] at cet; rw [cet] at cc; cases cc
                    have ft := hown.frz t
                    have hgl := (hown.outer.lt _ rfl)
                    have Hdiag := Lib.hid hdiag
                    have HK := Lib.hid hown
                    have HR : Hid (redTo c N0 (t + 1) = redH c t (redTo c N0 t)) := rfl
                    have hle : wr.heap.size ≤ wr.heap.size := Nat.le_refl _
                    clear hsq ebt ent' ebc enc hdiag hlenr hown
                    generalize hdt : rows[t].2.2 = dt at *
                    generalize hdc : rows[c].2.2 = dc at *
                    clear hdt hdc
                    generalize redTo c N0 t = T at *
                    go_wp2
                    refine wp_region_u 28 29 (fun w' => w'.cell? ⟨g, c, none⟩ = some (.slice (some ⟨bc, 0, none⟩) r dc) ∧ w'.cell? ⟨bc, c, none⟩ = some (.int .i64 (ent T c c)) ∧ w'.cell? ⟨bt, c, none⟩ = some (.int .i64 (ent T t c)) ∧ w'.cell? ⟨g, t, none⟩ = some (.slice (some ⟨bt, 0, none⟩) r dt)) (by kernel_rfl) rfl (by (try dsimp only); exact ⟨cc, cec, cet, ct⟩) (fun hHeld => ?_)
                    first
                      | (refine WalkU.take (i := 0) (v := ?_) rfl (by kernel_rfl) (by kernel_rfl) (by kernel_rfl) (by kernel_rfl) (fun _ _ _ h => h) (Or.inl ⟨by rfl, ?_⟩) hHeld ?_
                         rotate_left
                         · (intro w hSw; (try dsimp only at hSw); go_simp; try with_reducible rfl)
                         try simp only [Act.put, List.setIfInBounds_toArray, List.set_cons_zero, List.set_cons_succ])
                      | (refine WalkU.take (i := 0) (v := undef) rfl (by kernel_rfl) (by kernel_rfl) (by kernel_rfl) (by kernel_rfl) (fun _ _ _ h => h) (Or.inr ⟨by rfl, rfl⟩) hHeld ?_
                         try simp only [Act.put, List.setIfInBounds_toArray, List.set_cons_zero, List.set_cons_succ])
                      | (refine WalkU.one (i := 0) rfl (by kernel_rfl) (fun K hK => ?_)
                         first
                           | (first | (go_at_call 129; (with_reducible refine (l3Floor_any _ _ _ Hdiag.out).mono ?_); rintro e w4 ⟨rfl, rfl⟩) | (go_at_call 123; (with_reducible refine (l2Scale_any _ _ _ _ _ _ (by omega) hic.drew).mono ?_); rintro e w5 ⟨p5, c5, rfl, ho5, hb5⟩; replace cc := belowCell hb5 cc; replace ft := belowFrz hb5 ct ft; replace ct := belowCell hb5 ct; replace cec := belowCell hb5 cec; replace cet := belowCell hb5 cet; have hg5 := Nat.lt_of_lt_of_le hgl.2.2 hb5.size) | (go_at_call 128; (with_reducible refine (l2Less_any _ _ _ _ _ _ _ _ (by omega) (hit.drew.below hb5) ho5.ints).mono ?_); rintro e w6 ⟨p6, c6, rfl, ho6, hb6⟩; replace cc := belowCell hb6 cc; replace ft := belowFrz hb6 ct ft; replace ct := belowCell hb6 ct; replace cec := belowCell hb6 cec; replace cet := belowCell hb6 cet; have hg6 := Nat.lt_of_lt_of_le hg5 hb6.size))
                           | (go_simp; (first | (go_at_call 129; (with_reducible refine (l3Floor_any _ _ _ Hdiag.out).mono ?_); rintro e w4 ⟨rfl, rfl⟩) | (go_at_call 123; (with_reducible refine (l2Scale_any _ _ _ _ _ _ (by omega) hic.drew).mono ?_); rintro e w5 ⟨p5, c5, rfl, ho5, hb5⟩; replace cc := belowCell hb5 cc; replace ft := belowFrz hb5 ct ft; replace ct := belowCell hb5 ct; replace cec := belowCell hb5 cec; replace cet := belowCell hb5 cet; have hg5 := Nat.lt_of_lt_of_le hgl.2.2 hb5.size) | (go_at_call 128; (with_reducible refine (l2Less_any _ _ _ _ _ _ _ _ (by omega) (hit.drew.below hb5) ho5.ints).mono ?_); rintro e w6 ⟨p6, c6, rfl, ho6, hb6⟩; replace cc := belowCell hb6 cc; replace ft := belowFrz hb6 ct ft; replace ct := belowCell hb6 ct; replace cec := belowCell hb6 cec; replace cet := belowCell hb6 cet; have hg6 := Nat.lt_of_lt_of_le hg5 hb6.size)))
                           | go_simp
                         refine hK.out _ _ ?_ (fun hHeld => ?_)
                         · ((try dsimp only); exact ⟨cc, cec, cet, ct⟩)
                         clear hK K
                         try simp only [Act.put, List.setIfInBounds_toArray, List.set_cons_zero, List.set_cons_succ])
                    first
                      | (refine WalkU.take (i := 1) (v := ?_) rfl (by kernel_rfl) (by kernel_rfl) (by kernel_rfl) (by kernel_rfl) (fun _ _ _ h => h) (Or.inl ⟨by rfl, ?_⟩) hHeld ?_
                         rotate_left
                         · (intro w hSw; (try dsimp only at hSw); go_simp; try with_reducible rfl)
                         try simp only [Act.put, List.setIfInBounds_toArray, List.set_cons_zero, List.set_cons_succ])
                      | (refine WalkU.take (i := 1) (v := undef) rfl (by kernel_rfl) (by kernel_rfl) (by kernel_rfl) (by kernel_rfl) (fun _ _ _ h => h) (Or.inr ⟨by rfl, rfl⟩) hHeld ?_
                         try simp only [Act.put, List.setIfInBounds_toArray, List.set_cons_zero, List.set_cons_succ])
                      | (refine WalkU.one (i := 1) rfl (by kernel_rfl) (fun K hK => ?_)
                         first
                           | (first | (go_at_call 129; (with_reducible refine (l3Floor_any _ _ _ Hdiag.out).mono ?_); rintro e w4 ⟨rfl, rfl⟩) | (go_at_call 123; (with_reducible refine (l2Scale_any _ _ _ _ _ _ (by omega) hic.drew).mono ?_); rintro e w5 ⟨p5, c5, rfl, ho5, hb5⟩; replace cc := belowCell hb5 cc; replace ft := belowFrz hb5 ct ft; replace ct := belowCell hb5 ct; replace cec := belowCell hb5 cec; replace cet := belowCell hb5 cet; have hg5 := Nat.lt_of_lt_of_le hgl.2.2 hb5.size) | (go_at_call 128; (with_reducible refine (l2Less_any _ _ _ _ _ _ _ _ (by omega) (hit.drew.below hb5) ho5.ints).mono ?_); rintro e w6 ⟨p6, c6, rfl, ho6, hb6⟩; replace cc := belowCell hb6 cc; replace ft := belowFrz hb6 ct ft; replace ct := belowCell hb6 ct; replace cec := belowCell hb6 cec; replace cet := belowCell hb6 cet; have hg6 := Nat.lt_of_lt_of_le hg5 hb6.size))
                           | (go_simp; (first | (go_at_call 129; (with_reducible refine (l3Floor_any _ _ _ Hdiag.out).mono ?_); rintro e w4 ⟨rfl, rfl⟩) | (go_at_call 123; (with_reducible refine (l2Scale_any _ _ _ _ _ _ (by omega) hic.drew).mono ?_); rintro e w5 ⟨p5, c5, rfl, ho5, hb5⟩; replace cc := belowCell hb5 cc; replace ft := belowFrz hb5 ct ft; replace ct := belowCell hb5 ct; replace cec := belowCell hb5 cec; replace cet := belowCell hb5 cet; have hg5 := Nat.lt_of_lt_of_le hgl.2.2 hb5.size) | (go_at_call 128; (with_reducible refine (l2Less_any _ _ _ _ _ _ _ _ (by omega) (hit.drew.below hb5) ho5.ints).mono ?_); rintro e w6 ⟨p6, c6, rfl, ho6, hb6⟩; replace cc := belowCell hb6 cc; replace ft := belowFrz hb6 ct ft; replace ct := belowCell hb6 ct; replace cec := belowCell hb6 cec; replace cet := belowCell hb6 cet; have hg6 := Nat.lt_of_lt_of_le hg5 hb6.size)))
                           | go_simp
                         refine hK.out _ _ ?_ (fun hHeld => ?_)
                         · ((try dsimp only); exact ⟨cc, cec, cet, ct⟩)
                         clear hK K
                         try simp only [Act.put, List.setIfInBounds_toArray, List.set_cons_zero, List.set_cons_succ])
                    first
                      | (refine WalkU.take (i := 2) (v := ?_) rfl (by kernel_rfl) (by kernel_rfl) (by kernel_rfl) (by kernel_rfl) (fun _ _ _ h => h) (Or.inl ⟨by rfl, ?_⟩) hHeld ?_
                         rotate_left
                         · (intro w hSw; (try dsimp only at hSw); go_simp; try with_reducible rfl)
                         try simp only [Act.put, List.setIfInBounds_toArray, List.set_cons_zero, List.set_cons_succ])
                      | (refine WalkU.take (i := 2) (v := undef) rfl (by kernel_rfl) (by kernel_rfl) (by kernel_rfl) (by kernel_rfl) (fun _ _ _ h => h) (Or.inr ⟨by rfl, rfl⟩) hHeld ?_
                         try simp only [Act.put, List.setIfInBounds_toArray, List.set_cons_zero, List.set_cons_succ])
                      | (refine WalkU.one (i := 2) rfl (by kernel_rfl) (fun K hK => ?_)
                         first
                           | (first | (go_at_call 129; (with_reducible refine (l3Floor_any _ _ _ Hdiag.out).mono ?_); rintro e w4 ⟨rfl, rfl⟩) | (go_at_call 123; (with_reducible refine (l2Scale_any _ _ _ _ _ _ (by omega) hic.drew).mono ?_); rintro e w5 ⟨p5, c5, rfl, ho5, hb5⟩; replace cc := belowCell hb5 cc; replace ft := belowFrz hb5 ct ft; replace ct := belowCell hb5 ct; replace cec := belowCell hb5 cec; replace cet := belowCell hb5 cet; have hg5 := Nat.lt_of_lt_of_le hgl.2.2 hb5.size) | (go_at_call 128; (with_reducible refine (l2Less_any _ _ _ _ _ _ _ _ (by omega) (hit.drew.below hb5) ho5.ints).mono ?_); rintro e w6 ⟨p6, c6, rfl, ho6, hb6⟩; replace cc := belowCell hb6 cc; replace ft := belowFrz hb6 ct ft; replace ct := belowCell hb6 ct; replace cec := belowCell hb6 cec; replace cet := belowCell hb6 cet; have hg6 := Nat.lt_of_lt_of_le hg5 hb6.size))
                           | (go_simp; (first | (go_at_call 129; (with_reducible refine (l3Floor_any _ _ _ Hdiag.out).mono ?_); rintro e w4 ⟨rfl, rfl⟩) | (go_at_call 123; (with_reducible refine (l2Scale_any _ _ _ _ _ _ (by omega) hic.drew).mono ?_); rintro e w5 ⟨p5, c5, rfl, ho5, hb5⟩; replace cc := belowCell hb5 cc; replace ft := belowFrz hb5 ct ft; replace ct := belowCell hb5 ct; replace cec := belowCell hb5 cec; replace cet := belowCell hb5 cet; have hg5 := Nat.lt_of_lt_of_le hgl.2.2 hb5.size) | (go_at_call 128; (with_reducible refine (l2Less_any _ _ _ _ _ _ _ _ (by omega) (hit.drew.below hb5) ho5.ints).mono ?_); rintro e w6 ⟨p6, c6, rfl, ho6, hb6⟩; replace cc := belowCell hb6 cc; replace ft := belowFrz hb6 ct ft; replace ct := belowCell hb6 ct; replace cec := belowCell hb6 cec; replace cet := belowCell hb6 cet; have hg6 := Nat.lt_of_lt_of_le hg5 hb6.size)))
                           | go_simp
                         refine hK.out _ _ ?_ (fun hHeld => ?_)
                         · ((try dsimp only); exact ⟨cc, cec, cet, ct⟩)
                         clear hK K
                         try simp only [Act.put, List.setIfInBounds_toArray, List.set_cons_zero, List.set_cons_succ])
                    first
                      | (refine WalkU.take (i := 3) (v := ?_) rfl (by kernel_rfl) (by kernel_rfl) (by kernel_rfl) (by kernel_rfl) (fun _ _ _ h => h) (Or.inl ⟨by rfl, ?_⟩) hHeld ?_
                         rotate_left
                         · (intro w hSw; (try dsimp only at hSw); go_simp; try with_reducible rfl)
                         try simp only [Act.put, List.setIfInBounds_toArray, List.set_cons_zero, List.set_cons_succ])
                      | (refine WalkU.take (i := 3) (v := undef) rfl (by kernel_rfl) (by kernel_rfl) (by kernel_rfl) (by kernel_rfl) (fun _ _ _ h => h) (Or.inr ⟨by rfl, rfl⟩) hHeld ?_
                         try simp only [Act.put, List.setIfInBounds_toArray, List.set_cons_zero, List.set_cons_succ])
                      | (refine WalkU.one (i := 3) rfl (by kernel_rfl) (fun K hK => ?_)
                         first
                           | (first | (go_at_call 129; (with_reducible refine (l3Floor_any _ _ _ Hdiag.out).mono ?_); rintro e w4 ⟨rfl, rfl⟩) | (go_at_call 123; (with_reducible refine (l2Scale_any _ _ _ _ _ _ (by omega) hic.drew).mono ?_); rintro e w5 ⟨p5, c5, rfl, ho5, hb5⟩; replace cc := belowCell hb5 cc; replace ft := belowFrz hb5 ct ft; replace ct := belowCell hb5 ct; replace cec := belowCell hb5 cec; replace cet := belowCell hb5 cet; have hg5 := Nat.lt_of_lt_of_le hgl.2.2 hb5.size) | (go_at_call 128; (with_reducible refine (l2Less_any _ _ _ _ _ _ _ _ (by omega) (hit.drew.below hb5) ho5.ints).mono ?_); rintro e w6 ⟨p6, c6, rfl, ho6, hb6⟩; replace cc := belowCell hb6 cc; replace ft := belowFrz hb6 ct ft; replace ct := belowCell hb6 ct; replace cec := belowCell hb6 cec; replace cet := belowCell hb6 cet; have hg6 := Nat.lt_of_lt_of_le hg5 hb6.size))
                           | (go_simp; (first | (go_at_call 129; (with_reducible refine (l3Floor_any _ _ _ Hdiag.out).mono ?_); rintro e w4 ⟨rfl, rfl⟩) | (go_at_call 123; (with_reducible refine (l2Scale_any _ _ _ _ _ _ (by omega) hic.drew).mono ?_); rintro e w5 ⟨p5, c5, rfl, ho5, hb5⟩; replace cc := belowCell hb5 cc; replace ft := belowFrz hb5 ct ft; replace ct := belowCell hb5 ct; replace cec := belowCell hb5 cec; replace cet := belowCell hb5 cet; have hg5 := Nat.lt_of_lt_of_le hgl.2.2 hb5.size) | (go_at_call 128; (with_reducible refine (l2Less_any _ _ _ _ _ _ _ _ (by omega) (hit.drew.below hb5) ho5.ints).mono ?_); rintro e w6 ⟨p6, c6, rfl, ho6, hb6⟩; replace cc := belowCell hb6 cc; replace ft := belowFrz hb6 ct ft; replace ct := belowCell hb6 ct; replace cec := belowCell hb6 cec; replace cet := belowCell hb6 cet; have hg6 := Nat.lt_of_lt_of_le hg5 hb6.size)))
                           | go_simp
                         refine hK.out _ _ ?_ (fun hHeld => ?_)
                         · ((try dsimp only); exact ⟨cc, cec, cet, ct⟩)
                         clear hK K
                         try simp only [Act.put, List.setIfInBounds_toArray, List.set_cons_zero, List.set_cons_succ])
                    first
                      | (refine WalkU.take (i := 4) (v := ?_) rfl (by kernel_rfl) (by kernel_rfl) (by kernel_rfl) (by kernel_rfl) (fun _ _ _ h => h) (Or.inl ⟨by rfl, ?_⟩) hHeld ?_
                         rotate_left
                         · (intro w hSw; (try dsimp only at hSw); go_simp; try with_reducible rfl)
                         try simp only [Act.put, List.setIfInBounds_toArray, List.set_cons_zero, List.set_cons_succ])
                      | (refine WalkU.take (i := 4) (v := undef) rfl (by kernel_rfl) (by kernel_rfl) (by kernel_rfl) (by kernel_rfl) (fun _ _ _ h => h) (Or.inr ⟨by rfl, rfl⟩) hHeld ?_
                         try simp only [Act.put, List.setIfInBounds_toArray, List.set_cons_zero, List.set_cons_succ])
                      | (refine WalkU.one (i := 4) rfl (by kernel_rfl) (fun K hK => ?_)
                         first
                           | (first | (go_at_call 129; (with_reducible refine (l3Floor_any _ _ _ Hdiag.out).mono ?_); rintro e w4 ⟨rfl, rfl⟩) | (go_at_call 123; (with_reducible refine (l2Scale_any _ _ _ _ _ _ (by omega) hic.drew).mono ?_); rintro e w5 ⟨p5, c5, rfl, ho5, hb5⟩; replace cc := belowCell hb5 cc; replace ft := belowFrz hb5 ct ft; replace ct := belowCell hb5 ct; replace cec := belowCell hb5 cec; replace cet := belowCell hb5 cet; have hg5 := Nat.lt_of_lt_of_le hgl.2.2 hb5.size) | (go_at_call 128; (with_reducible refine (l2Less_any _ _ _ _ _ _ _ _ (by omega) (hit.drew.below hb5) ho5.ints).mono ?_); rintro e w6 ⟨p6, c6, rfl, ho6, hb6⟩; replace cc := belowCell hb6 cc; replace ft := belowFrz hb6 ct ft; replace ct := belowCell hb6 ct; replace cec := belowCell hb6 cec; replace cet := belowCell hb6 cet; have hg6 := Nat.lt_of_lt_of_le hg5 hb6.size))
                           | (go_simp; (first | (go_at_call 129; (with_reducible refine (l3Floor_any _ _ _ Hdiag.out).mono ?_); rintro e w4 ⟨rfl, rfl⟩) | (go_at_call 123; (with_reducible refine (l2Scale_any _ _ _ _ _ _ (by omega) hic.drew).mono ?_); rintro e w5 ⟨p5, c5, rfl, ho5, hb5⟩; replace cc := belowCell hb5 cc; replace ft := belowFrz hb5 ct ft; replace ct := belowCell hb5 ct; replace cec := belowCell hb5 cec; replace cet := belowCell hb5 cet; have hg5 := Nat.lt_of_lt_of_le hgl.2.2 hb5.size) | (go_at_call 128; (with_reducible refine (l2Less_any _ _ _ _ _ _ _ _ (by omega) (hit.drew.below hb5) ho5.ints).mono ?_); rintro e w6 ⟨p6, c6, rfl, ho6, hb6⟩; replace cc := belowCell hb6 cc; replace ft := belowFrz hb6 ct ft; replace ct := belowCell hb6 ct; replace cec := belowCell hb6 cec; replace cet := belowCell hb6 cet; have hg6 := Nat.lt_of_lt_of_le hg5 hb6.size)))
                           | go_simp
                         refine hK.out _ _ ?_ (fun hHeld => ?_)
                         · ((try dsimp only); exact ⟨cc, cec, cet, ct⟩)
                         clear hK K
                         try simp only [Act.put, List.setIfInBounds_toArray, List.set_cons_zero, List.set_cons_succ])
                    first
                      | (refine WalkU.take (i := 5) (v := ?_) rfl (by kernel_rfl) (by kernel_rfl) (by kernel_rfl) (by kernel_rfl) (fun _ _ _ h => h) (Or.inl ⟨by rfl, ?_⟩) hHeld ?_
                         rotate_left
                         · (intro w hSw; (try dsimp only at hSw); go_simp; try with_reducible rfl)
                         try simp only [Act.put, List.setIfInBounds_toArray, List.set_cons_zero, List.set_cons_succ])
                      | (refine WalkU.take (i := 5) (v := undef) rfl (by kernel_rfl) (by kernel_rfl) (by kernel_rfl) (by kernel_rfl) (fun _ _ _ h => h) (Or.inr ⟨by rfl, rfl⟩) hHeld ?_
                         try simp only [Act.put, List.setIfInBounds_toArray, List.set_cons_zero, List.set_cons_succ])
                      | (refine WalkU.one (i := 5) rfl (by kernel_rfl) (fun K hK => ?_)
                         first
                           | (first | (go_at_call 129; (with_reducible refine (l3Floor_any _ _ _ Hdiag.out).mono ?_); rintro e w4 ⟨rfl, rfl⟩) | (go_at_call 123; (with_reducible refine (l2Scale_any _ _ _ _ _ _ (by omega) hic.drew).mono ?_); rintro e w5 ⟨p5, c5, rfl, ho5, hb5⟩; replace cc := belowCell hb5 cc; replace ft := belowFrz hb5 ct ft; replace ct := belowCell hb5 ct; replace cec := belowCell hb5 cec; replace cet := belowCell hb5 cet; have hg5 := Nat.lt_of_lt_of_le hgl.2.2 hb5.size) | (go_at_call 128; (with_reducible refine (l2Less_any _ _ _ _ _ _ _ _ (by omega) (hit.drew.below hb5) ho5.ints).mono ?_); rintro e w6 ⟨p6, c6, rfl, ho6, hb6⟩; replace cc := belowCell hb6 cc; replace ft := belowFrz hb6 ct ft; replace ct := belowCell hb6 ct; replace cec := belowCell hb6 cec; replace cet := belowCell hb6 cet; have hg6 := Nat.lt_of_lt_of_le hg5 hb6.size))
                           | (go_simp; (first | (go_at_call 129; (with_reducible refine (l3Floor_any _ _ _ Hdiag.out).mono ?_); rintro e w4 ⟨rfl, rfl⟩) | (go_at_call 123; (with_reducible refine (l2Scale_any _ _ _ _ _ _ (by omega) hic.drew).mono ?_); rintro e w5 ⟨p5, c5, rfl, ho5, hb5⟩; replace cc := belowCell hb5 cc; replace ft := belowFrz hb5 ct ft; replace ct := belowCell hb5 ct; replace cec := belowCell hb5 cec; replace cet := belowCell hb5 cet; have hg5 := Nat.lt_of_lt_of_le hgl.2.2 hb5.size) | (go_at_call 128; (with_reducible refine (l2Less_any _ _ _ _ _ _ _ _ (by omega) (hit.drew.below hb5) ho5.ints).mono ?_); rintro e w6 ⟨p6, c6, rfl, ho6, hb6⟩; replace cc := belowCell hb6 cc; replace ft := belowFrz hb6 ct ft; replace ct := belowCell hb6 ct; replace cec := belowCell hb6 cec; replace cet := belowCell hb6 cet; have hg6 := Nat.lt_of_lt_of_le hg5 hb6.size)))
                           | go_simp
                         refine hK.out _ _ ?_ (fun hHeld => ?_)
                         · ((try dsimp only); exact ⟨cc, cec, cet, ct⟩)
                         clear hK K
                         try simp only [Act.put, List.setIfInBounds_toArray, List.set_cons_zero, List.set_cons_succ])
                    first
                      | (refine WalkU.take (i := 6) (v := ?_) rfl (by kernel_rfl) (by kernel_rfl) (by kernel_rfl) (by kernel_rfl) (fun _ _ _ h => h) (Or.inl ⟨by rfl, ?_⟩) hHeld ?_
                         rotate_left
                         · (intro w hSw; (try dsimp only at hSw); go_simp; try with_reducible rfl)
                         try simp only [Act.put, List.setIfInBounds_toArray, List.set_cons_zero, List.set_cons_succ])
                      | (refine WalkU.take (i := 6) (v := undef) rfl (by kernel_rfl) (by kernel_rfl) (by kernel_rfl) (by kernel_rfl) (fun _ _ _ h => h) (Or.inr ⟨by rfl, rfl⟩) hHeld ?_
                         try simp only [Act.put, List.setIfInBounds_toArray, List.set_cons_zero, List.set_cons_succ])
                      | (refine WalkU.one (i := 6) rfl (by kernel_rfl) (fun K hK => ?_)
                         first
                           | (first | (go_at_call 129; (with_reducible refine (l3Floor_any _ _ _ Hdiag.out).mono ?_); rintro e w4 ⟨rfl, rfl⟩) | (go_at_call 123; (with_reducible refine (l2Scale_any _ _ _ _ _ _ (by omega) hic.drew).mono ?_); rintro e w5 ⟨p5, c5, rfl, ho5, hb5⟩; replace cc := belowCell hb5 cc; replace ft := belowFrz hb5 ct ft; replace ct := belowCell hb5 ct; replace cec := belowCell hb5 cec; replace cet := belowCell hb5 cet; have hg5 := Nat.lt_of_lt_of_le hgl.2.2 hb5.size) | (go_at_call 128; (with_reducible refine (l2Less_any _ _ _ _ _ _ _ _ (by omega) (hit.drew.below hb5) ho5.ints).mono ?_); rintro e w6 ⟨p6, c6, rfl, ho6, hb6⟩; replace cc := belowCell hb6 cc; replace ft := belowFrz hb6 ct ft; replace ct := belowCell hb6 ct; replace cec := belowCell hb6 cec; replace cet := belowCell hb6 cet; have hg6 := Nat.lt_of_lt_of_le hg5 hb6.size))
                           | (go_simp; (first | (go_at_call 129; (with_reducible refine (l3Floor_any _ _ _ Hdiag.out).mono ?_); rintro e w4 ⟨rfl, rfl⟩) | (go_at_call 123; (with_reducible refine (l2Scale_any _ _ _ _ _ _ (by omega) hic.drew).mono ?_); rintro e w5 ⟨p5, c5, rfl, ho5, hb5⟩; replace cc := belowCell hb5 cc; replace ft := belowFrz hb5 ct ft; replace ct := belowCell hb5 ct; replace cec := belowCell hb5 cec; replace cet := belowCell hb5 cet; have hg5 := Nat.lt_of_lt_of_le hgl.2.2 hb5.size) | (go_at_call 128; (with_reducible refine (l2Less_any _ _ _ _ _ _ _ _ (by omega) (hit.drew.below hb5) ho5.ints).mono ?_); rintro e w6 ⟨p6, c6, rfl, ho6, hb6⟩; replace cc := belowCell hb6 cc; replace ft := belowFrz hb6 ct ft; replace ct := belowCell hb6 ct; replace cec := belowCell hb6 cec; replace cet := belowCell hb6 cet; have hg6 := Nat.lt_of_lt_of_le hg5 hb6.size)))
                           | go_simp
                         refine hK.out _ _ ?_ (fun hHeld => ?_)
                         · ((try dsimp only); exact ⟨cc, cec, cet, ct⟩)
                         clear hK K
                         try simp only [Act.put, List.setIfInBounds_toArray, List.set_cons_zero, List.set_cons_succ])
                    first
                      | (refine WalkU.take (i := 7) (v := ?_) rfl (by kernel_rfl) (by kernel_rfl) (by kernel_rfl) (by kernel_rfl) (fun _ _ _ h => h) (Or.inl ⟨by rfl, ?_⟩) hHeld ?_
                         rotate_left
                         · (intro w hSw; (try dsimp only at hSw); go_simp; try with_reducible rfl)
                         try simp only [Act.put, List.setIfInBounds_toArray, List.set_cons_zero, List.set_cons_succ])
                      | (refine WalkU.take (i := 7) (v := undef) rfl (by kernel_rfl) (by kernel_rfl) (by kernel_rfl) (by kernel_rfl) (fun _ _ _ h => h) (Or.inr ⟨by rfl, rfl⟩) hHeld ?_
                         try simp only [Act.put, List.setIfInBounds_toArray, List.set_cons_zero, List.set_cons_succ])
                      | (refine WalkU.one (i := 7) rfl (by kernel_rfl) (fun K hK => ?_)
                         first
                           | (first | (go_at_call 129; (with_reducible refine (l3Floor_any _ _ _ Hdiag.out).mono ?_); rintro e w4 ⟨rfl, rfl⟩) | (go_at_call 123; (with_reducible refine (l2Scale_any _ _ _ _ _ _ (by omega) hic.drew).mono ?_); rintro e w5 ⟨p5, c5, rfl, ho5, hb5⟩; replace cc := belowCell hb5 cc; replace ft := belowFrz hb5 ct ft; replace ct := belowCell hb5 ct; replace cec := belowCell hb5 cec; replace cet := belowCell hb5 cet; have hg5 := Nat.lt_of_lt_of_le hgl.2.2 hb5.size) | (go_at_call 128; (with_reducible refine (l2Less_any _ _ _ _ _ _ _ _ (by omega) (hit.drew.below hb5) ho5.ints).mono ?_); rintro e w6 ⟨p6, c6, rfl, ho6, hb6⟩; replace cc := belowCell hb6 cc; replace ft := belowFrz hb6 ct ft; replace ct := belowCell hb6 ct; replace cec := belowCell hb6 cec; replace cet := belowCell hb6 cet; have hg6 := Nat.lt_of_lt_of_le hg5 hb6.size))
                           | (go_simp; (first | (go_at_call 129; (with_reducible refine (l3Floor_any _ _ _ Hdiag.out).mono ?_); rintro e w4 ⟨rfl, rfl⟩) | (go_at_call 123; (with_reducible refine (l2Scale_any _ _ _ _ _ _ (by omega) hic.drew).mono ?_); rintro e w5 ⟨p5, c5, rfl, ho5, hb5⟩; replace cc := belowCell hb5 cc; replace ft := belowFrz hb5 ct ft; replace ct := belowCell hb5 ct; replace cec := belowCell hb5 cec; replace cet := belowCell hb5 cet; have hg5 := Nat.lt_of_lt_of_le hgl.2.2 hb5.size) | (go_at_call 128; (with_reducible refine (l2Less_any _ _ _ _ _ _ _ _ (by omega) (hit.drew.below hb5) ho5.ints).mono ?_); rintro e w6 ⟨p6, c6, rfl, ho6, hb6⟩; replace cc := belowCell hb6 cc; replace ft := belowFrz hb6 ct ft; replace ct := belowCell hb6 ct; replace cec := belowCell hb6 cec; replace cet := belowCell hb6 cet; have hg6 := Nat.lt_of_lt_of_le hg5 hb6.size)))
                           | go_simp
                         refine hK.out _ _ ?_ (fun hHeld => ?_)
                         · ((try dsimp only); exact ⟨cc, cec, cet, ct⟩)
                         clear hK K
                         try simp only [Act.put, List.setIfInBounds_toArray, List.set_cons_zero, List.set_cons_succ])
                    first
                      | (refine WalkU.take (i := 8) (v := ?_) rfl (by kernel_rfl) (by kernel_rfl) (by kernel_rfl) (by kernel_rfl) (fun _ _ _ h => h) (Or.inl ⟨by rfl, ?_⟩) hHeld ?_
                         rotate_left
                         · (intro w hSw; (try dsimp only at hSw); go_simp; try with_reducible rfl)
                         try simp only [Act.put, List.setIfInBounds_toArray, List.set_cons_zero, List.set_cons_succ])
                      | (refine WalkU.take (i := 8) (v := undef) rfl (by kernel_rfl) (by kernel_rfl) (by kernel_rfl) (by kernel_rfl) (fun _ _ _ h => h) (Or.inr ⟨by rfl, rfl⟩) hHeld ?_
                         try simp only [Act.put, List.setIfInBounds_toArray, List.set_cons_zero, List.set_cons_succ])
                      | (refine WalkU.one (i := 8) rfl (by kernel_rfl) (fun K hK => ?_)
                         first
                           | (first | (go_at_call 129; (with_reducible refine (l3Floor_any _ _ _ Hdiag.out).mono ?_); rintro e w4 ⟨rfl, rfl⟩) | (go_at_call 123; (with_reducible refine (l2Scale_any _ _ _ _ _ _ (by omega) hic.drew).mono ?_); rintro e w5 ⟨p5, c5, rfl, ho5, hb5⟩; replace cc := belowCell hb5 cc; replace ft := belowFrz hb5 ct ft; replace ct := belowCell hb5 ct; replace cec := belowCell hb5 cec; replace cet := belowCell hb5 cet; have hg5 := Nat.lt_of_lt_of_le hgl.2.2 hb5.size) | (go_at_call 128; (with_reducible refine (l2Less_any _ _ _ _ _ _ _ _ (by omega) (hit.drew.below hb5) ho5.ints).mono ?_); rintro e w6 ⟨p6, c6, rfl, ho6, hb6⟩; replace cc := belowCell hb6 cc; replace ft := belowFrz hb6 ct ft; replace ct := belowCell hb6 ct; replace cec := belowCell hb6 cec; replace cet := belowCell hb6 cet; have hg6 := Nat.lt_of_lt_of_le hg5 hb6.size))
                           | (go_simp; (first | (go_at_call 129; (with_reducible refine (l3Floor_any _ _ _ Hdiag.out).mono ?_); rintro e w4 ⟨rfl, rfl⟩) | (go_at_call 123; (with_reducible refine (l2Scale_any _ _ _ _ _ _ (by omega) hic.drew).mono ?_); rintro e w5 ⟨p5, c5, rfl, ho5, hb5⟩; replace cc := belowCell hb5 cc; replace ft := belowFrz hb5 ct ft; replace ct := belowCell hb5 ct; replace cec := belowCell hb5 cec; replace cet := belowCell hb5 cet; have hg5 := Nat.lt_of_lt_of_le hgl.2.2 hb5.size) | (go_at_call 128; (with_reducible refine (l2Less_any _ _ _ _ _ _ _ _ (by omega) (hit.drew.below hb5) ho5.ints).mono ?_); rintro e w6 ⟨p6, c6, rfl, ho6, hb6⟩; replace cc := belowCell hb6 cc; replace ft := belowFrz hb6 ct ft; replace ct := belowCell hb6 ct; replace cec := belowCell hb6 cec; replace cet := belowCell hb6 cet; have hg6 := Nat.lt_of_lt_of_le hg5 hb6.size)))
                           | go_simp
                         refine hK.out _ _ ?_ (fun hHeld => ?_)
                         · ((try dsimp only); exact ⟨cc, cec, cet, ct⟩)
                         clear hK K
                         try simp only [Act.put, List.setIfInBounds_toArray, List.set_cons_zero, List.set_cons_succ])
                    first
                      | (refine WalkU.take (i := 9) (v := ?_) rfl (by kernel_rfl) (by kernel_rfl) (by kernel_rfl) (by kernel_rfl) (fun _ _ _ h => h) (Or.inl ⟨by rfl, ?_⟩) hHeld ?_
                         rotate_left
                         · (intro w hSw; (try dsimp only at hSw); go_simp; try with_reducible rfl)
                         try simp only [Act.put, List.setIfInBounds_toArray, List.set_cons_zero, List.set_cons_succ])
                      | (refine WalkU.take (i := 9) (v := undef) rfl (by kernel_rfl) (by kernel_rfl) (by kernel_rfl) (by kernel_rfl) (fun _ _ _ h => h) (Or.inr ⟨by rfl, rfl⟩) hHeld ?_
                         try simp only [Act.put, List.setIfInBounds_toArray, List.set_cons_zero, List.set_cons_succ])
                      | (refine WalkU.one (i := 9) rfl (by kernel_rfl) (fun K hK => ?_)
                         first
                           | (first | (go_at_call 129; (with_reducible refine (l3Floor_any _ _ _ Hdiag.out).mono ?_); rintro e w4 ⟨rfl, rfl⟩) | (go_at_call 123; (with_reducible refine (l2Scale_any _ _ _ _ _ _ (by omega) hic.drew).mono ?_); rintro e w5 ⟨p5, c5, rfl, ho5, hb5⟩; replace cc := belowCell hb5 cc; replace ft := belowFrz hb5 ct ft; replace ct := belowCell hb5 ct; replace cec := belowCell hb5 cec; replace cet := belowCell hb5 cet; have hg5 := Nat.lt_of_lt_of_le hgl.2.2 hb5.size) | (go_at_call 128; (with_reducible refine (l2Less_any _ _ _ _ _ _ _ _ (by omega) (hit.drew.below hb5) ho5.ints).mono ?_); rintro e w6 ⟨p6, c6, rfl, ho6, hb6⟩; replace cc := belowCell hb6 cc; replace ft := belowFrz hb6 ct ft; replace ct := belowCell hb6 ct; replace cec := belowCell hb6 cec; replace cet := belowCell hb6 cet; have hg6 := Nat.lt_of_lt_of_le hg5 hb6.size))
                           | (go_simp; (first | (go_at_call 129; (with_reducible refine (l3Floor_any _ _ _ Hdiag.out).mono ?_); rintro e w4 ⟨rfl, rfl⟩) | (go_at_call 123; (with_reducible refine (l2Scale_any _ _ _ _ _ _ (by omega) hic.drew).mono ?_); rintro e w5 ⟨p5, c5, rfl, ho5, hb5⟩; replace cc := belowCell hb5 cc; replace ft := belowFrz hb5 ct ft; replace ct := belowCell hb5 ct; replace cec := belowCell hb5 cec; replace cet := belowCell hb5 cet; have hg5 := Nat.lt_of_lt_of_le hgl.2.2 hb5.size) | (go_at_call 128; (with_reducible refine (l2Less_any _ _ _ _ _ _ _ _ (by omega) (hit.drew.below hb5) ho5.ints).mono ?_); rintro e w6 ⟨p6, c6, rfl, ho6, hb6⟩; replace cc := belowCell hb6 cc; replace ft := belowFrz hb6 ct ft; replace ct := belowCell hb6 ct; replace cec := belowCell hb6 cec; replace cet := belowCell hb6 cet; have hg6 := Nat.lt_of_lt_of_le hg5 hb6.size)))
                           | go_simp
                         refine hK.out _ _ ?_ (fun hHeld => ?_)
                         · ((try dsimp only); exact ⟨cc, cec, cet, ct⟩)
                         clear hK K
                         try simp only [Act.put, List.setIfInBounds_toArray, List.set_cons_zero, List.set_cons_succ])
                    first
                      | (refine WalkU.take (i := 10) (v := ?_) rfl (by kernel_rfl) (by kernel_rfl) (by kernel_rfl) (by kernel_rfl) (fun _ _ _ h => h) (Or.inl ⟨by rfl, ?_⟩) hHeld ?_
                         rotate_left
                         · (intro w hSw; (try dsimp only at hSw); go_simp; try with_reducible rfl)
                         try simp only [Act.put, List.setIfInBounds_toArray, List.set_cons_zero, List.set_cons_succ])
                      | (refine WalkU.take (i := 10) (v := undef) rfl (by kernel_rfl) (by kernel_rfl) (by kernel_rfl) (by kernel_rfl) (fun _ _ _ h => h) (Or.inr ⟨by rfl, rfl⟩) hHeld ?_
                         try simp only [Act.put, List.setIfInBounds_toArray, List.set_cons_zero, List.set_cons_succ])
                      | (refine WalkU.one (i := 10) rfl (by kernel_rfl) (fun K hK => ?_)
                         first
                           | (first | (go_at_call 129; (with_reducible refine (l3Floor_any _ _ _ Hdiag.out).mono ?_); rintro e w4 ⟨rfl, rfl⟩) | (go_at_call 123; (with_reducible refine (l2Scale_any _ _ _ _ _ _ (by omega) hic.drew).mono ?_); rintro e w5 ⟨p5, c5, rfl, ho5, hb5⟩; replace cc := belowCell hb5 cc; replace ft := belowFrz hb5 ct ft; replace ct := belowCell hb5 ct; replace cec := belowCell hb5 cec; replace cet := belowCell hb5 cet; have hg5 := Nat.lt_of_lt_of_le hgl.2.2 hb5.size) | (go_at_call 128; (with_reducible refine (l2Less_any _ _ _ _ _ _ _ _ (by omega) (hit.drew.below hb5) ho5.ints).mono ?_); rintro e w6 ⟨p6, c6, rfl, ho6, hb6⟩; replace cc := belowCell hb6 cc; replace ft := belowFrz hb6 ct ft; replace ct := belowCell hb6 ct; replace cec := belowCell hb6 cec; replace cet := belowCell hb6 cet; have hg6 := Nat.lt_of_lt_of_le hg5 hb6.size))
                           | (go_simp; (first | (go_at_call 129; (with_reducible refine (l3Floor_any _ _ _ Hdiag.out).mono ?_); rintro e w4 ⟨rfl, rfl⟩) | (go_at_call 123; (with_reducible refine (l2Scale_any _ _ _ _ _ _ (by omega) hic.drew).mono ?_); rintro e w5 ⟨p5, c5, rfl, ho5, hb5⟩; replace cc := belowCell hb5 cc; replace ft := belowFrz hb5 ct ft; replace ct := belowCell hb5 ct; replace cec := belowCell hb5 cec; replace cet := belowCell hb5 cet; have hg5 := Nat.lt_of_lt_of_le hgl.2.2 hb5.size) | (go_at_call 128; (with_reducible refine (l2Less_any _ _ _ _ _ _ _ _ (by omega) (hit.drew.below hb5) ho5.ints).mono ?_); rintro e w6 ⟨p6, c6, rfl, ho6, hb6⟩; replace cc := belowCell hb6 cc; replace ft := belowFrz hb6 ct ft; replace ct := belowCell hb6 ct; replace cec := belowCell hb6 cec; replace cet := belowCell hb6 cet; have hg6 := Nat.lt_of_lt_of_le hg5 hb6.size)))
                           | go_simp
                         refine hK.out _ _ ?_ (fun hHeld => ?_)
                         · ((try dsimp only); exact ⟨cc, cec, cet, ct⟩)
                         clear hK K
                         try simp only [Act.put, List.setIfInBounds_toArray, List.set_cons_zero, List.set_cons_succ])
                    first
                      | (refine WalkU.take (i := 11) (v := ?_) rfl (by kernel_rfl) (by kernel_rfl) (by kernel_rfl) (by kernel_rfl) (fun _ _ _ h => h) (Or.inl ⟨by rfl, ?_⟩) hHeld ?_
                         rotate_left
                         · (intro w hSw; (try dsimp only at hSw); go_simp; try with_reducible rfl)
                         try simp only [Act.put, List.setIfInBounds_toArray, List.set_cons_zero, List.set_cons_succ])
                      | (refine WalkU.take (i := 11) (v := undef) rfl (by kernel_rfl) (by kernel_rfl) (by kernel_rfl) (by kernel_rfl) (fun _ _ _ h => h) (Or.inr ⟨by rfl, rfl⟩) hHeld ?_
                         try simp only [Act.put, List.setIfInBounds_toArray, List.set_cons_zero, List.set_cons_succ])
                      | (refine WalkU.one (i := 11) rfl (by kernel_rfl) (fun K hK => ?_)
                         first
                           | (first | (go_at_call 129; (with_reducible refine (l3Floor_any _ _ _ Hdiag.out).mono ?_); rintro e w4 ⟨rfl, rfl⟩) | (go_at_call 123; (with_reducible refine (l2Scale_any _ _ _ _ _ _ (by omega) hic.drew).mono ?_); rintro e w5 ⟨p5, c5, rfl, ho5, hb5⟩; replace cc := belowCell hb5 cc; replace ft := belowFrz hb5 ct ft; replace ct := belowCell hb5 ct; replace cec := belowCell hb5 cec; replace cet := belowCell hb5 cet; have hg5 := Nat.lt_of_lt_of_le hgl.2.2 hb5.size) | (go_at_call 128; (with_reducible refine (l2Less_any _ _ _ _ _ _ _ _ (by omega) (hit.drew.below hb5) ho5.ints).mono ?_); rintro e w6 ⟨p6, c6, rfl, ho6, hb6⟩; replace cc := belowCell hb6 cc; replace ft := belowFrz hb6 ct ft; replace ct := belowCell hb6 ct; replace cec := belowCell hb6 cec; replace cet := belowCell hb6 cet; have hg6 := Nat.lt_of_lt_of_le hg5 hb6.size))
                           | (go_simp; (first | (go_at_call 129; (with_reducible refine (l3Floor_any _ _ _ Hdiag.out).mono ?_); rintro e w4 ⟨rfl, rfl⟩) | (go_at_call 123; (with_reducible refine (l2Scale_any _ _ _ _ _ _ (by omega) hic.drew).mono ?_); rintro e w5 ⟨p5, c5, rfl, ho5, hb5⟩; replace cc := belowCell hb5 cc; replace ft := belowFrz hb5 ct ft; replace ct := belowCell hb5 ct; replace cec := belowCell hb5 cec; replace cet := belowCell hb5 cet; have hg5 := Nat.lt_of_lt_of_le hgl.2.2 hb5.size) | (go_at_call 128; (with_reducible refine (l2Less_any _ _ _ _ _ _ _ _ (by omega) (hit.drew.below hb5) ho5.ints).mono ?_); rintro e w6 ⟨p6, c6, rfl, ho6, hb6⟩; replace cc := belowCell hb6 cc; replace ft := belowFrz hb6 ct ft; replace ct := belowCell hb6 ct; replace cec := belowCell hb6 cec; replace cet := belowCell hb6 cet; have hg6 := Nat.lt_of_lt_of_le hg5 hb6.size)))
                           | go_simp
                         refine hK.out _ _ ?_ (fun hHeld => ?_)
                         · ((try dsimp only); exact ⟨cc, cec, cet, ct⟩)
                         clear hK K
                         try simp only [Act.put, List.setIfInBounds_toArray, List.set_cons_zero, List.set_cons_succ])
                    first
                      | (refine WalkU.take (i := 12) (v := ?_) rfl (by kernel_rfl) (by kernel_rfl) (by kernel_rfl) (by kernel_rfl) (fun _ _ _ h => h) (Or.inl ⟨by rfl, ?_⟩) hHeld ?_
                         rotate_left
                         · (intro w hSw; (try dsimp only at hSw); go_simp; try with_reducible rfl)
                         try simp only [Act.put, List.setIfInBounds_toArray, List.set_cons_zero, List.set_cons_succ])
                      | (refine WalkU.take (i := 12) (v := undef) rfl (by kernel_rfl) (by kernel_rfl) (by kernel_rfl) (by kernel_rfl) (fun _ _ _ h => h) (Or.inr ⟨by rfl, rfl⟩) hHeld ?_
                         try simp only [Act.put, List.setIfInBounds_toArray, List.set_cons_zero, List.set_cons_succ])
                      | (refine WalkU.one (i := 12) rfl (by kernel_rfl) (fun K hK => ?_)
                         first
                           | (first | (go_at_call 129; (with_reducible refine (l3Floor_any _ _ _ Hdiag.out).mono ?_); rintro e w4 ⟨rfl, rfl⟩) | (go_at_call 123; (with_reducible refine (l2Scale_any _ _ _ _ _ _ (by omega) hic.drew).mono ?_); rintro e w5 ⟨p5, c5, rfl, ho5, hb5⟩; replace cc := belowCell hb5 cc; replace ft := belowFrz hb5 ct ft; replace ct := belowCell hb5 ct; replace cec := belowCell hb5 cec; replace cet := belowCell hb5 cet; have hg5 := Nat.lt_of_lt_of_le hgl.2.2 hb5.size) | (go_at_call 128; (with_reducible refine (l2Less_any _ _ _ _ _ _ _ _ (by omega) (hit.drew.below hb5) ho5.ints).mono ?_); rintro e w6 ⟨p6, c6, rfl, ho6, hb6⟩; replace cc := belowCell hb6 cc; replace ft := belowFrz hb6 ct ft; replace ct := belowCell hb6 ct; replace cec := belowCell hb6 cec; replace cet := belowCell hb6 cet; have hg6 := Nat.lt_of_lt_of_le hg5 hb6.size))
                           | (go_simp; (first | (go_at_call 129; (with_reducible refine (l3Floor_any _ _ _ Hdiag.out).mono ?_); rintro e w4 ⟨rfl, rfl⟩) | (go_at_call 123; (with_reducible refine (l2Scale_any _ _ _ _ _ _ (by omega) hic.drew).mono ?_); rintro e w5 ⟨p5, c5, rfl, ho5, hb5⟩; replace cc := belowCell hb5 cc; replace ft := belowFrz hb5 ct ft; replace ct := belowCell hb5 ct; replace cec := belowCell hb5 cec; replace cet := belowCell hb5 cet; have hg5 := Nat.lt_of_lt_of_le hgl.2.2 hb5.size) | (go_at_call 128; (with_reducible refine (l2Less_any _ _ _ _ _ _ _ _ (by omega) (hit.drew.below hb5) ho5.ints).mono ?_); rintro e w6 ⟨p6, c6, rfl, ho6, hb6⟩; replace cc := belowCell hb6 cc; replace ft := belowFrz hb6 ct ft; replace ct := belowCell hb6 ct; replace cec := belowCell hb6 cec; replace cet := belowCell hb6 cet; have hg6 := Nat.lt_of_lt_of_le hg5 hb6.size)))
                           | go_simp
                         refine hK.out _ _ ?_ (fun hHeld => ?_)
                         · ((try dsimp only); exact ⟨cc, cec, cet, ct⟩)
                         clear hK K
                         try simp only [Act.put, List.setIfInBounds_toArray, List.set_cons_zero, List.set_cons_succ])
                    first
                      | (refine WalkU.take (i := 13) (v := ?_) rfl (by kernel_rfl) (by kernel_rfl) (by kernel_rfl) (by kernel_rfl) (fun _ _ _ h => h) (Or.inl ⟨by rfl, ?_⟩) hHeld ?_
                         rotate_left
                         · (intro w hSw; (try dsimp only at hSw); go_simp; try with_reducible rfl)
                         try simp only [Act.put, List.setIfInBounds_toArray, List.set_cons_zero, List.set_cons_succ])
                      | (refine WalkU.take (i := 13) (v := undef) rfl (by kernel_rfl) (by kernel_rfl) (by kernel_rfl) (by kernel_rfl) (fun _ _ _ h => h) (Or.inr ⟨by rfl, rfl⟩) hHeld ?_
                         try simp only [Act.put, List.setIfInBounds_toArray, List.set_cons_zero, List.set_cons_succ])
                      | (refine WalkU.one (i := 13) rfl (by kernel_rfl) (fun K hK => ?_)
                         first
                           | (first | (go_at_call 129; (with_reducible refine (l3Floor_any _ _ _ Hdiag.out).mono ?_); rintro e w4 ⟨rfl, rfl⟩) | (go_at_call 123; (with_reducible refine (l2Scale_any _ _ _ _ _ _ (by omega) hic.drew).mono ?_); rintro e w5 ⟨p5, c5, rfl, ho5, hb5⟩; replace cc := belowCell hb5 cc; replace ft := belowFrz hb5 ct ft; replace ct := belowCell hb5 ct; replace cec := belowCell hb5 cec; replace cet := belowCell hb5 cet; have hg5 := Nat.lt_of_lt_of_le hgl.2.2 hb5.size) | (go_at_call 128; (with_reducible refine (l2Less_any _ _ _ _ _ _ _ _ (by omega) (hit.drew.below hb5) ho5.ints).mono ?_); rintro e w6 ⟨p6, c6, rfl, ho6, hb6⟩; replace cc := belowCell hb6 cc; replace ft := belowFrz hb6 ct ft; replace ct := belowCell hb6 ct; replace cec := belowCell hb6 cec; replace cet := belowCell hb6 cet; have hg6 := Nat.lt_of_lt_of_le hg5 hb6.size))
                           | (go_simp; (first | (go_at_call 129; (with_reducible refine (l3Floor_any _ _ _ Hdiag.out).mono ?_); rintro e w4 ⟨rfl, rfl⟩) | (go_at_call 123; (with_reducible refine (l2Scale_any _ _ _ _ _ _ (by omega) hic.drew).mono ?_); rintro e w5 ⟨p5, c5, rfl, ho5, hb5⟩; replace cc := belowCell hb5 cc; replace ft := belowFrz hb5 ct ft; replace ct := belowCell hb5 ct; replace cec := belowCell hb5 cec; replace cet := belowCell hb5 cet; have hg5 := Nat.lt_of_lt_of_le hgl.2.2 hb5.size) | (go_at_call 128; (with_reducible refine (l2Less_any _ _ _ _ _ _ _ _ (by omega) (hit.drew.below hb5) ho5.ints).mono ?_); rintro e w6 ⟨p6, c6, rfl, ho6, hb6⟩; replace cc := belowCell hb6 cc; replace ft := belowFrz hb6 ct ft; replace ct := belowCell hb6 ct; replace cec := belowCell hb6 cec; replace cet := belowCell hb6 cet; have hg6 := Nat.lt_of_lt_of_le hg5 hb6.size)))
                           | go_simp
                         refine hK.out _ _ ?_ (fun hHeld => ?_)
                         · ((try dsimp only); exact ⟨cc, cec, cet, ct⟩)
                         clear hK K
                         try simp only [Act.put, List.setIfInBounds_toArray, List.set_cons_zero, List.set_cons_succ])
                    first
                      | (refine WalkU.take (i := 14) (v := ?_) rfl (by kernel_rfl) (by kernel_rfl) (by kernel_rfl) (by kernel_rfl) (fun _ _ _ h => h) (Or.inl ⟨by rfl, ?_⟩) hHeld ?_
                         rotate_left
                         · (intro w hSw; (try dsimp only at hSw); go_simp; try with_reducible rfl)
                         try simp only [Act.put, List.setIfInBounds_toArray, List.set_cons_zero, List.set_cons_succ])
                      | (refine WalkU.take (i := 14) (v := undef) rfl (by kernel_rfl) (by kernel_rfl) (by kernel_rfl) (by kernel_rfl) (fun _ _ _ h => h) (Or.inr ⟨by rfl, rfl⟩) hHeld ?_
                         try simp only [Act.put, List.setIfInBounds_toArray, List.set_cons_zero, List.set_cons_succ])
                      | (refine WalkU.one (i := 14) rfl (by kernel_rfl) (fun K hK => ?_)
                         first
                           | (first | (go_at_call 129; (with_reducible refine (l3Floor_any _ _ _ Hdiag.out).mono ?_); rintro e w4 ⟨rfl, rfl⟩) | (go_at_call 123; (with_reducible refine (l2Scale_any _ _ _ _ _ _ (by omega) hic.drew).mono ?_); rintro e w5 ⟨p5, c5, rfl, ho5, hb5⟩; replace cc := belowCell hb5 cc; replace ft := belowFrz hb5 ct ft; replace ct := belowCell hb5 ct; replace cec := belowCell hb5 cec; replace cet := belowCell hb5 cet; have hg5 := Nat.lt_of_lt_of_le hgl.2.2 hb5.size) | (go_at_call 128; (with_reducible refine (l2Less_any _ _ _ _ _ _ _ _ (by omega) (hit.drew.below hb5) ho5.ints).mono ?_); rintro e w6 ⟨p6, c6, rfl, ho6, hb6⟩; replace cc := belowCell hb6 cc; replace ft := belowFrz hb6 ct ft; replace ct := belowCell hb6 ct; replace cec := belowCell hb6 cec; replace cet := belowCell hb6 cet; have hg6 := Nat.lt_of_lt_of_le hg5 hb6.size))
                           | (go_simp; (first | (go_at_call 129; (with_reducible refine (l3Floor_any _ _ _ Hdiag.out).mono ?_); rintro e w4 ⟨rfl, rfl⟩) | (go_at_call 123; (with_reducible refine (l2Scale_any _ _ _ _ _ _ (by omega) hic.drew).mono ?_); rintro e w5 ⟨p5, c5, rfl, ho5, hb5⟩; replace cc := belowCell hb5 cc; replace ft := belowFrz hb5 ct ft; replace ct := belowCell hb5 ct; replace cec := belowCell hb5 cec; replace cet := belowCell hb5 cet; have hg5 := Nat.lt_of_lt_of_le hgl.2.2 hb5.size) | (go_at_call 128; (with_reducible refine (l2Less_any _ _ _ _ _ _ _ _ (by omega) (hit.drew.below hb5) ho5.ints).mono ?_); rintro e w6 ⟨p6, c6, rfl, ho6, hb6⟩; replace cc := belowCell hb6 cc; replace ft := belowFrz hb6 ct ft; replace ct := belowCell hb6 ct; replace cec := belowCell hb6 cec; replace cet := belowCell hb6 cet; have hg6 := Nat.lt_of_lt_of_le hg5 hb6.size)))
                           | go_simp
                         refine hK.out _ _ ?_ (fun hHeld => ?_)
                         · ((try dsimp only); exact ⟨cc, cec, cet, ct⟩)
                         clear hK K
                         try simp only [Act.put, List.setIfInBounds_toArray, List.set_cons_zero, List.set_cons_succ])
                    first
                      | (refine WalkU.take (i := 15) (v := ?_) rfl (by kernel_rfl) (by kernel_rfl) (by kernel_rfl) (by kernel_rfl) (fun _ _ _ h => h) (Or.inl ⟨by rfl, ?_⟩) hHeld ?_
                         rotate_left
                         · (intro w hSw; (try dsimp only at hSw); go_simp; try with_reducible rfl)
                         try simp only [Act.put, List.setIfInBounds_toArray, List.set_cons_zero, List.set_cons_succ])
                      | (refine WalkU.take (i := 15) (v := undef) rfl (by kernel_rfl) (by kernel_rfl) (by kernel_rfl) (by kernel_rfl) (fun _ _ _ h => h) (Or.inr ⟨by rfl, rfl⟩) hHeld ?_
                         try simp only [Act.put, List.setIfInBounds_toArray, List.set_cons_zero, List.set_cons_succ])
                      | (refine WalkU.one (i := 15) rfl (by kernel_rfl) (fun K hK => ?_)
                         first
                           | (first | (go_at_call 129; (with_reducible refine (l3Floor_any _ _ _ Hdiag.out).mono ?_); rintro e w4 ⟨rfl, rfl⟩) | (go_at_call 123; (with_reducible refine (l2Scale_any _ _ _ _ _ _ (by omega) hic.drew).mono ?_); rintro e w5 ⟨p5, c5, rfl, ho5, hb5⟩; replace cc := belowCell hb5 cc; replace ft := belowFrz hb5 ct ft; replace ct := belowCell hb5 ct; replace cec := belowCell hb5 cec; replace cet := belowCell hb5 cet; have hg5 := Nat.lt_of_lt_of_le hgl.2.2 hb5.size) | (go_at_call 128; (with_reducible refine (l2Less_any _ _ _ _ _ _ _ _ (by omega) (hit.drew.below hb5) ho5.ints).mono ?_); rintro e w6 ⟨p6, c6, rfl, ho6, hb6⟩; replace cc := belowCell hb6 cc; replace ft := belowFrz hb6 ct ft; replace ct := belowCell hb6 ct; replace cec := belowCell hb6 cec; replace cet := belowCell hb6 cet; have hg6 := Nat.lt_of_lt_of_le hg5 hb6.size))
                           | (go_simp; (first | (go_at_call 129; (with_reducible refine (l3Floor_any _ _ _ Hdiag.out).mono ?_); rintro e w4 ⟨rfl, rfl⟩) | (go_at_call 123; (with_reducible refine (l2Scale_any _ _ _ _ _ _ (by omega) hic.drew).mono ?_); rintro e w5 ⟨p5, c5, rfl, ho5, hb5⟩; replace cc := belowCell hb5 cc; replace ft := belowFrz hb5 ct ft; replace ct := belowCell hb5 ct; replace cec := belowCell hb5 cec; replace cet := belowCell hb5 cet; have hg5 := Nat.lt_of_lt_of_le hgl.2.2 hb5.size) | (go_at_call 128; (with_reducible refine (l2Less_any _ _ _ _ _ _ _ _ (by omega) (hit.drew.below hb5) ho5.ints).mono ?_); rintro e w6 ⟨p6, c6, rfl, ho6, hb6⟩; replace cc := belowCell hb6 cc; replace ft := belowFrz hb6 ct ft; replace ct := belowCell hb6 ct; replace cec := belowCell hb6 cec; replace cet := belowCell hb6 cet; have hg6 := Nat.lt_of_lt_of_le hg5 hb6.size)))
                           | go_simp
                         refine hK.out _ _ ?_ (fun hHeld => ?_)
                         · ((try dsimp only); exact ⟨cc, cec, cet, ct⟩)
                         clear hK K
                         try simp only [Act.put, List.setIfInBounds_toArray, List.set_cons_zero, List.set_cons_succ])
                    first
                      | (refine WalkU.take (i := 16) (v := ?_) rfl (by kernel_rfl) (by kernel_rfl) (by kernel_rfl) (by kernel_rfl) (fun _ _ _ h => h) (Or.inl ⟨by rfl, ?_⟩) hHeld ?_
                         rotate_left
                         · (intro w hSw; (try dsimp only at hSw); go_simp; try with_reducible rfl)
                         try simp only [Act.put, List.setIfInBounds_toArray, List.set_cons_zero, List.set_cons_succ])
                      | (refine WalkU.take (i := 16) (v := undef) rfl (by kernel_rfl) (by kernel_rfl) (by kernel_rfl) (by kernel_rfl) (fun _ _ _ h => h) (Or.inr ⟨by rfl, rfl⟩) hHeld ?_
                         try simp only [Act.put, List.setIfInBounds_toArray, List.set_cons_zero, List.set_cons_succ])
                      | (refine WalkU.one (i := 16) rfl (by kernel_rfl) (fun K hK => ?_)
                         first
                           | (first | (go_at_call 129; (with_reducible refine (l3Floor_any _ _ _ Hdiag.out).mono ?_); rintro e w4 ⟨rfl, rfl⟩) | (go_at_call 123; (with_reducible refine (l2Scale_any _ _ _ _ _ _ (by omega) hic.drew).mono ?_); rintro e w5 ⟨p5, c5, rfl, ho5, hb5⟩; replace cc := belowCell hb5 cc; replace ft := belowFrz hb5 ct ft; replace ct := belowCell hb5 ct; replace cec := belowCell hb5 cec; replace cet := belowCell hb5 cet; have hg5 := Nat.lt_of_lt_of_le hgl.2.2 hb5.size) | (go_at_call 128; (with_reducible refine (l2Less_any _ _ _ _ _ _ _ _ (by omega) (hit.drew.below hb5) ho5.ints).mono ?_); rintro e w6 ⟨p6, c6, rfl, ho6, hb6⟩; replace cc := belowCell hb6 cc; replace ft := belowFrz hb6 ct ft; replace ct := belowCell hb6 ct; replace cec := belowCell hb6 cec; replace cet := belowCell hb6 cet; have hg6 := Nat.lt_of_lt_of_le hg5 hb6.size))
                           | (go_simp; (first | (go_at_call 129; (with_reducible refine (l3Floor_any _ _ _ Hdiag.out).mono ?_); rintro e w4 ⟨rfl, rfl⟩) | (go_at_call 123; (with_reducible refine (l2Scale_any _ _ _ _ _ _ (by omega) hic.drew).mono ?_); rintro e w5 ⟨p5, c5, rfl, ho5, hb5⟩; replace cc := belowCell hb5 cc; replace ft := belowFrz hb5 ct ft; replace ct := belowCell hb5 ct; replace cec := belowCell hb5 cec; replace cet := belowCell hb5 cet; have hg5 := Nat.lt_of_lt_of_le hgl.2.2 hb5.size) | (go_at_call 128; (with_reducible refine (l2Less_any _ _ _ _ _ _ _ _ (by omega) (hit.drew.below hb5) ho5.ints).mono ?_); rintro e w6 ⟨p6, c6, rfl, ho6, hb6⟩; replace cc := belowCell hb6 cc; replace ft := belowFrz hb6 ct ft; replace ct := belowCell hb6 ct; replace cec := belowCell hb6 cec; replace cet := belowCell hb6 cet; have hg6 := Nat.lt_of_lt_of_le hg5 hb6.size)))
                           | go_simp
                         refine hK.out _ _ ?_ (fun hHeld => ?_)
                         · ((try dsimp only); exact ⟨cc, cec, cet, ct⟩)
                         clear hK K
                         try simp only [Act.put, List.setIfInBounds_toArray, List.set_cons_zero, List.set_cons_succ])
                    first
                      | (refine WalkU.take (i := 17) (v := ?_) rfl (by kernel_rfl) (by kernel_rfl) (by kernel_rfl) (by kernel_rfl) (fun _ _ _ h => h) (Or.inl ⟨by rfl, ?_⟩) hHeld ?_
                         rotate_left
                         · (intro w hSw; (try dsimp only at hSw); go_simp; try with_reducible rfl)
                         try simp only [Act.put, List.setIfInBounds_toArray, List.set_cons_zero, List.set_cons_succ])
                      | (refine WalkU.take (i := 17) (v := undef) rfl (by kernel_rfl) (by kernel_rfl) (by kernel_rfl) (by kernel_rfl) (fun _ _ _ h => h) (Or.inr ⟨by rfl, rfl⟩) hHeld ?_
                         try simp only [Act.put, List.setIfInBounds_toArray, List.set_cons_zero, List.set_cons_succ])
                      | (refine WalkU.one (i := 17) rfl (by kernel_rfl) (fun K hK => ?_)
                         first
                           | (first | (go_at_call 129; (with_reducible refine (l3Floor_any _ _ _ Hdiag.out).mono ?_); rintro e w4 ⟨rfl, rfl⟩) | (go_at_call 123; (with_reducible refine (l2Scale_any _ _ _ _ _ _ (by omega) hic.drew).mono ?_); rintro e w5 ⟨p5, c5, rfl, ho5, hb5⟩; replace cc := belowCell hb5 cc; replace ft := belowFrz hb5 ct ft; replace ct := belowCell hb5 ct; replace cec := belowCell hb5 cec; replace cet := belowCell hb5 cet; have hg5 := Nat.lt_of_lt_of_le hgl.2.2 hb5.size) | (go_at_call 128; (with_reducible refine (l2Less_any _ _ _ _ _ _ _ _ (by omega) (hit.drew.below hb5) ho5.ints).mono ?_); rintro e w6 ⟨p6, c6, rfl, ho6, hb6⟩; replace cc := belowCell hb6 cc; replace ft := belowFrz hb6 ct ft; replace ct := belowCell hb6 ct; replace cec := belowCell hb6 cec; replace cet := belowCell hb6 cet; have hg6 := Nat.lt_of_lt_of_le hg5 hb6.size))
                           | (go_simp; (first | (go_at_call 129; (with_reducible refine (l3Floor_any _ _ _ Hdiag.out).mono ?_); rintro e w4 ⟨rfl, rfl⟩) | (go_at_call 123; (with_reducible refine (l2Scale_any _ _ _ _ _ _ (by omega) hic.drew).mono ?_); rintro e w5 ⟨p5, c5, rfl, ho5, hb5⟩; replace cc := belowCell hb5 cc; replace ft := belowFrz hb5 ct ft; replace ct := belowCell hb5 ct; replace cec := belowCell hb5 cec; replace cet := belowCell hb5 cet; have hg5 := Nat.lt_of_lt_of_le hgl.2.2 hb5.size) | (go_at_call 128; (with_reducible refine (l2Less_any _ _ _ _ _ _ _ _ (by omega) (hit.drew.below hb5) ho5.ints).mono ?_); rintro e w6 ⟨p6, c6, rfl, ho6, hb6⟩; replace cc := belowCell hb6 cc; replace ft := belowFrz hb6 ct ft; replace ct := belowCell hb6 ct; replace cec := belowCell hb6 cec; replace cet := belowCell hb6 cet; have hg6 := Nat.lt_of_lt_of_le hg5 hb6.size)))
                           | go_simp
                         refine hK.out _ _ ?_ (fun hHeld => ?_)
                         · ((try dsimp only); exact ⟨cc, cec, cet, ct⟩)
                         clear hK K
                         try simp only [Act.put, List.setIfInBounds_toArray, List.set_cons_zero, List.set_cons_succ])
                    first
                      | (refine WalkU.take (i := 18) (v := ?_) rfl (by kernel_rfl) (by kernel_rfl) (by kernel_rfl) (by kernel_rfl) (fun _ _ _ h => h) (Or.inl ⟨by rfl, ?_⟩) hHeld ?_
                         rotate_left
                         · (intro w hSw; (try dsimp only at hSw); go_simp; try with_reducible rfl)
                         try simp only [Act.put, List.setIfInBounds_toArray, List.set_cons_zero, List.set_cons_succ])
                      | (refine WalkU.take (i := 18) (v := undef) rfl (by kernel_rfl) (by kernel_rfl) (by kernel_rfl) (by kernel_rfl) (fun _ _ _ h => h) (Or.inr ⟨by rfl, rfl⟩) hHeld ?_
                         try simp only [Act.put, List.setIfInBounds_toArray, List.set_cons_zero, List.set_cons_succ])
                      | (refine WalkU.one (i := 18) rfl (by kernel_rfl) (fun K hK => ?_)
                         first
                           | (first | (go_at_call 129; (with_reducible refine (l3Floor_any _ _ _ Hdiag.out).mono ?_); rintro e w4 ⟨rfl, rfl⟩) | (go_at_call 123; (with_reducible refine (l2Scale_any _ _ _ _ _ _ (by omega) hic.drew).mono ?_); rintro e w5 ⟨p5, c5, rfl, ho5, hb5⟩; replace cc := belowCell hb5 cc; replace ft := belowFrz hb5 ct ft; replace ct := belowCell hb5 ct; replace cec := belowCell hb5 cec; replace cet := belowCell hb5 cet; have hg5 := Nat.lt_of_lt_of_le hgl.2.2 hb5.size) | (go_at_call 128; (with_reducible refine (l2Less_any _ _ _ _ _ _ _ _ (by omega) (hit.drew.below hb5) ho5.ints).mono ?_); rintro e w6 ⟨p6, c6, rfl, ho6, hb6⟩; replace cc := belowCell hb6 cc; replace ft := belowFrz hb6 ct ft; replace ct := belowCell hb6 ct; replace cec := belowCell hb6 cec; replace cet := belowCell hb6 cet; have hg6 := Nat.lt_of_lt_of_le hg5 hb6.size))
                           | (go_simp; (first | (go_at_call 129; (with_reducible refine (l3Floor_any _ _ _ Hdiag.out).mono ?_); rintro e w4 ⟨rfl, rfl⟩) | (go_at_call 123; (with_reducible refine (l2Scale_any _ _ _ _ _ _ (by omega) hic.drew).mono ?_); rintro e w5 ⟨p5, c5, rfl, ho5, hb5⟩; replace cc := belowCell hb5 cc; replace ft := belowFrz hb5 ct ft; replace ct := belowCell hb5 ct; replace cec := belowCell hb5 cec; replace cet := belowCell hb5 cet; have hg5 := Nat.lt_of_lt_of_le hgl.2.2 hb5.size) | (go_at_call 128; (with_reducible refine (l2Less_any _ _ _ _ _ _ _ _ (by omega) (hit.drew.below hb5) ho5.ints).mono ?_); rintro e w6 ⟨p6, c6, rfl, ho6, hb6⟩; replace cc := belowCell hb6 cc; replace ft := belowFrz hb6 ct ft; replace ct := belowCell hb6 ct; replace cec := belowCell hb6 cec; replace cet := belowCell hb6 cet; have hg6 := Nat.lt_of_lt_of_le hg5 hb6.size)))
                           | go_simp
                         refine hK.out _ _ ?_ (fun hHeld => ?_)
                         · ((try dsimp only); exact ⟨cc, cec, cet, ct⟩)
                         clear hK K
                         try simp only [Act.put, List.setIfInBounds_toArray, List.set_cons_zero, List.set_cons_succ])
                    first
                      | (refine WalkU.take (i := 19) (v := ?_) rfl (by kernel_rfl) (by kernel_rfl) (by kernel_rfl) (by kernel_rfl) (fun _ _ _ h => h) (Or.inl ⟨by rfl, ?_⟩) hHeld ?_
                         rotate_left
                         · (intro w hSw; (try dsimp only at hSw); go_simp; try with_reducible rfl)
                         try simp only [Act.put, List.setIfInBounds_toArray, List.set_cons_zero, List.set_cons_succ])
                      | (refine WalkU.take (i := 19) (v := undef) rfl (by kernel_rfl) (by kernel_rfl) (by kernel_rfl) (by kernel_rfl) (fun _ _ _ h => h) (Or.inr ⟨by rfl, rfl⟩) hHeld ?_
                         try simp only [Act.put, List.setIfInBounds_toArray, List.set_cons_zero, List.set_cons_succ])
                      | (refine WalkU.one (i := 19) rfl (by kernel_rfl) (fun K hK => ?_)
                         first
                           | (first | (go_at_call 129; (with_reducible refine (l3Floor_any _ _ _ Hdiag.out).mono ?_); rintro e w4 ⟨rfl, rfl⟩) | (go_at_call 123; (with_reducible refine (l2Scale_any _ _ _ _ _ _ (by omega) hic.drew).mono ?_); rintro e w5 ⟨p5, c5, rfl, ho5, hb5⟩; replace cc := belowCell hb5 cc; replace ft := belowFrz hb5 ct ft; replace ct := belowCell hb5 ct; replace cec := belowCell hb5 cec; replace cet := belowCell hb5 cet; have hg5 := Nat.lt_of_lt_of_le hgl.2.2 hb5.size) | (go_at_call 128; (with_reducible refine (l2Less_any _ _ _ _ _ _ _ _ (by omega) (hit.drew.below hb5) ho5.ints).mono ?_); rintro e w6 ⟨p6, c6, rfl, ho6, hb6⟩; replace cc := belowCell hb6 cc; replace ft := belowFrz hb6 ct ft; replace ct := belowCell hb6 ct; replace cec := belowCell hb6 cec; replace cet := belowCell hb6 cet; have hg6 := Nat.lt_of_lt_of_le hg5 hb6.size))
                           | (go_simp; (first | (go_at_call 129; (with_reducible refine (l3Floor_any _ _ _ Hdiag.out).mono ?_); rintro e w4 ⟨rfl, rfl⟩) | (go_at_call 123; (with_reducible refine (l2Scale_any _ _ _ _ _ _ (by omega) hic.drew).mono ?_); rintro e w5 ⟨p5, c5, rfl, ho5, hb5⟩; replace cc := belowCell hb5 cc; replace ft := belowFrz hb5 ct ft; replace ct := belowCell hb5 ct; replace cec := belowCell hb5 cec; replace cet := belowCell hb5 cet; have hg5 := Nat.lt_of_lt_of_le hgl.2.2 hb5.size) | (go_at_call 128; (with_reducible refine (l2Less_any _ _ _ _ _ _ _ _ (by omega) (hit.drew.below hb5) ho5.ints).mono ?_); rintro e w6 ⟨p6, c6, rfl, ho6, hb6⟩; replace cc := belowCell hb6 cc; replace ft := belowFrz hb6 ct ft; replace ct := belowCell hb6 ct; replace cec := belowCell hb6 cec; replace cet := belowCell hb6 cet; have hg6 := Nat.lt_of_lt_of_le hg5 hb6.size)))
                           | go_simp
                         refine hK.out _ _ ?_ (fun hHeld => ?_)
                         · ((try dsimp only); exact ⟨cc, cec, cet, ct⟩)
                         clear hK K
                         try simp only [Act.put, List.setIfInBounds_toArray, List.set_cons_zero, List.set_cons_succ])
                    first
                      | (refine WalkU.take (i := 20) (v := ?_) rfl (by kernel_rfl) (by kernel_rfl) (by kernel_rfl) (by kernel_rfl) (fun _ _ _ h => h) (Or.inl ⟨by rfl, ?_⟩) hHeld ?_
                         rotate_left
                         · (intro w hSw; (try dsimp only at hSw); go_simp; try with_reducible rfl)
                         try simp only [Act.put, List.setIfInBounds_toArray, List.set_cons_zero, List.set_cons_succ])
                      | (refine WalkU.take (i := 20) (v := undef) rfl (by kernel_rfl) (by kernel_rfl) (by kernel_rfl) (by kernel_rfl) (fun _ _ _ h => h) (Or.inr ⟨by rfl, rfl⟩) hHeld ?_
                         try simp only [Act.put, List.setIfInBounds_toArray, List.set_cons_zero, List.set_cons_succ])
                      | (refine WalkU.one (i := 20) rfl (by kernel_rfl) (fun K hK => ?_)
                         first
                           | (first | (go_at_call 129; (with_reducible refine (l3Floor_any _ _ _ Hdiag.out).mono ?_); rintro e w4 ⟨rfl, rfl⟩) | (go_at_call 123; (with_reducible refine (l2Scale_any _ _ _ _ _ _ (by omega) hic.drew).mono ?_); rintro e w5 ⟨p5, c5, rfl, ho5, hb5⟩; replace cc := belowCell hb5 cc; replace ft := belowFrz hb5 ct ft; replace ct := belowCell hb5 ct; replace cec := belowCell hb5 cec; replace cet := belowCell hb5 cet; have hg5 := Nat.lt_of_lt_of_le hgl.2.2 hb5.size) | (go_at_call 128; (with_reducible refine (l2Less_any _ _ _ _ _ _ _ _ (by omega) (hit.drew.below hb5) ho5.ints).mono ?_); rintro e w6 ⟨p6, c6, rfl, ho6, hb6⟩; replace cc := belowCell hb6 cc; replace ft := belowFrz hb6 ct ft; replace ct := belowCell hb6 ct; replace cec := belowCell hb6 cec; replace cet := belowCell hb6 cet; have hg6 := Nat.lt_of_lt_of_le hg5 hb6.size))
                           | (go_simp; (first | (go_at_call 129; (with_reducible refine (l3Floor_any _ _ _ Hdiag.out).mono ?_); rintro e w4 ⟨rfl, rfl⟩) | (go_at_call 123; (with_reducible refine (l2Scale_any _ _ _ _ _ _ (by omega) hic.drew).mono ?_); rintro e w5 ⟨p5, c5, rfl, ho5, hb5⟩; replace cc := belowCell hb5 cc; replace ft := belowFrz hb5 ct ft; replace ct := belowCell hb5 ct; replace cec := belowCell hb5 cec; replace cet := belowCell hb5 cet; have hg5 := Nat.lt_of_lt_of_le hgl.2.2 hb5.size) | (go_at_call 128; (with_reducible refine (l2Less_any _ _ _ _ _ _ _ _ (by omega) (hit.drew.below hb5) ho5.ints).mono ?_); rintro e w6 ⟨p6, c6, rfl, ho6, hb6⟩; replace cc := belowCell hb6 cc; replace ft := belowFrz hb6 ct ft; replace ct := belowCell hb6 ct; replace cec := belowCell hb6 cec; replace cet := belowCell hb6 cet; have hg6 := Nat.lt_of_lt_of_le hg5 hb6.size)))
                           | go_simp
                         refine hK.out _ _ ?_ (fun hHeld => ?_)
                         · ((try dsimp only); exact ⟨cc, cec, cet, ct⟩)
                         clear hK K
                         try simp only [Act.put, List.setIfInBounds_toArray, List.set_cons_zero, List.set_cons_succ])
                    first
                      | (refine WalkU.take (i := 21) (v := ?_) rfl (by kernel_rfl) (by kernel_rfl) (by kernel_rfl) (by kernel_rfl) (fun _ _ _ h => h) (Or.inl ⟨by rfl, ?_⟩) hHeld ?_
                         rotate_left
                         · (intro w hSw; (try dsimp only at hSw); go_simp; try with_reducible rfl)
                         try simp only [Act.put, List.setIfInBounds_toArray, List.set_cons_zero, List.set_cons_succ])
                      | (refine WalkU.take (i := 21) (v := undef) rfl (by kernel_rfl) (by kernel_rfl) (by kernel_rfl) (by kernel_rfl) (fun _ _ _ h => h) (Or.inr ⟨by rfl, rfl⟩) hHeld ?_
                         try simp only [Act.put, List.setIfInBounds_toArray, List.set_cons_zero, List.set_cons_succ])
                      | (refine WalkU.one (i := 21) rfl (by kernel_rfl) (fun K hK => ?_)
                         first
                           | (first | (go_at_call 129; (with_reducible refine (l3Floor_any _ _ _ Hdiag.out).mono ?_); rintro e w4 ⟨rfl, rfl⟩) | (go_at_call 123; (with_reducible refine (l2Scale_any _ _ _ _ _ _ (by omega) hic.drew).mono ?_); rintro e w5 ⟨p5, c5, rfl, ho5, hb5⟩; replace cc := belowCell hb5 cc; replace ft := belowFrz hb5 ct ft; replace ct := belowCell hb5 ct; replace cec := belowCell hb5 cec; replace cet := belowCell hb5 cet; have hg5 := Nat.lt_of_lt_of_le hgl.2.2 hb5.size) | (go_at_call 128; (with_reducible refine (l2Less_any _ _ _ _ _ _ _ _ (by omega) (hit.drew.below hb5) ho5.ints).mono ?_); rintro e w6 ⟨p6, c6, rfl, ho6, hb6⟩; replace cc := belowCell hb6 cc; replace ft := belowFrz hb6 ct ft; replace ct := belowCell hb6 ct; replace cec := belowCell hb6 cec; replace cet := belowCell hb6 cet; have hg6 := Nat.lt_of_lt_of_le hg5 hb6.size))
                           | (go_simp; (first | (go_at_call 129; (with_reducible refine (l3Floor_any _ _ _ Hdiag.out).mono ?_); rintro e w4 ⟨rfl, rfl⟩) | (go_at_call 123; (with_reducible refine (l2Scale_any _ _ _ _ _ _ (by omega) hic.drew).mono ?_); rintro e w5 ⟨p5, c5, rfl, ho5, hb5⟩; replace cc := belowCell hb5 cc; replace ft := belowFrz hb5 ct ft; replace ct := belowCell hb5 ct; replace cec := belowCell hb5 cec; replace cet := belowCell hb5 cet; have hg5 := Nat.lt_of_lt_of_le hgl.2.2 hb5.size) | (go_at_call 128; (with_reducible refine (l2Less_any _ _ _ _ _ _ _ _ (by omega) (hit.drew.below hb5) ho5.ints).mono ?_); rintro e w6 ⟨p6, c6, rfl, ho6, hb6⟩; replace cc := belowCell hb6 cc; replace ft := belowFrz hb6 ct ft; replace ct := belowCell hb6 ct; replace cec := belowCell hb6 cec; replace cet := belowCell hb6 cet; have hg6 := Nat.lt_of_lt_of_le hg5 hb6.size)))
                           | go_simp
                         refine hK.out _ _ ?_ (fun hHeld => ?_)
                         · ((try dsimp only); exact ⟨cc, cec, cet, ct⟩)
                         clear hK K
                         try simp only [Act.put, List.setIfInBounds_toArray, List.set_cons_zero, List.set_cons_succ])
                    first
                      | (refine WalkU.take (i := 22) (v := ?_) rfl (by kernel_rfl) (by kernel_rfl) (by kernel_rfl) (by kernel_rfl) (fun _ _ _ h => h) (Or.inl ⟨by rfl, ?_⟩) hHeld ?_
                         rotate_left
                         · (intro w hSw; (try dsimp only at hSw); go_simp; try with_reducible rfl)
                         try simp only [Act.put, List.setIfInBounds_toArray, List.set_cons_zero, List.set_cons_succ])
                      | (refine WalkU.take (i := 22) (v := undef) rfl (by kernel_rfl) (by kernel_rfl) (by kernel_rfl) (by kernel_rfl) (fun _ _ _ h => h) (Or.inr ⟨by rfl, rfl⟩) hHeld ?_
                         try simp only [Act.put, List.setIfInBounds_toArray, List.set_cons_zero, List.set_cons_succ])
                      | (refine WalkU.one (i := 22) rfl (by kernel_rfl) (fun K hK => ?_)
                         first
                           | (first | (go_at_call 129; (with_reducible refine (l3Floor_any _ _ _ Hdiag.out).mono ?_); rintro e w4 ⟨rfl, rfl⟩) | (go_at_call 123; (with_reducible refine (l2Scale_any _ _ _ _ _ _ (by omega) hic.drew).mono ?_); rintro e w5 ⟨p5, c5, rfl, ho5, hb5⟩; replace cc := belowCell hb5 cc; replace ft := belowFrz hb5 ct ft; replace ct := belowCell hb5 ct; replace cec := belowCell hb5 cec; replace cet := belowCell hb5 cet; have hg5 := Nat.lt_of_lt_of_le hgl.2.2 hb5.size) | (go_at_call 128; (with_reducible refine (l2Less_any _ _ _ _ _ _ _ _ (by omega) (hit.drew.below hb5) ho5.ints).mono ?_); rintro e w6 ⟨p6, c6, rfl, ho6, hb6⟩; replace cc := belowCell hb6 cc; replace ft := belowFrz hb6 ct ft; replace ct := belowCell hb6 ct; replace cec := belowCell hb6 cec; replace cet := belowCell hb6 cet; have hg6 := Nat.lt_of_lt_of_le hg5 hb6.size))
                           | (go_simp; (first | (go_at_call 129; (with_reducible refine (l3Floor_any _ _ _ Hdiag.out).mono ?_); rintro e w4 ⟨rfl, rfl⟩) | (go_at_call 123; (with_reducible refine (l2Scale_any _ _ _ _ _ _ (by omega) hic.drew).mono ?_); rintro e w5 ⟨p5, c5, rfl, ho5, hb5⟩; replace cc := belowCell hb5 cc; replace ft := belowFrz hb5 ct ft; replace ct := belowCell hb5 ct; replace cec := belowCell hb5 cec; replace cet := belowCell hb5 cet; have hg5 := Nat.lt_of_lt_of_le hgl.2.2 hb5.size) | (go_at_call 128; (with_reducible refine (l2Less_any _ _ _ _ _ _ _ _ (by omega) (hit.drew.below hb5) ho5.ints).mono ?_); rintro e w6 ⟨p6, c6, rfl, ho6, hb6⟩; replace cc := belowCell hb6 cc; replace ft := belowFrz hb6 ct ft; replace ct := belowCell hb6 ct; replace cec := belowCell hb6 cec; replace cet := belowCell hb6 cet; have hg6 := Nat.lt_of_lt_of_le hg5 hb6.size)))
                           | go_simp
                         refine hK.out _ _ ?_ (fun hHeld => ?_)
                         · ((try dsimp only); exact ⟨cc, cec, cet, ct⟩)
                         clear hK K
                         try simp only [Act.put, List.setIfInBounds_toArray, List.set_cons_zero, List.set_cons_succ])
                    first
                      | (refine WalkU.take (i := 23) (v := ?_) rfl (by kernel_rfl) (by kernel_rfl) (by kernel_rfl) (by kernel_rfl) (fun _ _ _ h => h) (Or.inl ⟨by rfl, ?_⟩) hHeld ?_
                         rotate_left
                         · (intro w hSw; (try dsimp only at hSw); go_simp; try with_reducible rfl)
                         try simp only [Act.put, List.setIfInBounds_toArray, List.set_cons_zero, List.set_cons_succ])
                      | (refine WalkU.take (i := 23) (v := undef) rfl (by kernel_rfl) (by kernel_rfl) (by kernel_rfl) (by kernel_rfl) (fun _ _ _ h => h) (Or.inr ⟨by rfl, rfl⟩) hHeld ?_
                         try simp only [Act.put, List.setIfInBounds_toArray, List.set_cons_zero, List.set_cons_succ])
                      | (refine WalkU.one (i := 23) rfl (by kernel_rfl) (fun K hK => ?_)
                         first
                           | (first | (go_at_call 129; (with_reducible refine (l3Floor_any _ _ _ Hdiag.out).mono ?_); rintro e w4 ⟨rfl, rfl⟩) | (go_at_call 123; (with_reducible refine (l2Scale_any _ _ _ _ _ _ (by omega) hic.drew).mono ?_); rintro e w5 ⟨p5, c5, rfl, ho5, hb5⟩; replace cc := belowCell hb5 cc; replace ft := belowFrz hb5 ct ft; replace ct := belowCell hb5 ct; replace cec := belowCell hb5 cec; replace cet := belowCell hb5 cet; have hg5 := Nat.lt_of_lt_of_le hgl.2.2 hb5.size) | (go_at_call 128; (with_reducible refine (l2Less_any _ _ _ _ _ _ _ _ (by omega) (hit.drew.below hb5) ho5.ints).mono ?_); rintro e w6 ⟨p6, c6, rfl, ho6, hb6⟩; replace cc := belowCell hb6 cc; replace ft := belowFrz hb6 ct ft; replace ct := belowCell hb6 ct; replace cec := belowCell hb6 cec; replace cet := belowCell hb6 cet; have hg6 := Nat.lt_of_lt_of_le hg5 hb6.size))
                           | (go_simp; (first | (go_at_call 129; (with_reducible refine (l3Floor_any _ _ _ Hdiag.out).mono ?_); rintro e w4 ⟨rfl, rfl⟩) | (go_at_call 123; (with_reducible refine (l2Scale_any _ _ _ _ _ _ (by omega) hic.drew).mono ?_); rintro e w5 ⟨p5, c5, rfl, ho5, hb5⟩; replace cc := belowCell hb5 cc; replace ft := belowFrz hb5 ct ft; replace ct := belowCell hb5 ct; replace cec := belowCell hb5 cec; replace cet := belowCell hb5 cet; have hg5 := Nat.lt_of_lt_of_le hgl.2.2 hb5.size) | (go_at_call 128; (with_reducible refine (l2Less_any _ _ _ _ _ _ _ _ (by omega) (hit.drew.below hb5) ho5.ints).mono ?_); rintro e w6 ⟨p6, c6, rfl, ho6, hb6⟩; replace cc := belowCell hb6 cc; replace ft := belowFrz hb6 ct ft; replace ct := belowCell hb6 ct; replace cec := belowCell hb6 cec; replace cet := belowCell hb6 cet; have hg6 := Nat.lt_of_lt_of_le hg5 hb6.size)))
                           | go_simp
                         refine hK.out _ _ ?_ (fun hHeld => ?_)
                         · ((try dsimp only); exact ⟨cc, cec, cet, ct⟩)
                         clear hK K
                         try simp only [Act.put, List.setIfInBounds_toArray, List.set_cons_zero, List.set_cons_succ])
                    first
                      | (refine WalkU.take (i := 24) (v := ?_) rfl (by kernel_rfl) (by kernel_rfl) (by kernel_rfl) (by kernel_rfl) (fun _ _ _ h => h) (Or.inl ⟨by rfl, ?_⟩) hHeld ?_
                         rotate_left
                         · (intro w hSw; (try dsimp only at hSw); go_simp; try with_reducible rfl)
                         try simp only [Act.put, List.setIfInBounds_toArray, List.set_cons_zero, List.set_cons_succ])
                      | (refine WalkU.take (i := 24) (v := undef) rfl (by kernel_rfl) (by kernel_rfl) (by kernel_rfl) (by kernel_rfl) (fun _ _ _ h => h) (Or.inr ⟨by rfl, rfl⟩) hHeld ?_
                         try simp only [Act.put, List.setIfInBounds_toArray, List.set_cons_zero, List.set_cons_succ])
                      | (refine WalkU.one (i := 24) rfl (by kernel_rfl) (fun K hK => ?_)
                         first
                           | (first | (go_at_call 129; (with_reducible refine (l3Floor_any _ _ _ Hdiag.out).mono ?_); rintro e w4 ⟨rfl, rfl⟩) | (go_at_call 123; (with_reducible refine (l2Scale_any _ _ _ _ _ _ (by omega) hic.drew).mono ?_); rintro e w5 ⟨p5, c5, rfl, ho5, hb5⟩; replace cc := belowCell hb5 cc; replace ft := belowFrz hb5 ct ft; replace ct := belowCell hb5 ct; replace cec := belowCell hb5 cec; replace cet := belowCell hb5 cet; have hg5 := Nat.lt_of_lt_of_le hgl.2.2 hb5.size) | (go_at_call 128; (with_reducible refine (l2Less_any _ _ _ _ _ _ _ _ (by omega) (hit.drew.below hb5) ho5.ints).mono ?_); rintro e w6 ⟨p6, c6, rfl, ho6, hb6⟩; replace cc := belowCell hb6 cc; replace ft := belowFrz hb6 ct ft; replace ct := belowCell hb6 ct; replace cec := belowCell hb6 cec; replace cet := belowCell hb6 cet; have hg6 := Nat.lt_of_lt_of_le hg5 hb6.size))
                           | (go_simp; (first | (go_at_call 129; (with_reducible refine (l3Floor_any _ _ _ Hdiag.out).mono ?_); rintro e w4 ⟨rfl, rfl⟩) | (go_at_call 123; (with_reducible refine (l2Scale_any _ _ _ _ _ _ (by omega) hic.drew).mono ?_); rintro e w5 ⟨p5, c5, rfl, ho5, hb5⟩; replace cc := belowCell hb5 cc; replace ft := belowFrz hb5 ct ft; replace ct := belowCell hb5 ct; replace cec := belowCell hb5 cec; replace cet := belowCell hb5 cet; have hg5 := Nat.lt_of_lt_of_le hgl.2.2 hb5.size) | (go_at_call 128; (with_reducible refine (l2Less_any _ _ _ _ _ _ _ _ (by omega) (hit.drew.below hb5) ho5.ints).mono ?_); rintro e w6 ⟨p6, c6, rfl, ho6, hb6⟩; replace cc := belowCell hb6 cc; replace ft := belowFrz hb6 ct ft; replace ct := belowCell hb6 ct; replace cec := belowCell hb6 cec; replace cet := belowCell hb6 cet; have hg6 := Nat.lt_of_lt_of_le hg5 hb6.size)))
                           | go_simp
                         refine hK.out _ _ ?_ (fun hHeld => ?_)
                         · ((try dsimp only); exact ⟨cc, cec, cet, ct⟩)
                         clear hK K
                         try simp only [Act.put, List.setIfInBounds_toArray, List.set_cons_zero, List.set_cons_succ])
                    first
                      | (refine WalkU.take (i := 25) (v := ?_) rfl (by kernel_rfl) (by kernel_rfl) (by kernel_rfl) (by kernel_rfl) (fun _ _ _ h => h) (Or.inl ⟨by rfl, ?_⟩) hHeld ?_
                         rotate_left
                         · (intro w hSw; (try dsimp only at hSw); go_simp; try with_reducible rfl)
                         try simp only [Act.put, List.setIfInBounds_toArray, List.set_cons_zero, List.set_cons_succ])
                      | (refine WalkU.take (i := 25) (v := undef) rfl (by kernel_rfl) (by kernel_rfl) (by kernel_rfl) (by kernel_rfl) (fun _ _ _ h => h) (Or.inr ⟨by rfl, rfl⟩) hHeld ?_
                         try simp only [Act.put, List.setIfInBounds_toArray, List.set_cons_zero, List.set_cons_succ])
                      | (refine WalkU.one (i := 25) rfl (by kernel_rfl) (fun K hK => ?_)
                         first
                           | (first | (go_at_call 129; (with_reducible refine (l3Floor_any _ _ _ Hdiag.out).mono ?_); rintro e w4 ⟨rfl, rfl⟩) | (go_at_call 123; (with_reducible refine (l2Scale_any _ _ _ _ _ _ (by omega) hic.drew).mono ?_); rintro e w5 ⟨p5, c5, rfl, ho5, hb5⟩; replace cc := belowCell hb5 cc; replace ft := belowFrz hb5 ct ft; replace ct := belowCell hb5 ct; replace cec := belowCell hb5 cec; replace cet := belowCell hb5 cet; have hg5 := Nat.lt_of_lt_of_le hgl.2.2 hb5.size) | (go_at_call 128; (with_reducible refine (l2Less_any _ _ _ _ _ _ _ _ (by omega) (hit.drew.below hb5) ho5.ints).mono ?_); rintro e w6 ⟨p6, c6, rfl, ho6, hb6⟩; replace cc := belowCell hb6 cc; replace ft := belowFrz hb6 ct ft; replace ct := belowCell hb6 ct; replace cec := belowCell hb6 cec; replace cet := belowCell hb6 cet; have hg6 := Nat.lt_of_lt_of_le hg5 hb6.size))
                           | (go_simp; (first | (go_at_call 129; (with_reducible refine (l3Floor_any _ _ _ Hdiag.out).mono ?_); rintro e w4 ⟨rfl, rfl⟩) | (go_at_call 123; (with_reducible refine (l2Scale_any _ _ _ _ _ _ (by omega) hic.drew).mono ?_); rintro e w5 ⟨p5, c5, rfl, ho5, hb5⟩; replace cc := belowCell hb5 cc; replace ft := belowFrz hb5 ct ft; replace ct := belowCell hb5 ct; replace cec := belowCell hb5 cec; replace cet := belowCell hb5 cet; have hg5 := Nat.lt_of_lt_of_le hgl.2.2 hb5.size) | (go_at_call 128; (with_reducible refine (l2Less_any _ _ _ _ _ _ _ _ (by omega) (hit.drew.below hb5) ho5.ints).mono ?_); rintro e w6 ⟨p6, c6, rfl, ho6, hb6⟩; replace cc := belowCell hb6 cc; replace ft := belowFrz hb6 ct ft; replace ct := belowCell hb6 ct; replace cec := belowCell hb6 cec; replace cet := belowCell hb6 cet; have hg6 := Nat.lt_of_lt_of_le hg5 hb6.size)))
                           | go_simp
                         refine hK.out _ _ ?_ (fun hHeld => ?_)
                         · ((try dsimp only); exact ⟨cc, cec, cet, ct⟩)
                         clear hK K
                         try simp only [Act.put, List.setIfInBounds_toArray, List.set_cons_zero, List.set_cons_succ])
                    first
                      | (refine WalkU.take (i := 26) (v := ?_) rfl (by kernel_rfl) (by kernel_rfl) (by kernel_rfl) (by kernel_rfl) (fun _ _ _ h => h) (Or.inl ⟨by rfl, ?_⟩) hHeld ?_
                         rotate_left
                         · (intro w hSw; (try dsimp only at hSw); go_simp; try with_reducible rfl)
                         try simp only [Act.put, List.setIfInBounds_toArray, List.set_cons_zero, List.set_cons_succ])
                      | (refine WalkU.take (i := 26) (v := undef) rfl (by kernel_rfl) (by kernel_rfl) (by kernel_rfl) (by kernel_rfl) (fun _ _ _ h => h) (Or.inr ⟨by rfl, rfl⟩) hHeld ?_
                         try simp only [Act.put, List.setIfInBounds_toArray, List.set_cons_zero, List.set_cons_succ])
                      | (refine WalkU.one (i := 26) rfl (by kernel_rfl) (fun K hK => ?_)
                         first
                           | (first | (go_at_call 129; (with_reducible refine (l3Floor_any _ _ _ Hdiag.out).mono ?_); rintro e w4 ⟨rfl, rfl⟩) | (go_at_call 123; (with_reducible refine (l2Scale_any _ _ _ _ _ _ (by omega) hic.drew).mono ?_); rintro e w5 ⟨p5, c5, rfl, ho5, hb5⟩; replace cc := belowCell hb5 cc; replace ft := belowFrz hb5 ct ft; replace ct := belowCell hb5 ct; replace cec := belowCell hb5 cec; replace cet := belowCell hb5 cet; have hg5 := Nat.lt_of_lt_of_le hgl.2.2 hb5.size) | (go_at_call 128; (with_reducible refine (l2Less_any _ _ _ _ _ _ _ _ (by omega) (hit.drew.below hb5) ho5.ints).mono ?_); rintro e w6 ⟨p6, c6, rfl, ho6, hb6⟩; replace cc := belowCell hb6 cc; replace ft := belowFrz hb6 ct ft; replace ct := belowCell hb6 ct; replace cec := belowCell hb6 cec; replace cet := belowCell hb6 cet; have hg6 := Nat.lt_of_lt_of_le hg5 hb6.size))
                           | (go_simp; (first | (go_at_call 129; (with_reducible refine (l3Floor_any _ _ _ Hdiag.out).mono ?_); rintro e w4 ⟨rfl, rfl⟩) | (go_at_call 123; (with_reducible refine (l2Scale_any _ _ _ _ _ _ (by omega) hic.drew).mono ?_); rintro e w5 ⟨p5, c5, rfl, ho5, hb5⟩; replace cc := belowCell hb5 cc; replace ft := belowFrz hb5 ct ft; replace ct := belowCell hb5 ct; replace cec := belowCell hb5 cec; replace cet := belowCell hb5 cet; have hg5 := Nat.lt_of_lt_of_le hgl.2.2 hb5.size) | (go_at_call 128; (with_reducible refine (l2Less_any _ _ _ _ _ _ _ _ (by omega) (hit.drew.below hb5) ho5.ints).mono ?_); rintro e w6 ⟨p6, c6, rfl, ho6, hb6⟩; replace cc := belowCell hb6 cc; replace ft := belowFrz hb6 ct ft; replace ct := belowCell hb6 ct; replace cec := belowCell hb6 cec; replace cet := belowCell hb6 cet; have hg6 := Nat.lt_of_lt_of_le hg5 hb6.size)))
                           | go_simp
                         refine hK.out _ _ ?_ (fun hHeld => ?_)
                         · ((try dsimp only); exact ⟨cc, cec, cet, ct⟩)
                         clear hK K
                         try simp only [Act.put, List.setIfInBounds_toArray, List.set_cons_zero, List.set_cons_succ])
                    first
                      | (refine WalkU.take (i := 27) (v := ?_) rfl (by kernel_rfl) (by kernel_rfl) (by kernel_rfl) (by kernel_rfl) (fun _ _ _ h => h) (Or.inl ⟨by rfl, ?_⟩) hHeld ?_
                         rotate_left
                         · (intro w hSw; (try dsimp only at hSw); go_simp; try with_reducible rfl)
                         try simp only [Act.put, List.setIfInBounds_toArray, List.set_cons_zero, List.set_cons_succ])
                      | (refine WalkU.take (i := 27) (v := undef) rfl (by kernel_rfl) (by kernel_rfl) (by kernel_rfl) (by kernel_rfl) (fun _ _ _ h => h) (Or.inr ⟨by rfl, rfl⟩) hHeld ?_
                         try simp only [Act.put, List.setIfInBounds_toArray, List.set_cons_zero, List.set_cons_succ])
                      | (refine WalkU.one (i := 27) rfl (by kernel_rfl) (fun K hK => ?_)
                         first
                           | (first | (go_at_call 129; (with_reducible refine (l3Floor_any _ _ _ Hdiag.out).mono ?_); rintro e w4 ⟨rfl, rfl⟩) | (go_at_call 123; (with_reducible refine (l2Scale_any _ _ _ _ _ _ (by omega) hic.drew).mono ?_); rintro e w5 ⟨p5, c5, rfl, ho5, hb5⟩; replace cc := belowCell hb5 cc; replace ft := belowFrz hb5 ct ft; replace ct := belowCell hb5 ct; replace cec := belowCell hb5 cec; replace cet := belowCell hb5 cet; have hg5 := Nat.lt_of_lt_of_le hgl.2.2 hb5.size) | (go_at_call 128; (with_reducible refine (l2Less_any _ _ _ _ _ _ _ _ (by omega) (hit.drew.below hb5) ho5.ints).mono ?_); rintro e w6 ⟨p6, c6, rfl, ho6, hb6⟩; replace cc := belowCell hb6 cc; replace ft := belowFrz hb6 ct ft; replace ct := belowCell hb6 ct; replace cec := belowCell hb6 cec; replace cet := belowCell hb6 cet; have hg6 := Nat.lt_of_lt_of_le hg5 hb6.size))
                           | (go_simp; (first | (go_at_call 129; (with_reducible refine (l3Floor_any _ _ _ Hdiag.out).mono ?_); rintro e w4 ⟨rfl, rfl⟩) | (go_at_call 123; (with_reducible refine (l2Scale_any _ _ _ _ _ _ (by omega) hic.drew).mono ?_); rintro e w5 ⟨p5, c5, rfl, ho5, hb5⟩; replace cc := belowCell hb5 cc; replace ft := belowFrz hb5 ct ft; replace ct := belowCell hb5 ct; replace cec := belowCell hb5 cec; replace cet := belowCell hb5 cet; have hg5 := Nat.lt_of_lt_of_le hgl.2.2 hb5.size) | (go_at_call 128; (with_reducible refine (l2Less_any _ _ _ _ _ _ _ _ (by omega) (hit.drew.below hb5) ho5.ints).mono ?_); rintro e w6 ⟨p6, c6, rfl, ho6, hb6⟩; replace cc := belowCell hb6 cc; replace ft := belowFrz hb6 ct ft; replace ct := belowCell hb6 ct; replace cec := belowCell hb6 cec; replace cet := belowCell hb6 cet; have hg6 := Nat.lt_of_lt_of_le hg5 hb6.size)))
                           | go_simp
                         refine hK.out _ _ ?_ (fun hHeld => ?_)
                         · ((try dsimp only); exact ⟨cc, cec, cet, ct⟩)
                         clear hK K
                         try simp only [Act.put, List.setIfInBounds_toArray, List.set_cons_zero, List.set_cons_succ])
                    first
                      | (refine WalkU.last (i := 28) rfl rfl (by kernel_rfl) (by kernel_rfl) (fun K hK => ?_)
                         first
                           | (first | (go_at_call 129; (with_reducible refine (l3Floor_any _ _ _ Hdiag.out).mono ?_); rintro e w4 ⟨rfl, rfl⟩) | (go_at_call 123; (with_reducible refine (l2Scale_any _ _ _ _ _ _ (by omega) hic.drew).mono ?_); rintro e w5 ⟨p5, c5, rfl, ho5, hb5⟩; replace cc := belowCell hb5 cc; replace ft := belowFrz hb5 ct ft; replace ct := belowCell hb5 ct; replace cec := belowCell hb5 cec; replace cet := belowCell hb5 cet; have hg5 := Nat.lt_of_lt_of_le hgl.2.2 hb5.size) | (go_at_call 128; (with_reducible refine (l2Less_any _ _ _ _ _ _ _ _ (by omega) (hit.drew.below hb5) ho5.ints).mono ?_); rintro e w6 ⟨p6, c6, rfl, ho6, hb6⟩; replace cc := belowCell hb6 cc; replace ft := belowFrz hb6 ct ft; replace ct := belowCell hb6 ct; replace cec := belowCell hb6 cec; replace cet := belowCell hb6 cet; have hg6 := Nat.lt_of_lt_of_le hg5 hb6.size))
                           | (go_simp; (first | (go_at_call 129; (with_reducible refine (l3Floor_any _ _ _ Hdiag.out).mono ?_); rintro e w4 ⟨rfl, rfl⟩) | (go_at_call 123; (with_reducible refine (l2Scale_any _ _ _ _ _ _ (by omega) hic.drew).mono ?_); rintro e w5 ⟨p5, c5, rfl, ho5, hb5⟩; replace cc := belowCell hb5 cc; replace ft := belowFrz hb5 ct ft; replace ct := belowCell hb5 ct; replace cec := belowCell hb5 cec; replace cet := belowCell hb5 cet; have hg5 := Nat.lt_of_lt_of_le hgl.2.2 hb5.size) | (go_at_call 128; (with_reducible refine (l2Less_any _ _ _ _ _ _ _ _ (by omega) (hit.drew.below hb5) ho5.ints).mono ?_); rintro e w6 ⟨p6, c6, rfl, ho6, hb6⟩; replace cc := belowCell hb6 cc; replace ft := belowFrz hb6 ct ft; replace ct := belowCell hb6 ct; replace cec := belowCell hb6 cec; replace cet := belowCell hb6 cet; have hg6 := Nat.lt_of_lt_of_le hg5 hb6.size)))
                           | go_simp
                         refine hK.out _ _ ?_
                         clear hK K
                         try simp only [Act.put, List.setIfInBounds_toArray, List.set_cons_zero, List.set_cons_succ])
                    · have hbd := (drewBelow wr).trans hb5
                      have hb7 := Below.step hbd hb6
                      have hst := (HK.out.below hb7).store (ho6.widen (Nat.le_trans hbd.size (Nat.le_refl _)) (Nat.le_refl _)) hbT.size hb7.size t (by omega)
                      rw [HS.out] at hst
                      change Own2 _ _ _ _ _ _ _ (redH c t T) at hst
                      go_wp2
                      go_roundw
                      case rel => exact ⟨t + 1, _, by omega, by go_num, by rw [HR.out]; exact hst.up', by rw [HR.out]; exact HTn, (Below.step hbT hb7).setCell (p := ⟨g, t, none⟩) hgl.1 _⟩
                      case measure => simp [intOf]; omega
                  · have e : t = c := by omega
                    subst e
                    go_wp2
                    go_roundw
                    case rel => exact ⟨t + 1, rows, by omega, by go_num, by rw [Hcol.out]; exact hown, by rw [Hcol.out]; exact HT.out.1.next HT.out.2, hbT⟩
                    case measure => simp [intOf]; omega
              · have hN : negIf c Md = Md := by rw [negIf, if_neg h0]
                have h0' : 0 ≤ ent Md c c := by omega
                have HN : Hid (Inv r c (negIf c Md) ∧ ZC c r (negIf c Md)) := by
                  show _ ∧ _
                  rw [hN]; exact HId.out
                have HNe := Lib.hid hN
                rw [← hN] at hown
                clear hN h0
                generalize negIf c Md = N0 at *
                go_wp2
                go_loopw [9] (fun i wr => ∃ (t : Nat) (rows : List Row), t ≤ c ∧ i = .int .i64 t ∧ Own2 wr w.heap.size wr.heap.size (some ⟨g, 0, none⟩) r c' rows (redTo c N0 t) ∧ Hid (Inv r c (redTo c N0 t) ∧ ZC c r (redTo c N0 t)) ∧ Below w.heap.size w wr) (fun i _ => c - (intOf i).toNat)
                case atStart => exact ⟨0, _, Nat.zero_le _, rfl, hown.up', HN, hb⟩
                case round =>
                  obtain ⟨t, rows, ht, rfl, hown, HT, hbT⟩ := hrel
                  by_cases hlt4 : t < c
                  · have hcnt := hown.count
                    have hsq := HT.out.1.good.sq
                    have htn : t < r := by omega
                    have htr : t < rows.length := by omega
                    have hcr2 : c < rows.length := by omega
                    have hdiag := HT.out.1.diag h3 HT.out.2 hlt
                    have HTn : Hid (Inv r c (redH c t (redTo c N0 t)) ∧ ZC c r (redH c t (redTo c N0 t))) := ⟨HT.out.1.red h3 hlt4 hlt, HT.out.2.red HT.out.1.good hlt4 hlt⟩
                    obtain ⟨bt, ebt, ent', hcapt, cet⟩ := hown.cellEnt hsq htr (show c < r by omega)
                    obtain ⟨bc, ebc, enc, hcapc, cec⟩ := hown.cellEnt hsq hcr2 (show c < r by omega)
                    have ct := hown.cellRow htr
                    have cc := hown.cellRow hcr2
                    have hic := (hown.inner c hcr2).ints
                    have hit := (hown.inner t htr).ints
                    rw [ebc, enc] at cc hic
                    rw [ebt, ent'] at ct hit
                    have hlenr : (nthR (redTo c N0 t) t).length = (nthR (redTo c N0 t) c).length := by rw [hsq.2 t htn, hsq.2 c hlt]
                    have HS : Hid (∀ q, lessW (nthR (redTo c N0 t) t) (scaleW (nthR (redTo c N0 t) c) q) = subRow (nthR (redTo c N0 t) t) q (nthR (redTo c N0 t) c)) := Lib.hid fun q => lessW_scale hlenr
                    have ng1 : bc ≠ g := fun h => by rw [h] at cec; rw [cec] at cc; cases cc
                    have ng2 : bt ≠ g := fun h => by rw [h] at cet; rw [cet] at cc; cases cc
                    have ft := hown.frz t
                    have hgl := (hown.outer.lt _ rfl)
                    have Hdiag := Lib.hid hdiag
                    have HK := Lib.hid hown
                    have HR : Hid (redTo c N0 (t + 1) = redH c t (redTo c N0 t)) := rfl
                    have hle : wr.heap.size ≤ wr.heap.size := Nat.le_refl _
                    clear hsq ebt ent' ebc enc hdiag hlenr hown
                    generalize hdt : rows[t].2.2 = dt at *
                    generalize hdc : rows[c].2.2 = dc at *
                    clear hdt hdc
                    generalize redTo c N0 t = T at *
                    go_wp2
                    refine wp_region_u 28 29 (fun w' => w'.cell? ⟨g, c, none⟩ = some (.slice (some ⟨bc, 0, none⟩) r dc) ∧ w'.cell? ⟨bc, c, none⟩ = some (.int .i64 (ent T c c)) ∧ w'.cell? ⟨bt, c, none⟩ = some (.int .i64 (ent T t c)) ∧ w'.cell? ⟨g, t, none⟩ = some (.slice (some ⟨bt, 0, none⟩) r dt)) (by kernel_rfl) rfl (by (try dsimp only); exact ⟨cc, cec, cet, ct⟩) (fun hHeld => ?_)
                    first
                      | (refine WalkU.take (i := 0) (v := ?_) rfl (by kernel_rfl) (by kernel_rfl) (by kernel_rfl) (by kernel_rfl) (fun _ _ _ h => h) (Or.inl ⟨by rfl, ?_⟩) hHeld ?_
                         rotate_left
                         · (intro w hSw; (try dsimp only at hSw); go_simp; try with_reducible rfl)
                         try simp only [Act.put, List.setIfInBounds_toArray, List.set_cons_zero, List.set_cons_succ])
                      | (refine WalkU.take (i := 0) (v := undef) rfl (by kernel_rfl) (by kernel_rfl) (by kernel_rfl) (by kernel_rfl) (fun _ _ _ h => h) (Or.inr ⟨by rfl, rfl⟩) hHeld ?_
                         try simp only [Act.put, List.setIfInBounds_toArray, List.set_cons_zero, List.set_cons_succ])
                      | (refine WalkU.one (i := 0) rfl (by kernel_rfl) (fun K hK => ?_)
                         first
                           | (first | (go_at_call 129; (with_reducible refine (l3Floor_any _ _ _ Hdiag.out).mono ?_); rintro e w4 ⟨rfl, rfl⟩) | (go_at_call 123; (with_reducible refine (l2Scale_any _ _ _ _ _ _ (by omega) hic.drew).mono ?_); rintro e w5 ⟨p5, c5, rfl, ho5, hb5⟩; replace cc := belowCell hb5 cc; replace ft := belowFrz hb5 ct ft; replace ct := belowCell hb5 ct; replace cec := belowCell hb5 cec; replace cet := belowCell hb5 cet; have hg5 := Nat.lt_of_lt_of_le hgl.2.2 hb5.size) | (go_at_call 128; (with_reducible refine (l2Less_any _ _ _ _ _ _ _ _ (by omega) (hit.drew.below hb5) ho5.ints).mono ?_); rintro e w6 ⟨p6, c6, rfl, ho6, hb6⟩; replace cc := belowCell hb6 cc; replace ft := belowFrz hb6 ct ft; replace ct := belowCell hb6 ct; replace cec := belowCell hb6 cec; replace cet := belowCell hb6 cet; have hg6 := Nat.lt_of_lt_of_le hg5 hb6.size))
                           | (go_simp; (first | (go_at_call 129; (with_reducible refine (l3Floor_any _ _ _ Hdiag.out).mono ?_); rintro e w4 ⟨rfl, rfl⟩) | (go_at_call 123; (with_reducible refine (l2Scale_any _ _ _ _ _ _ (by omega) hic.drew).mono ?_); rintro e w5 ⟨p5, c5, rfl, ho5, hb5⟩; replace cc := belowCell hb5 cc; replace ft := belowFrz hb5 ct ft; replace ct := belowCell hb5 ct; replace cec := belowCell hb5 cec; replace cet := belowCell hb5 cet; have hg5 := Nat.lt_of_lt_of_le hgl.2.2 hb5.size) | (go_at_call 128; (with_reducible refine (l2Less_any _ _ _ _ _ _ _ _ (by omega) (hit.drew.below hb5) ho5.ints).mono ?_); rintro e w6 ⟨p6, c6, rfl, ho6, hb6⟩; replace cc := belowCell hb6 cc; replace ft := belowFrz hb6 ct ft; replace ct := belowCell hb6 ct; replace cec := belowCell hb6 cec; replace cet := belowCell hb6 cet; have hg6 := Nat.lt_of_lt_of_le hg5 hb6.size)))
                           | go_simp
                         refine hK.out _ _ ?_ (fun hHeld => ?_)
                         · ((try dsimp only); exact ⟨cc, cec, cet, ct⟩)
                         clear hK K
                         try simp only [Act.put, List.setIfInBounds_toArray, List.set_cons_zero, List.set_cons_succ])
                    first
                      | (refine WalkU.take (i := 1) (v := ?_) rfl (by kernel_rfl) (by kernel_rfl) (by kernel_rfl) (by kernel_rfl) (fun _ _ _ h => h) (Or.inl ⟨by rfl, ?_⟩) hHeld ?_
                         rotate_left
                         · (intro w hSw; (try dsimp only at hSw); go_simp; try with_reducible rfl)
                         try simp only [Act.put, List.setIfInBounds_toArray, List.set_cons_zero, List.set_cons_succ])
                      | (refine WalkU.take (i := 1) (v := undef) rfl (by kernel_rfl) (by kernel_rfl) (by kernel_rfl) (by kernel_rfl) (fun _ _ _ h => h) (Or.inr ⟨by rfl, rfl⟩) hHeld ?_
                         try simp only [Act.put, List.setIfInBounds_toArray, List.set_cons_zero, List.set_cons_succ])
                      | (refine WalkU.one (i := 1) rfl (by kernel_rfl) (fun K hK => ?_)
                         first
                           | (first | (go_at_call 129; (with_reducible refine (l3Floor_any _ _ _ Hdiag.out).mono ?_); rintro e w4 ⟨rfl, rfl⟩) | (go_at_call 123; (with_reducible refine (l2Scale_any _ _ _ _ _ _ (by omega) hic.drew).mono ?_); rintro e w5 ⟨p5, c5, rfl, ho5, hb5⟩; replace cc := belowCell hb5 cc; replace ft := belowFrz hb5 ct ft; replace ct := belowCell hb5 ct; replace cec := belowCell hb5 cec; replace cet := belowCell hb5 cet; have hg5 := Nat.lt_of_lt_of_le hgl.2.2 hb5.size) | (go_at_call 128; (with_reducible refine (l2Less_any _ _ _ _ _ _ _ _ (by omega) (hit.drew.below hb5) ho5.ints).mono ?_); rintro e w6 ⟨p6, c6, rfl, ho6, hb6⟩; replace cc := belowCell hb6 cc; replace ft := belowFrz hb6 ct ft; replace ct := belowCell hb6 ct; replace cec := belowCell hb6 cec; replace cet := belowCell hb6 cet; have hg6 := Nat.lt_of_lt_of_le hg5 hb6.size))
                           | (go_simp; (first | (go_at_call 129; (with_reducible refine (l3Floor_any _ _ _ Hdiag.out).mono ?_); rintro e w4 ⟨rfl, rfl⟩) | (go_at_call 123; (with_reducible refine (l2Scale_any _ _ _ _ _ _ (by omega) hic.drew).mono ?_); rintro e w5 ⟨p5, c5, rfl, ho5, hb5⟩; replace cc := belowCell hb5 cc; replace ft := belowFrz hb5 ct ft; replace ct := belowCell hb5 ct; replace cec := belowCell hb5 cec; replace cet := belowCell hb5 cet; have hg5 := Nat.lt_of_lt_of_le hgl.2.2 hb5.size) | (go_at_call 128; (with_reducible refine (l2Less_any _ _ _ _ _ _ _ _ (by omega) (hit.drew.below hb5) ho5.ints).mono ?_); rintro e w6 ⟨p6, c6, rfl, ho6, hb6⟩; replace cc := belowCell hb6 cc; replace ft := belowFrz hb6 ct ft; replace ct := belowCell hb6 ct; replace cec := belowCell hb6 cec; replace cet := belowCell hb6 cet; have hg6 := Nat.lt_of_lt_of_le hg5 hb6.size)))
                           | go_simp
                         refine hK.out _ _ ?_ (fun hHeld => ?_)
                         · ((try dsimp only); exact ⟨cc, cec, cet, ct⟩)
                         clear hK K
                         try simp only [Act.put, List.setIfInBounds_toArray, List.set_cons_zero, List.set_cons_succ])
                    first
                      | (refine WalkU.take (i := 2) (v := ?_) rfl (by kernel_rfl) (by kernel_rfl) (by kernel_rfl) (by kernel_rfl) (fun _ _ _ h => h) (Or.inl ⟨by rfl, ?_⟩) hHeld ?_
                         rotate_left
                         · (intro w hSw; (try dsimp only at hSw); go_simp; try with_reducible rfl)
                         try simp only [Act.put, List.setIfInBounds_toArray, List.set_cons_zero, List.set_cons_succ])
                      | (refine WalkU.take (i := 2) (v := undef) rfl (by kernel_rfl) (by kernel_rfl) (by kernel_rfl) (by kernel_rfl) (fun _ _ _ h => h) (Or.inr ⟨by rfl, rfl⟩) hHeld ?_
                         try simp only [Act.put, List.setIfInBounds_toArray, List.set_cons_zero, List.set_cons_succ])
                      | (refine WalkU.one (i := 2) rfl (by kernel_rfl) (fun K hK => ?_)
                         first
                           | (first | (go_at_call 129; (with_reducible refine (l3Floor_any _ _ _ Hdiag.out).mono ?_); rintro e w4 ⟨rfl, rfl⟩) | (go_at_call 123; (with_reducible refine (l2Scale_any _ _ _ _ _ _ (by omega) hic.drew).mono ?_); rintro e w5 ⟨p5, c5, rfl, ho5, hb5⟩; replace cc := belowCell hb5 cc; replace ft := belowFrz hb5 ct ft; replace ct := belowCell hb5 ct; replace cec := belowCell hb5 cec; replace cet := belowCell hb5 cet; have hg5 := Nat.lt_of_lt_of_le hgl.2.2 hb5.size) | (go_at_call 128; (with_reducible refine (l2Less_any _ _ _ _ _ _ _ _ (by omega) (hit.drew.below hb5) ho5.ints).mono ?_); rintro e w6 ⟨p6, c6, rfl, ho6, hb6⟩; replace cc := belowCell hb6 cc; replace ft := belowFrz hb6 ct ft; replace ct := belowCell hb6 ct; replace cec := belowCell hb6 cec; replace cet := belowCell hb6 cet; have hg6 := Nat.lt_of_lt_of_le hg5 hb6.size))
                           | (go_simp; (first | (go_at_call 129; (with_reducible refine (l3Floor_any _ _ _ Hdiag.out).mono ?_); rintro e w4 ⟨rfl, rfl⟩) | (go_at_call 123; (with_reducible refine (l2Scale_any _ _ _ _ _ _ (by omega) hic.drew).mono ?_); rintro e w5 ⟨p5, c5, rfl, ho5, hb5⟩; replace cc := belowCell hb5 cc; replace ft := belowFrz hb5 ct ft; replace ct := belowCell hb5 ct; replace cec := belowCell hb5 cec; replace cet := belowCell hb5 cet; have hg5 := Nat.lt_of_lt_of_le hgl.2.2 hb5.size) | (go_at_call 128; (with_reducible refine (l2Less_any _ _ _ _ _ _ _ _ (by omega) (hit.drew.below hb5) ho5.ints).mono ?_); rintro e w6 ⟨p6, c6, rfl, ho6, hb6⟩; replace cc := belowCell hb6 cc; replace ft := belowFrz hb6 ct ft; replace ct := belowCell hb6 ct; replace cec := belowCell hb6 cec; replace cet := belowCell hb6 cet; have hg6 := Nat.lt_of_lt_of_le hg5 hb6.size)))
                           | go_simp
                         refine hK.out _ _ ?_ (fun hHeld => ?_)
                         · ((try dsimp only); exact ⟨cc, cec, cet, ct⟩)
                         clear hK K
                         try simp only [Act.put, List.setIfInBounds_toArray, List.set_cons_zero, List.set_cons_succ])
                    first
                      | (refine WalkU.take (i := 3) (v := ?_) rfl (by kernel_rfl) (by kernel_rfl) (by kernel_rfl) (by kernel_rfl) (fun _ _ _ h => h) (Or.inl ⟨by rfl, ?_⟩) hHeld ?_
                         rotate_left
                         · (intro w hSw; (try dsimp only at hSw); go_simp; try with_reducible rfl)
                         try simp only [Act.put, List.setIfInBounds_toArray, List.set_cons_zero, List.set_cons_succ])
                      | (refine WalkU.take (i := 3) (v := undef) rfl (by kernel_rfl) (by kernel_rfl) (by kernel_rfl) (by kernel_rfl) (fun _ _ _ h => h) (Or.inr ⟨by rfl, rfl⟩) hHeld ?_
                         try simp only [Act.put, List.setIfInBounds_toArray, List.set_cons_zero, List.set_cons_succ])
                      | (refine WalkU.one (i := 3) rfl (by kernel_rfl) (fun K hK => ?_)
                         first
                           | (first | (go_at_call 129; (with_reducible refine (l3Floor_any _ _ _ Hdiag.out).mono ?_); rintro e w4 ⟨rfl, rfl⟩) | (go_at_call 123; (with_reducible refine (l2Scale_any _ _ _ _ _ _ (by omega) hic.drew).mono ?_); rintro e w5 ⟨p5, c5, rfl, ho5, hb5⟩; replace cc := belowCell hb5 cc; replace ft := belowFrz hb5 ct ft; replace ct := belowCell hb5 ct; replace cec := belowCell hb5 cec; replace cet := belowCell hb5 cet; have hg5 := Nat.lt_of_lt_of_le hgl.2.2 hb5.size) | (go_at_call 128; (with_reducible refine (l2Less_any _ _ _ _ _ _ _ _ (by omega) (hit.drew.below hb5) ho5.ints).mono ?_); rintro e w6 ⟨p6, c6, rfl, ho6, hb6⟩; replace cc := belowCell hb6 cc; replace ft := belowFrz hb6 ct ft; replace ct := belowCell hb6 ct; replace cec := belowCell hb6 cec; replace cet := belowCell hb6 cet; have hg6 := Nat.lt_of_lt_of_le hg5 hb6.size))
                           | (go_simp; (first | (go_at_call 129; (with_reducible refine (l3Floor_any _ _ _ Hdiag.out).mono ?_); rintro e w4 ⟨rfl, rfl⟩) | (go_at_call 123; (with_reducible refine (l2Scale_any _ _ _ _ _ _ (by omega) hic.drew).mono ?_); rintro e w5 ⟨p5, c5, rfl, ho5, hb5⟩; replace cc := belowCell hb5 cc; replace ft := belowFrz hb5 ct ft; replace ct := belowCell hb5 ct; replace cec := belowCell hb5 cec; replace cet := belowCell hb5 cet; have hg5 := Nat.lt_of_lt_of_le hgl.2.2 hb5.size) | (go_at_call 128; (with_reducible refine (l2Less_any _ _ _ _ _ _ _ _ (by omega) (hit.drew.below hb5) ho5.ints).mono ?_); rintro e w6 ⟨p6, c6, rfl, ho6, hb6⟩; replace cc := belowCell hb6 cc; replace ft := belowFrz hb6 ct ft; replace ct := belowCell hb6 ct; replace cec := belowCell hb6 cec; replace cet := belowCell hb6 cet; have hg6 := Nat.lt_of_lt_of_le hg5 hb6.size)))
                           | go_simp
                         refine hK.out _ _ ?_ (fun hHeld => ?_)
                         · ((try dsimp only); exact ⟨cc, cec, cet, ct⟩)
                         clear hK K
                         try simp only [Act.put, List.setIfInBounds_toArray, List.set_cons_zero, List.set_cons_succ])
                    first
                      | (refine WalkU.take (i := 4) (v := ?_) rfl (by kernel_rfl) (by kernel_rfl) (by kernel_rfl) (by kernel_rfl) (fun _ _ _ h => h) (Or.inl ⟨by rfl, ?_⟩) hHeld ?_
                         rotate_left
                         · (intro w hSw; (try dsimp only at hSw); go_simp; try with_reducible rfl)
                         try simp only [Act.put, List.setIfInBounds_toArray, List.set_cons_zero, List.set_cons_succ])
                      | (refine WalkU.take (i := 4) (v := undef) rfl (by kernel_rfl) (by kernel_rfl) (by kernel_rfl) (by kernel_rfl) (fun _ _ _ h => h) (Or.inr ⟨by rfl, rfl⟩) hHeld ?_
                         try simp only [Act.put, List.setIfInBounds_toArray, List.set_cons_zero, List.set_cons_succ])
                      | (refine WalkU.one (i := 4) rfl (by kernel_rfl) (fun K hK => ?_)
                         first
                           | (first | (go_at_call 129; (with_reducible refine (l3Floor_any _ _ _ Hdiag.out).mono ?_); rintro e w4 ⟨rfl, rfl⟩) | (go_at_call 123; (with_reducible refine (l2Scale_any _ _ _ _ _ _ (by omega) hic.drew).mono ?_); rintro e w5 ⟨p5, c5, rfl, ho5, hb5⟩; replace cc := belowCell hb5 cc; replace ft := belowFrz hb5 ct ft; replace ct := belowCell hb5 ct; replace cec := belowCell hb5 cec; replace cet := belowCell hb5 cet; have hg5 := Nat.lt_of_lt_of_le hgl.2.2 hb5.size) | (go_at_call 128; (with_reducible refine (l2Less_any _ _ _ _ _ _ _ _ (by omega) (hit.drew.below hb5) ho5.ints).mono ?_); rintro e w6 ⟨p6, c6, rfl, ho6, hb6⟩; replace cc := belowCell hb6 cc; replace ft := belowFrz hb6 ct ft; replace ct := belowCell hb6 ct; replace cec := belowCell hb6 cec; replace cet := belowCell hb6 cet; have hg6 := Nat.lt_of_lt_of_le hg5 hb6.size))
                           | (go_simp; (first | (go_at_call 129; (with_reducible refine (l3Floor_any _ _ _ Hdiag.out).mono ?_); rintro e w4 ⟨rfl, rfl⟩) | (go_at_call 123; (with_reducible refine (l2Scale_any _ _ _ _ _ _ (by omega) hic.drew).mono ?_); rintro e w5 ⟨p5, c5, rfl, ho5, hb5⟩; replace cc := belowCell hb5 cc; replace ft := belowFrz hb5 ct ft; replace ct := belowCell hb5 ct; replace cec := belowCell hb5 cec; replace cet := belowCell hb5 cet; have hg5 := Nat.lt_of_lt_of_le hgl.2.2 hb5.size) | (go_at_call 128; (with_reducible refine (l2Less_any _ _ _ _ _ _ _ _ (by omega) (hit.drew.below hb5) ho5.ints).mono ?_); rintro e w6 ⟨p6, c6, rfl, ho6, hb6⟩; replace cc := belowCell hb6 cc; replace ft := belowFrz hb6 ct ft; replace ct := belowCell hb6 ct; replace cec := belowCell hb6 cec; replace cet := belowCell hb6 cet; have hg6 := Nat.lt_of_lt_of_le hg5 hb6.size)))
                           | go_simp
                         refine hK.out _ _ ?_ (fun hHeld => ?_)
                         · ((try dsimp only); exact ⟨cc, cec, cet, ct⟩)
                         clear hK K
                         try simp only [Act.put, List.setIfInBounds_toArray, List.set_cons_zero, List.set_cons_succ])
                    first
                      | (refine WalkU.take (i := 5) (v := ?_) rfl (by kernel_rfl) (by kernel_rfl) (by kernel_rfl) (by kernel_rfl) (fun _ _ _ h => h) (Or.inl ⟨by rfl, ?_⟩) hHeld ?_
                         rotate_left
                         · (intro w hSw; (try dsimp only at hSw); go_simp; try with_reducible rfl)
                         try simp only [Act.put, List.setIfInBounds_toArray, List.set_cons_zero, List.set_cons_succ])
                      | (refine WalkU.take (i := 5) (v := undef) rfl (by kernel_rfl) (by kernel_rfl) (by kernel_rfl) (by kernel_rfl) (fun _ _ _ h => h) (Or.inr ⟨by rfl, rfl⟩) hHeld ?_
                         try simp only [Act.put, List.setIfInBounds_toArray, List.set_cons_zero, List.set_cons_succ])
                      | (refine WalkU.one (i := 5) rfl (by kernel_rfl) (fun K hK => ?_)
                         first
                           | (first | (go_at_call 129; (with_reducible refine (l3Floor_any _ _ _ Hdiag.out).mono ?_); rintro e w4 ⟨rfl, rfl⟩) | (go_at_call 123; (with_reducible refine (l2Scale_any _ _ _ _ _ _ (by omega) hic.drew).mono ?_); rintro e w5 ⟨p5, c5, rfl, ho5, hb5⟩; replace cc := belowCell hb5 cc; replace ft := belowFrz hb5 ct ft; replace ct := belowCell hb5 ct; replace cec := belowCell hb5 cec; replace cet := belowCell hb5 cet; have hg5 := Nat.lt_of_lt_of_le hgl.2.2 hb5.size) | (go_at_call 128; (with_reducible refine (l2Less_any _ _ _ _ _ _ _ _ (by omega) (hit.drew.below hb5) ho5.ints).mono ?_); rintro e w6 ⟨p6, c6, rfl, ho6, hb6⟩; replace cc := belowCell hb6 cc; replace ft := belowFrz hb6 ct ft; replace ct := belowCell hb6 ct; replace cec := belowCell hb6 cec; replace cet := belowCell hb6 cet; have hg6 := Nat.lt_of_lt_of_le hg5 hb6.size))
                           | (go_simp; (first | (go_at_call 129; (with_reducible refine (l3Floor_any _ _ _ Hdiag.out).mono ?_); rintro e w4 ⟨rfl, rfl⟩) | (go_at_call 123; (with_reducible refine (l2Scale_any _ _ _ _ _ _ (by omega) hic.drew).mono ?_); rintro e w5 ⟨p5, c5, rfl, ho5, hb5⟩; replace cc := belowCell hb5 cc; replace ft := belowFrz hb5 ct ft; replace ct := belowCell hb5 ct; replace cec := belowCell hb5 cec; replace cet := belowCell hb5 cet; have hg5 := Nat.lt_of_lt_of_le hgl.2.2 hb5.size) | (go_at_call 128; (with_reducible refine (l2Less_any _ _ _ _ _ _ _ _ (by omega) (hit.drew.below hb5) ho5.ints).mono ?_); rintro e w6 ⟨p6, c6, rfl, ho6, hb6⟩; replace cc := belowCell hb6 cc; replace ft := belowFrz hb6 ct ft; replace ct := belowCell hb6 ct; replace cec := belowCell hb6 cec; replace cet := belowCell hb6 cet; have hg6 := Nat.lt_of_lt_of_le hg5 hb6.size)))
                           | go_simp
                         refine hK.out _ _ ?_ (fun hHeld => ?_)
                         · ((try dsimp only); exact ⟨cc, cec, cet, ct⟩)
                         clear hK K
                         try simp only [Act.put, List.setIfInBounds_toArray, List.set_cons_zero, List.set_cons_succ])
                    first
                      | (refine WalkU.take (i := 6) (v := ?_) rfl (by kernel_rfl) (by kernel_rfl) (by kernel_rfl) (by kernel_rfl) (fun _ _ _ h => h) (Or.inl ⟨by rfl, ?_⟩) hHeld ?_
                         rotate_left
                         · (intro w hSw; (try dsimp only at hSw); go_simp; try with_reducible rfl)
                         try simp only [Act.put, List.setIfInBounds_toArray, List.set_cons_zero, List.set_cons_succ])
                      | (refine WalkU.take (i := 6) (v := undef) rfl (by kernel_rfl) (by kernel_rfl) (by kernel_rfl) (by kernel_rfl) (fun _ _ _ h => h) (Or.inr ⟨by rfl, rfl⟩) hHeld ?_
                         try simp only [Act.put, List.setIfInBounds_toArray, List.set_cons_zero, List.set_cons_succ])
                      | (refine WalkU.one (i := 6) rfl (by kernel_rfl) (fun K hK => ?_)
                         first
                           | (first | (go_at_call 129; (with_reducible refine (l3Floor_any _ _ _ Hdiag.out).mono ?_); rintro e w4 ⟨rfl, rfl⟩) | (go_at_call 123; (with_reducible refine (l2Scale_any _ _ _ _ _ _ (by omega) hic.drew).mono ?_); rintro e w5 ⟨p5, c5, rfl, ho5, hb5⟩; replace cc := belowCell hb5 cc; replace ft := belowFrz hb5 ct ft; replace ct := belowCell hb5 ct; replace cec := belowCell hb5 cec; replace cet := belowCell hb5 cet; have hg5 := Nat.lt_of_lt_of_le hgl.2.2 hb5.size) | (go_at_call 128; (with_reducible refine (l2Less_any _ _ _ _ _ _ _ _ (by omega) (hit.drew.below hb5) ho5.ints).mono ?_); rintro e w6 ⟨p6, c6, rfl, ho6, hb6⟩; replace cc := belowCell hb6 cc; replace ft := belowFrz hb6 ct ft; replace ct := belowCell hb6 ct; replace cec := belowCell hb6 cec; replace cet := belowCell hb6 cet; have hg6 := Nat.lt_of_lt_of_le hg5 hb6.size))
                           | (go_simp; (first | (go_at_call 129; (with_reducible refine (l3Floor_any _ _ _ Hdiag.out).mono ?_); rintro e w4 ⟨rfl, rfl⟩) | (go_at_call 123; (with_reducible refine (l2Scale_any _ _ _ _ _ _ (by omega) hic.drew).mono ?_); rintro e w5 ⟨p5, c5, rfl, ho5, hb5⟩; replace cc := belowCell hb5 cc; replace ft := belowFrz hb5 ct ft; replace ct := belowCell hb5 ct; replace cec := belowCell hb5 cec; replace cet := belowCell hb5 cet; have hg5 := Nat.lt_of_lt_of_le hgl.2.2 hb5.size) | (go_at_call 128; (with_reducible refine (l2Less_any _ _ _ _ _ _ _ _ (by omega) (hit.drew.below hb5) ho5.ints).mono ?_); rintro e w6 ⟨p6, c6, rfl, ho6, hb6⟩; replace cc := belowCell hb6 cc; replace ft := belowFrz hb6 ct ft; replace ct := belowCell hb6 ct; replace cec := belowCell hb6 cec; replace cet := belowCell hb6 cet; have hg6 := Nat.lt_of_lt_of_le hg5 hb6.size)))
                           | go_simp
                         refine hK.out _ _ ?_ (fun hHeld => ?_)
                         · ((try dsimp only); exact ⟨cc, cec, cet, ct⟩)
                         clear hK K
                         try simp only [Act.put, List.setIfInBounds_toArray, List.set_cons_zero, List.set_cons_succ])
                    first
                      | (refine WalkU.take (i := 7) (v := ?_) rfl (by kernel_rfl) (by kernel_rfl) (by kernel_rfl) (by kernel_rfl) (fun _ _ _ h => h) (Or.inl ⟨by rfl, ?_⟩) hHeld ?_
                         rotate_left
                         · (intro w hSw; (try dsimp only at hSw); go_simp; try with_reducible rfl)
                         try simp only [Act.put, List.setIfInBounds_toArray, List.set_cons_zero, List.set_cons_succ])
                      | (refine WalkU.take (i := 7) (v := undef) rfl (by kernel_rfl) (by kernel_rfl) (by kernel_rfl) (by kernel_rfl) (fun _ _ _ h => h) (Or.inr ⟨by rfl, rfl⟩) hHeld ?_
                         try simp only [Act.put, List.setIfInBounds_toArray, List.set_cons_zero, List.set_cons_succ])
                      | (refine WalkU.one (i := 7) rfl (by kernel_rfl) (fun K hK => ?_)
                         first
                           | (first | (go_at_call 129; (with_reducible refine (l3Floor_any _ _ _ Hdiag.out).mono ?_); rintro e w4 ⟨rfl, rfl⟩) | (go_at_call 123; (with_reducible refine (l2Scale_any _ _ _ _ _ _ (by omega) hic.drew).mono ?_); rintro e w5 ⟨p5, c5, rfl, ho5, hb5⟩; replace cc := belowCell hb5 cc; replace ft := belowFrz hb5 ct ft; replace ct := belowCell hb5 ct; replace cec := belowCell hb5 cec; replace cet := belowCell hb5 cet; have hg5 := Nat.lt_of_lt_of_le hgl.2.2 hb5.size) | (go_at_call 128; (with_reducible refine (l2Less_any _ _ _ _ _ _ _ _ (by omega) (hit.drew.below hb5) ho5.ints).mono ?_); rintro e w6 ⟨p6, c6, rfl, ho6, hb6⟩; replace cc := belowCell hb6 cc; replace ft := belowFrz hb6 ct ft; replace ct := belowCell hb6 ct; replace cec := belowCell hb6 cec; replace cet := belowCell hb6 cet; have hg6 := Nat.lt_of_lt_of_le hg5 hb6.size))
                           | (go_simp; (first | (go_at_call 129; (with_reducible refine (l3Floor_any _ _ _ Hdiag.out).mono ?_); rintro e w4 ⟨rfl, rfl⟩) | (go_at_call 123; (with_reducible refine (l2Scale_any _ _ _ _ _ _ (by omega) hic.drew).mono ?_); rintro e w5 ⟨p5, c5, rfl, ho5, hb5⟩; replace cc := belowCell hb5 cc; replace ft := belowFrz hb5 ct ft; replace ct := belowCell hb5 ct; replace cec := belowCell hb5 cec; replace cet := belowCell hb5 cet; have hg5 := Nat.lt_of_lt_of_le hgl.2.2 hb5.size) | (go_at_call 128; (with_reducible refine (l2Less_any _ _ _ _ _ _ _ _ (by omega) (hit.drew.below hb5) ho5.ints).mono ?_); rintro e w6 ⟨p6, c6, rfl, ho6, hb6⟩; replace cc := belowCell hb6 cc; replace ft := belowFrz hb6 ct ft; replace ct := belowCell hb6 ct; replace cec := belowCell hb6 cec; replace cet := belowCell hb6 cet; have hg6 := Nat.lt_of_lt_of_le hg5 hb6.size)))
                           | go_simp
                         refine hK.out _ _ ?_ (fun hHeld => ?_)
                         · ((try dsimp only); exact ⟨cc, cec, cet, ct⟩)
                         clear hK K
                         try simp only [Act.put, List.setIfInBounds_toArray, List.set_cons_zero, List.set_cons_succ])
                    first
                      | (refine WalkU.take (i := 8) (v := ?_) rfl (by kernel_rfl) (by kernel_rfl) (by kernel_rfl) (by kernel_rfl) (fun _ _ _ h => h) (Or.inl ⟨by rfl, ?_⟩) hHeld ?_
                         rotate_left
                         · (intro w hSw; (try dsimp only at hSw); go_simp; try with_reducible rfl)
                         try simp only [Act.put, List.setIfInBounds_toArray, List.set_cons_zero, List.set_cons_succ])
                      | (refine WalkU.take (i := 8) (v := undef) rfl (by kernel_rfl) (by kernel_rfl) (by kernel_rfl) (by kernel_rfl) (fun _ _ _ h => h) (Or.inr ⟨by rfl, rfl⟩) hHeld ?_
                         try simp only [Act.put, List.setIfInBounds_toArray, List.set_cons_zero, List.set_cons_succ])
                      | (refine WalkU.one (i := 8) rfl (by kernel_rfl) (fun K hK => ?_)
                         first
                           | (first | (go_at_call 129; (with_reducible refine (l3Floor_any _ _ _ Hdiag.out).mono ?_); rintro e w4 ⟨rfl, rfl⟩) | (go_at_call 123; (with_reducible refine (l2Scale_any _ _ _ _ _ _ (by omega) hic.drew).mono ?_); rintro e w5 ⟨p5, c5, rfl, ho5, hb5⟩; replace cc := belowCell hb5 cc; replace ft := belowFrz hb5 ct ft; replace ct := belowCell hb5 ct; replace cec := belowCell hb5 cec; replace cet := belowCell hb5 cet; have hg5 := Nat.lt_of_lt_of_le hgl.2.2 hb5.size) | (go_at_call 128; (with_reducible refine (l2Less_any _ _ _ _ _ _ _ _ (by omega) (hit.drew.below hb5) ho5.ints).mono ?_); rintro e w6 ⟨p6, c6, rfl, ho6, hb6⟩; replace cc := belowCell hb6 cc; replace ft := belowFrz hb6 ct ft; replace ct := belowCell hb6 ct; replace cec := belowCell hb6 cec; replace cet := belowCell hb6 cet; have hg6 := Nat.lt_of_lt_of_le hg5 hb6.size))
                           | (go_simp; (first | (go_at_call 129; (with_reducible refine (l3Floor_any _ _ _ Hdiag.out).mono ?_); rintro e w4 ⟨rfl, rfl⟩) | (go_at_call 123; (with_reducible refine (l2Scale_any _ _ _ _ _ _ (by omega) hic.drew).mono ?_); rintro e w5 ⟨p5, c5, rfl, ho5, hb5⟩; replace cc := belowCell hb5 cc; replace ft := belowFrz hb5 ct ft; replace ct := belowCell hb5 ct; replace cec := belowCell hb5 cec; replace cet := belowCell hb5 cet; have hg5 := Nat.lt_of_lt_of_le hgl.2.2 hb5.size) | (go_at_call 128; (with_reducible refine (l2Less_any _ _ _ _ _ _ _ _ (by omega) (hit.drew.below hb5) ho5.ints).mono ?_); rintro e w6 ⟨p6, c6, rfl, ho6, hb6⟩; replace cc := belowCell hb6 cc; replace ft := belowFrz hb6 ct ft; replace ct := belowCell hb6 ct; replace cec := belowCell hb6 cec; replace cet := belowCell hb6 cet; have hg6 := Nat.lt_of_lt_of_le hg5 hb6.size)))
                           | go_simp
                         refine hK.out _ _ ?_ (fun hHeld => ?_)
                         · ((try dsimp only); exact ⟨cc, cec, cet, ct⟩)
                         clear hK K
                         try simp only [Act.put, List.setIfInBounds_toArray, List.set_cons_zero, List.set_cons_succ])
                    first
                      | (refine WalkU.take (i := 9) (v := ?_) rfl (by kernel_rfl) (by kernel_rfl) (by kernel_rfl) (by kernel_rfl) (fun _ _ _ h => h) (Or.inl ⟨by rfl, ?_⟩) hHeld ?_
                         rotate_left
                         · (intro w hSw; (try dsimp only at hSw); go_simp; try with_reducible rfl)
                         try simp only [Act.put, List.setIfInBounds_toArray, List.set_cons_zero, List.set_cons_succ])
                      | (refine WalkU.take (i := 9) (v := undef) rfl (by kernel_rfl) (by kernel_rfl) (by kernel_rfl) (by kernel_rfl) (fun _ _ _ h => h) (Or.inr ⟨by rfl, rfl⟩) hHeld ?_
                         try simp only [Act.put, List.setIfInBounds_toArray, List.set_cons_zero, List.set_cons_succ])
                      | (refine WalkU.one (i := 9) rfl (by kernel_rfl) (fun K hK => ?_)
                         first
                           | (first | (go_at_call 129; (with_reducible refine (l3Floor_any _ _ _ Hdiag.out).mono ?_); rintro e w4 ⟨rfl, rfl⟩) | (go_at_call 123; (with_reducible refine (l2Scale_any _ _ _ _ _ _ (by omega) hic.drew).mono ?_); rintro e w5 ⟨p5, c5, rfl, ho5, hb5⟩; replace cc := belowCell hb5 cc; replace ft := belowFrz hb5 ct ft; replace ct := belowCell hb5 ct; replace cec := belowCell hb5 cec; replace cet := belowCell hb5 cet; have hg5 := Nat.lt_of_lt_of_le hgl.2.2 hb5.size) | (go_at_call 128; (with_reducible refine (l2Less_any _ _ _ _ _ _ _ _ (by omega) (hit.drew.below hb5) ho5.ints).mono ?_); rintro e w6 ⟨p6, c6, rfl, ho6, hb6⟩; replace cc := belowCell hb6 cc; replace ft := belowFrz hb6 ct ft; replace ct := belowCell hb6 ct; replace cec := belowCell hb6 cec; replace cet := belowCell hb6 cet; have hg6 := Nat.lt_of_lt_of_le hg5 hb6.size))
                           | (go_simp; (first | (go_at_call 129; (with_reducible refine (l3Floor_any _ _ _ Hdiag.out).mono ?_); rintro e w4 ⟨rfl, rfl⟩) | (go_at_call 123; (with_reducible refine (l2Scale_any _ _ _ _ _ _ (by omega) hic.drew).mono ?_); rintro e w5 ⟨p5, c5, rfl, ho5, hb5⟩; replace cc := belowCell hb5 cc; replace ft := belowFrz hb5 ct ft; replace ct := belowCell hb5 ct; replace cec := belowCell hb5 cec; replace cet := belowCell hb5 cet; have hg5 := Nat.lt_of_lt_of_le hgl.2.2 hb5.size) | (go_at_call 128; (with_reducible refine (l2Less_any _ _ _ _ _ _ _ _ (by omega) (hit.drew.below hb5) ho5.ints).mono ?_); rintro e w6 ⟨p6, c6, rfl, ho6, hb6⟩; replace cc := belowCell hb6 cc; replace ft := belowFrz hb6 ct ft; replace ct := belowCell hb6 ct; replace cec := belowCell hb6 cec; replace cet := belowCell hb6 cet; have hg6 := Nat.lt_of_lt_of_le hg5 hb6.size)))
                           | go_simp
                         refine hK.out _ _ ?_ (fun hHeld => ?_)
                         · ((try dsimp only); exact ⟨cc, cec, cet, ct⟩)
                         clear hK K
                         try simp only [Act.put, List.setIfInBounds_toArray, List.set_cons_zero, List.set_cons_succ])
                    first
                      | (refine WalkU.take (i := 10) (v := ?_) rfl (by kernel_rfl) (by kernel_rfl) (by kernel_rfl) (by kernel_rfl) (fun _ _ _ h => h) (Or.inl ⟨by rfl, ?_⟩) hHeld ?_
                         rotate_left
                         · (intro w hSw; (try dsimp only at hSw); go_simp; try with_reducible rfl)
                         try simp only [Act.put, List.setIfInBounds_toArray, List.set_cons_zero, List.set_cons_succ])
                      | (refine WalkU.take (i := 10) (v := undef) rfl (by kernel_rfl) (by kernel_rfl) (by kernel_rfl) (by kernel_rfl) (fun _ _ _ h => h) (Or.inr ⟨by rfl, rfl⟩) hHeld ?_
                         try simp only [Act.put, List.setIfInBounds_toArray, List.set_cons_zero, List.set_cons_succ])
                      | (refine WalkU.one (i := 10) rfl (by kernel_rfl) (fun K hK => ?_)
                         first
                           | (first | (go_at_call 129; (with_reducible refine (l3Floor_any _ _ _ Hdiag.out).mono ?_); rintro e w4 ⟨rfl, rfl⟩) | (go_at_call 123; (with_reducible refine (l2Scale_any _ _ _ _ _ _ (by omega) hic.drew).mono ?_); rintro e w5 ⟨p5, c5, rfl, ho5, hb5⟩; replace cc := belowCell hb5 cc; replace ft := belowFrz hb5 ct ft; replace ct := belowCell hb5 ct; replace cec := belowCell hb5 cec; replace cet := belowCell hb5 cet; have hg5 := Nat.lt_of_lt_of_le hgl.2.2 hb5.size) | (go_at_call 128; (with_reducible refine (l2Less_any _ _ _ _ _ _ _ _ (by omega) (hit.drew.below hb5) ho5.ints).mono ?_); rintro e w6 ⟨p6, c6, rfl, ho6, hb6⟩; replace cc := belowCell hb6 cc; replace ft := belowFrz hb6 ct ft; replace ct := belowCell hb6 ct; replace cec := belowCell hb6 cec; replace cet := belowCell hb6 cet; have hg6 := Nat.lt_of_lt_of_le hg5 hb6.size))
                           | (go_simp; (first | (go_at_call 129; (with_reducible refine (l3Floor_any _ _ _ Hdiag.out).mono ?_); rintro e w4 ⟨rfl, rfl⟩) | (go_at_call 123; (with_reducible refine (l2Scale_any _ _ _ _ _ _ (by omega) hic.drew).mono ?_); rintro e w5 ⟨p5, c5, rfl, ho5, hb5⟩; replace cc := belowCell hb5 cc; replace ft := belowFrz hb5 ct ft; replace ct := belowCell hb5 ct; replace cec := belowCell hb5 cec; replace cet := belowCell hb5 cet; have hg5 := Nat.lt_of_lt_of_le hgl.2.2 hb5.size) | (go_at_call 128; (with_reducible refine (l2Less_any _ _ _ _ _ _ _ _ (by omega) (hit.drew.below hb5) ho5.ints).mono ?_); rintro e w6 ⟨p6, c6, rfl, ho6, hb6⟩; replace cc := belowCell hb6 cc; replace ft := belowFrz hb6 ct ft; replace ct := belowCell hb6 ct; replace cec := belowCell hb6 cec; replace cet := belowCell hb6 cet; have hg6 := Nat.lt_of_lt_of_le hg5 hb6.size)))
                           | go_simp
                         refine hK.out _ _ ?_ (fun hHeld => ?_)
                         · ((try dsimp only); exact ⟨cc, cec, cet, ct⟩)
                         clear hK K
                         try simp only [Act.put, List.setIfInBounds_toArray, List.set_cons_zero, List.set_cons_succ])
                    first
                      | (refine WalkU.take (i := 11) (v := ?_) rfl (by kernel_rfl) (by kernel_rfl) (by kernel_rfl) (by kernel_rfl) (fun _ _ _ h => h) (Or.inl ⟨by rfl, ?_⟩) hHeld ?_
                         rotate_left
                         · (intro w hSw; (try dsimp only at hSw); go_simp; try with_reducible rfl)
                         try simp only [Act.put, List.setIfInBounds_toArray, List.set_cons_zero, List.set_cons_succ])
                      | (refine WalkU.take (i := 11) (v := undef) rfl (by kernel_rfl) (by kernel_rfl) (by kernel_rfl) (by kernel_rfl) (fun _ _ _ h => h) (Or.inr ⟨by rfl, rfl⟩) hHeld ?_
                         try simp only [Act.put, List.setIfInBounds_toArray, List.set_cons_zero, List.set_cons_succ])
                      | (refine WalkU.one (i := 11) rfl (by kernel_rfl) (fun K hK => ?_)
                         first
                           | (first | (go_at_call 129; (with_reducible refine (l3Floor_any _ _ _ Hdiag.out).mono ?_); rintro e w4 ⟨rfl, rfl⟩) | (go_at_call 123; (with_reducible refine (l2Scale_any _ _ _ _ _ _ (by omega) hic.drew).mono ?_); rintro e w5 ⟨p5, c5, rfl, ho5, hb5⟩; replace cc := belowCell hb5 cc; replace ft := belowFrz hb5 ct ft; replace ct := belowCell hb5 ct; replace cec := belowCell hb5 cec; replace cet := belowCell hb5 cet; have hg5 := Nat.lt_of_lt_of_le hgl.2.2 hb5.size) | (go_at_call 128; (with_reducible refine (l2Less_any _ _ _ _ _ _ _ _ (by omega) (hit.drew.below hb5) ho5.ints).mono ?_); rintro e w6 ⟨p6, c6, rfl, ho6, hb6⟩; replace cc := belowCell hb6 cc; replace ft := belowFrz hb6 ct ft; replace ct := belowCell hb6 ct; replace cec := belowCell hb6 cec; replace cet := belowCell hb6 cet; have hg6 := Nat.lt_of_lt_of_le hg5 hb6.size))
                           | (go_simp; (first | (go_at_call 129; (with_reducible refine (l3Floor_any _ _ _ Hdiag.out).mono ?_); rintro e w4 ⟨rfl, rfl⟩) | (go_at_call 123; (with_reducible refine (l2Scale_any _ _ _ _ _ _ (by omega) hic.drew).mono ?_); rintro e w5 ⟨p5, c5, rfl, ho5, hb5⟩; replace cc := belowCell hb5 cc; replace ft := belowFrz hb5 ct ft; replace ct := belowCell hb5 ct; replace cec := belowCell hb5 cec; replace cet := belowCell hb5 cet; have hg5 := Nat.lt_of_lt_of_le hgl.2.2 hb5.size) | (go_at_call 128; (with_reducible refine (l2Less_any _ _ _ _ _ _ _ _ (by omega) (hit.drew.below hb5) ho5.ints).mono ?_); rintro e w6 ⟨p6, c6, rfl, ho6, hb6⟩; replace cc := belowCell hb6 cc; replace ft := belowFrz hb6 ct ft; replace ct := belowCell hb6 ct; replace cec := belowCell hb6 cec; replace cet := belowCell hb6 cet; have hg6 := Nat.lt_of_lt_of_le hg5 hb6.size)))
                           | go_simp
                         refine hK.out _ _ ?_ (fun hHeld => ?_)
                         · ((try dsimp only); exact ⟨cc, cec, cet, ct⟩)
                         clear hK K
                         try simp only [Act.put, List.setIfInBounds_toArray, List.set_cons_zero, List.set_cons_succ])
                    first
                      | (refine WalkU.take (i := 12) (v := ?_) rfl (by kernel_rfl) (by kernel_rfl) (by kernel_rfl) (by kernel_rfl) (fun _ _ _ h => h) (Or.inl ⟨by rfl, ?_⟩) hHeld ?_
                         rotate_left
                         · (intro w hSw; (try dsimp only at hSw); go_simp; try with_reducible rfl)
                         try simp only [Act.put, List.setIfInBounds_toArray, List.set_cons_zero, List.set_cons_succ])
                      | (refine WalkU.take (i := 12) (v := undef) rfl (by kernel_rfl) (by kernel_rfl) (by kernel_rfl) (by kernel_rfl) (fun _ _ _ h => h) (Or.inr ⟨by rfl, rfl⟩) hHeld ?_
                         try simp only [Act.put, List.setIfInBounds_toArray, List.set_cons_zero, List.set_cons_succ])
                      | (refine WalkU.one (i := 12) rfl (by kernel_rfl) (fun K hK => ?_)
                         first
                           | (first | (go_at_call 129; (with_reducible refine (l3Floor_any _ _ _ Hdiag.out).mono ?_); rintro e w4 ⟨rfl, rfl⟩) | (go_at_call 123; (with_reducible refine (l2Scale_any _ _ _ _ _ _ (by omega) hic.drew).mono ?_); rintro e w5 ⟨p5, c5, rfl, ho5, hb5⟩; replace cc := belowCell hb5 cc; replace ft := belowFrz hb5 ct ft; replace ct := belowCell hb5 ct; replace cec := belowCell hb5 cec; replace cet := belowCell hb5 cet; have hg5 := Nat.lt_of_lt_of_le hgl.2.2 hb5.size) | (go_at_call 128; (with_reducible refine (l2Less_any _ _ _ _ _ _ _ _ (by omega) (hit.drew.below hb5) ho5.ints).mono ?_); rintro e w6 ⟨p6, c6, rfl, ho6, hb6⟩; replace cc := belowCell hb6 cc; replace ft := belowFrz hb6 ct ft; replace ct := belowCell hb6 ct; replace cec := belowCell hb6 cec; replace cet := belowCell hb6 cet; have hg6 := Nat.lt_of_lt_of_le hg5 hb6.size))
                           | (go_simp; (first | (go_at_call 129; (with_reducible refine (l3Floor_any _ _ _ Hdiag.out).mono ?_); rintro e w4 ⟨rfl, rfl⟩) | (go_at_call 123; (with_reducible refine (l2Scale_any _ _ _ _ _ _ (by omega) hic.drew).mono ?_); rintro e w5 ⟨p5, c5, rfl, ho5, hb5⟩; replace cc := belowCell hb5 cc; replace ft := belowFrz hb5 ct ft; replace ct := belowCell hb5 ct; replace cec := belowCell hb5 cec; replace cet := belowCell hb5 cet; have hg5 := Nat.lt_of_lt_of_le hgl.2.2 hb5.size) | (go_at_call 128; (with_reducible refine (l2Less_any _ _ _ _ _ _ _ _ (by omega) (hit.drew.below hb5) ho5.ints).mono ?_); rintro e w6 ⟨p6, c6, rfl, ho6, hb6⟩; replace cc := belowCell hb6 cc; replace ft := belowFrz hb6 ct ft; replace ct := belowCell hb6 ct; replace cec := belowCell hb6 cec; replace cet := belowCell hb6 cet; have hg6 := Nat.lt_of_lt_of_le hg5 hb6.size)))
                           | go_simp
                         refine hK.out _ _ ?_ (fun hHeld => ?_)
                         · ((try dsimp only); exact ⟨cc, cec, cet, ct⟩)
                         clear hK K
                         try simp only [Act.put, List.setIfInBounds_toArray, List.set_cons_zero, List.set_cons_succ])
                    first
                      | (refine WalkU.take (i := 13) (v := ?_) rfl (by kernel_rfl) (by kernel_rfl) (by kernel_rfl) (by kernel_rfl) (fun _ _ _ h => h) (Or.inl ⟨by rfl, ?_⟩) hHeld ?_
                         rotate_left
                         · (intro w hSw; (try dsimp only at hSw); go_simp; try with_reducible rfl)
                         try simp only [Act.put, List.setIfInBounds_toArray, List.set_cons_zero, List.set_cons_succ])
                      | (refine WalkU.take (i := 13) (v := undef) rfl (by kernel_rfl) (by kernel_rfl) (by kernel_rfl) (by kernel_rfl) (fun _ _ _ h => h) (Or.inr ⟨by rfl, rfl⟩) hHeld ?_
                         try simp only [Act.put, List.setIfInBounds_toArray, List.set_cons_zero, List.set_cons_succ])
                      | (refine WalkU.one (i := 13) rfl (by kernel_rfl) (fun K hK => ?_)
                         first
                           | (first | (go_at_call 129; (with_reducible refine (l3Floor_any _ _ _ Hdiag.out).mono ?_); rintro e w4 ⟨rfl, rfl⟩) | (go_at_call 123; (with_reducible refine (l2Scale_any _ _ _ _ _ _ (by omega) hic.drew).mono ?_); rintro e w5 ⟨p5, c5, rfl, ho5, hb5⟩; replace cc := belowCell hb5 cc; replace ft := belowFrz hb5 ct ft; replace ct := belowCell hb5 ct; replace cec := belowCell hb5 cec; replace cet := belowCell hb5 cet; have hg5 := Nat.lt_of_lt_of_le hgl.2.2 hb5.size) | (go_at_call 128; (with_reducible refine (l2Less_any _ _ _ _ _ _ _ _ (by omega) (hit.drew.below hb5) ho5.ints).mono ?_); rintro e w6 ⟨p6, c6, rfl, ho6, hb6⟩; replace cc := belowCell hb6 cc; replace ft := belowFrz hb6 ct ft; replace ct := belowCell hb6 ct; replace cec := belowCell hb6 cec; replace cet := belowCell hb6 cet; have hg6 := Nat.lt_of_lt_of_le hg5 hb6.size))
                           | (go_simp; (first | (go_at_call 129; (with_reducible refine (l3Floor_any _ _ _ Hdiag.out).mono ?_); rintro e w4 ⟨rfl, rfl⟩) | (go_at_call 123; (with_reducible refine (l2Scale_any _ _ _ _ _ _ (by omega) hic.drew).mono ?_); rintro e w5 ⟨p5, c5, rfl, ho5, hb5⟩; replace cc := belowCell hb5 cc; replace ft := belowFrz hb5 ct ft; replace ct := belowCell hb5 ct; replace cec := belowCell hb5 cec; replace cet := belowCell hb5 cet; have hg5 := Nat.lt_of_lt_of_le hgl.2.2 hb5.size) | (go_at_call 128; (with_reducible refine (l2Less_any _ _ _ _ _ _ _ _ (by omega) (hit.drew.below hb5) ho5.ints).mono ?_); rintro e w6 ⟨p6, c6, rfl, ho6, hb6⟩; replace cc := belowCell hb6 cc; replace ft := belowFrz hb6 ct ft; replace ct := belowCell hb6 ct; replace cec := belowCell hb6 cec; replace cet := belowCell hb6 cet; have hg6 := Nat.lt_of_lt_of_le hg5 hb6.size)))
                           | go_simp
                         refine hK.out _ _ ?_ (fun hHeld => ?_)
                         · ((try dsimp only); exact ⟨cc, cec, cet, ct⟩)
                         clear hK K
                         try simp only [Act.put, List.setIfInBounds_toArray, List.set_cons_zero, List.set_cons_succ])
                    first
                      | (refine WalkU.take (i := 14) (v := ?_) rfl (by kernel_rfl) (by kernel_rfl) (by kernel_rfl) (by kernel_rfl) (fun _ _ _ h => h) (Or.inl ⟨by rfl, ?_⟩) hHeld ?_
                         rotate_left
                         · (intro w hSw; (try dsimp only at hSw); go_simp; try with_reducible rfl)
                         try simp only [Act.put, List.setIfInBounds_toArray, List.set_cons_zero, List.set_cons_succ])
                      | (refine WalkU.take (i := 14) (v := undef) rfl (by kernel_rfl) (by kernel_rfl) (by kernel_rfl) (by kernel_rfl) (fun _ _ _ h => h) (Or.inr ⟨by rfl, rfl⟩) hHeld ?_
                         try simp only [Act.put, List.setIfInBounds_toArray, List.set_cons_zero, List.set_cons_succ])
                      | (refine WalkU.one (i := 14) rfl (by kernel_rfl) (fun K hK => ?_)
                         first
                           | (first | (go_at_call 129; (with_reducible refine (l3Floor_any _ _ _ Hdiag.out).mono ?_); rintro e w4 ⟨rfl, rfl⟩) | (go_at_call 123; (with_reducible refine (l2Scale_any _ _ _ _ _ _ (by omega) hic.drew).mono ?_); rintro e w5 ⟨p5, c5, rfl, ho5, hb5⟩; replace cc := belowCell hb5 cc; replace ft := belowFrz hb5 ct ft; replace ct := belowCell hb5 ct; replace cec := belowCell hb5 cec; replace cet := belowCell hb5 cet; have hg5 := Nat.lt_of_lt_of_le hgl.2.2 hb5.size) | (go_at_call 128; (with_reducible refine (l2Less_any _ _ _ _ _ _ _ _ (by omega) (hit.drew.below hb5) ho5.ints).mono ?_); rintro e w6 ⟨p6, c6, rfl, ho6, hb6⟩; replace cc := belowCell hb6 cc; replace ft := belowFrz hb6 ct ft; replace ct := belowCell hb6 ct; replace cec := belowCell hb6 cec; replace cet := belowCell hb6 cet; have hg6 := Nat.lt_of_lt_of_le hg5 hb6.size))
                           | (go_simp; (first | (go_at_call 129; (with_reducible refine (l3Floor_any _ _ _ Hdiag.out).mono ?_); rintro e w4 ⟨rfl, rfl⟩) | (go_at_call 123; (with_reducible refine (l2Scale_any _ _ _ _ _ _ (by omega) hic.drew).mono ?_); rintro e w5 ⟨p5, c5, rfl, ho5, hb5⟩; replace cc := belowCell hb5 cc; replace ft := belowFrz hb5 ct ft; replace ct := belowCell hb5 ct; replace cec := belowCell hb5 cec; replace cet := belowCell hb5 cet; have hg5 := Nat.lt_of_lt_of_le hgl.2.2 hb5.size) | (go_at_call 128; (with_reducible refine (l2Less_any _ _ _ _ _ _ _ _ (by omega) (hit.drew.below hb5) ho5.ints).mono ?_); rintro e w6 ⟨p6, c6, rfl, ho6, hb6⟩; replace cc := belowCell hb6 cc; replace ft := belowFrz hb6 ct ft; replace ct := belowCell hb6 ct; replace cec := belowCell hb6 cec; replace cet := belowCell hb6 cet; have hg6 := Nat.lt_of_lt_of_le hg5 hb6.size)))
                           | go_simp
                         refine hK.out _ _ ?_ (fun hHeld => ?_)
                         · ((try dsimp only); exact ⟨cc, cec, cet, ct⟩)
                         clear hK K
                         try simp only [Act.put, List.setIfInBounds_toArray, List.set_cons_zero, List.set_cons_succ])
                    first
                      | (refine WalkU.take (i := 15) (v := ?_) rfl (by kernel_rfl) (by kernel_rfl) (by kernel_rfl) (by kernel_rfl) (fun _ _ _ h => h) (Or.inl ⟨by rfl, ?_⟩) hHeld ?_
                         rotate_left
                         · (intro w hSw; (try dsimp only at hSw); go_simp; try with_reducible rfl)
                         try simp only [Act.put, List.setIfInBounds_toArray, List.set_cons_zero, List.set_cons_succ])
                      | (refine WalkU.take (i := 15) (v := undef) rfl (by kernel_rfl) (by kernel_rfl) (by kernel_rfl) (by kernel_rfl) (fun _ _ _ h => h) (Or.inr ⟨by rfl, rfl⟩) hHeld ?_
                         try simp only [Act.put, List.setIfInBounds_toArray, List.set_cons_zero, List.set_cons_succ])
                      | (refine WalkU.one (i := 15) rfl (by kernel_rfl) (fun K hK => ?_)
                         first
                           | (first | (go_at_call 129; (with_reducible refine (l3Floor_any _ _ _ Hdiag.out).mono ?_); rintro e w4 ⟨rfl, rfl⟩) | (go_at_call 123; (with_reducible refine (l2Scale_any _ _ _ _ _ _ (by omega) hic.drew).mono ?_); rintro e w5 ⟨p5, c5, rfl, ho5, hb5⟩; replace cc := belowCell hb5 cc; replace ft := belowFrz hb5 ct ft; replace ct := belowCell hb5 ct; replace cec := belowCell hb5 cec; replace cet := belowCell hb5 cet; have hg5 := Nat.lt_of_lt_of_le hgl.2.2 hb5.size) | (go_at_call 128; (with_reducible refine (l2Less_any _ _ _ _ _ _ _ _ (by omega) (hit.drew.below hb5) ho5.ints).mono ?_); rintro e w6 ⟨p6, c6, rfl, ho6, hb6⟩; replace cc := belowCell hb6 cc; replace ft := belowFrz hb6 ct ft; replace ct := belowCell hb6 ct; replace cec := belowCell hb6 cec; replace cet := belowCell hb6 cet; have hg6 := Nat.lt_of_lt_of_le hg5 hb6.size))
                           | (go_simp; (first | (go_at_call 129; (with_reducible refine (l3Floor_any _ _ _ Hdiag.out).mono ?_); rintro e w4 ⟨rfl, rfl⟩) | (go_at_call 123; (with_reducible refine (l2Scale_any _ _ _ _ _ _ (by omega) hic.drew).mono ?_); rintro e w5 ⟨p5, c5, rfl, ho5, hb5⟩; replace cc := belowCell hb5 cc; replace ft := belowFrz hb5 ct ft; replace ct := belowCell hb5 ct; replace cec := belowCell hb5 cec; replace cet := belowCell hb5 cet; have hg5 := Nat.lt_of_lt_of_le hgl.2.2 hb5.size) | (go_at_call 128; (with_reducible refine (l2Less_any _ _ _ _ _ _ _ _ (by omega) (hit.drew.below hb5) ho5.ints).mono ?_); rintro e w6 ⟨p6, c6, rfl, ho6, hb6⟩; replace cc := belowCell hb6 cc; replace ft := belowFrz hb6 ct ft; replace ct := belowCell hb6 ct; replace cec := belowCell hb6 cec; replace cet := belowCell hb6 cet; have hg6 := Nat.lt_of_lt_of_le hg5 hb6.size)))
                           | go_simp
                         refine hK.out _ _ ?_ (fun hHeld => ?_)
                         · ((try dsimp only); exact ⟨cc, cec, cet, ct⟩)
                         clear hK K
                         try simp only [Act.put, List.setIfInBounds_toArray, List.set_cons_zero, List.set_cons_succ])
                    first
                      | (refine WalkU.take (i := 16) (v := ?_) rfl (by kernel_rfl) (by kernel_rfl) (by kernel_rfl) (by kernel_rfl) (fun _ _ _ h => h) (Or.inl ⟨by rfl, ?_⟩) hHeld ?_
                         rotate_left
                         · (intro w hSw; (try dsimp only at hSw); go_simp; try with_reducible rfl)
                         try simp only [Act.put, List.setIfInBounds_toArray, List.set_cons_zero, List.set_cons_succ])
                      | (refine WalkU.take (i := 16) (v := undef) rfl (by kernel_rfl) (by kernel_rfl) (by kernel_rfl) (by kernel_rfl) (fun _ _ _ h => h) (Or.inr ⟨by rfl, rfl⟩) hHeld ?_
                         try simp only [Act.put, List.setIfInBounds_toArray, List.set_cons_zero, List.set_cons_succ])
                      | (refine WalkU.one (i := 16) rfl (by kernel_rfl) (fun K hK => ?_)
                         first
                           | (first | (go_at_call 129; (with_reducible refine (l3Floor_any _ _ _ Hdiag.out).mono ?_); rintro e w4 ⟨rfl, rfl⟩) | (go_at_call 123; (with_reducible refine (l2Scale_any _ _ _ _ _ _ (by omega) hic.drew).mono ?_); rintro e w5 ⟨p5, c5, rfl, ho5, hb5⟩; replace cc := belowCell hb5 cc; replace ft := belowFrz hb5 ct ft; replace ct := belowCell hb5 ct; replace cec := belowCell hb5 cec; replace cet := belowCell hb5 cet; have hg5 := Nat.lt_of_lt_of_le hgl.2.2 hb5.size) | (go_at_call 128; (with_reducible refine (l2Less_any _ _ _ _ _ _ _ _ (by omega) (hit.drew.below hb5) ho5.ints).mono ?_); rintro e w6 ⟨p6, c6, rfl, ho6, hb6⟩; replace cc := belowCell hb6 cc; replace ft := belowFrz hb6 ct ft; replace ct := belowCell hb6 ct; replace cec := belowCell hb6 cec; replace cet := belowCell hb6 cet; have hg6 := Nat.lt_of_lt_of_le hg5 hb6.size))
                           | (go_simp; (first | (go_at_call 129; (with_reducible refine (l3Floor_any _ _ _ Hdiag.out).mono ?_); rintro e w4 ⟨rfl, rfl⟩) | (go_at_call 123; (with_reducible refine (l2Scale_any _ _ _ _ _ _ (by omega) hic.drew).mono ?_); rintro e w5 ⟨p5, c5, rfl, ho5, hb5⟩; replace cc := belowCell hb5 cc; replace ft := belowFrz hb5 ct ft; replace ct := belowCell hb5 ct; replace cec := belowCell hb5 cec; replace cet := belowCell hb5 cet; have hg5 := Nat.lt_of_lt_of_le hgl.2.2 hb5.size) | (go_at_call 128; (with_reducible refine (l2Less_any _ _ _ _ _ _ _ _ (by omega) (hit.drew.below hb5) ho5.ints).mono ?_); rintro e w6 ⟨p6, c6, rfl, ho6, hb6⟩; replace cc := belowCell hb6 cc; replace ft := belowFrz hb6 ct ft; replace ct := belowCell hb6 ct; replace cec := belowCell hb6 cec; replace cet := belowCell hb6 cet; have hg6 := Nat.lt_of_lt_of_le hg5 hb6.size)))
                           | go_simp
                         refine hK.out _ _ ?_ (fun hHeld => ?_)
                         · ((try dsimp only); exact ⟨cc, cec, cet, ct⟩)
                         clear hK K
                         try simp only [Act.put, List.setIfInBounds_toArray, List.set_cons_zero, List.set_cons_succ])
                    first
                      | (refine WalkU.take (i := 17) (v := ?_) rfl (by kernel_rfl) (by kernel_rfl) (by kernel_rfl) (by kernel_rfl) (fun _ _ _ h => h) (Or.inl ⟨by rfl, ?_⟩) hHeld ?_
                         rotate_left
                         · (intro w hSw; (try dsimp only at hSw); go_simp; try with_reducible rfl)
                         try simp only [Act.put, List.setIfInBounds_toArray, List.set_cons_zero, List.set_cons_succ])
                      | (refine WalkU.take (i := 17) (v := undef) rfl (by kernel_rfl) (by kernel_rfl) (by kernel_rfl) (by kernel_rfl) (fun _ _ _ h => h) (Or.inr ⟨by rfl, rfl⟩) hHeld ?_
                         try simp only [Act.put, List.setIfInBounds_toArray, List.set_cons_zero, List.set_cons_succ])
                      | (refine WalkU.one (i := 17) rfl (by kernel_rfl) (fun K hK => ?_)
                         first
                           | (first | (go_at_call 129; (with_reducible refine (l3Floor_any _ _ _ Hdiag.out).mono ?_); rintro e w4 ⟨rfl, rfl⟩) | (go_at_call 123; (with_reducible refine (l2Scale_any _ _ _ _ _ _ (by omega) hic.drew).mono ?_); rintro e w5 ⟨p5, c5, rfl, ho5, hb5⟩; replace cc := belowCell hb5 cc; replace ft := belowFrz hb5 ct ft; replace ct := belowCell hb5 ct; replace cec := belowCell hb5 cec; replace cet := belowCell hb5 cet; have hg5 := Nat.lt_of_lt_of_le hgl.2.2 hb5.size) | (go_at_call 128; (with_reducible refine (l2Less_any _ _ _ _ _ _ _ _ (by omega) (hit.drew.below hb5) ho5.ints).mono ?_); rintro e w6 ⟨p6, c6, rfl, ho6, hb6⟩; replace cc := belowCell hb6 cc; replace ft := belowFrz hb6 ct ft; replace ct := belowCell hb6 ct; replace cec := belowCell hb6 cec; replace cet := belowCell hb6 cet; have hg6 := Nat.lt_of_lt_of_le hg5 hb6.size))
                           | (go_simp; (first | (go_at_call 129; (with_reducible refine (l3Floor_any _ _ _ Hdiag.out).mono ?_); rintro e w4 ⟨rfl, rfl⟩) | (go_at_call 123; (with_reducible refine (l2Scale_any _ _ _ _ _ _ (by omega) hic.drew).mono ?_); rintro e w5 ⟨p5, c5, rfl, ho5, hb5⟩; replace cc := belowCell hb5 cc; replace ft := belowFrz hb5 ct ft; replace ct := belowCell hb5 ct; replace cec := belowCell hb5 cec; replace cet := belowCell hb5 cet; have hg5 := Nat.lt_of_lt_of_le hgl.2.2 hb5.size) | (go_at_call 128; (with_reducible refine (l2Less_any _ _ _ _ _ _ _ _ (by omega) (hit.drew.below hb5) ho5.ints).mono ?_); rintro e w6 ⟨p6, c6, rfl, ho6, hb6⟩; replace cc := belowCell hb6 cc; replace ft := belowFrz hb6 ct ft; replace ct := belowCell hb6 ct; replace cec := belowCell hb6 cec; replace cet := belowCell hb6 cet; have hg6 := Nat.lt_of_lt_of_le hg5 hb6.size)))
                           | go_simp
                         refine hK.out _ _ ?_ (fun hHeld => ?_)
                         · ((try dsimp only); exact ⟨cc, cec, cet, ct⟩)
                         clear hK K
                         try simp only [Act.put, List.setIfInBounds_toArray, List.set_cons_zero, List.set_cons_succ])
                    first
                      | (refine WalkU.take (i := 18) (v := ?_) rfl (by kernel_rfl) (by kernel_rfl) (by kernel_rfl) (by kernel_rfl) (fun _ _ _ h => h) (Or.inl ⟨by rfl, ?_⟩) hHeld ?_
                         rotate_left
                         · (intro w hSw; (try dsimp only at hSw); go_simp; try with_reducible rfl)
                         try simp only [Act.put, List.setIfInBounds_toArray, List.set_cons_zero, List.set_cons_succ])
                      | (refine WalkU.take (i := 18) (v := undef) rfl (by kernel_rfl) (by kernel_rfl) (by kernel_rfl) (by kernel_rfl) (fun _ _ _ h => h) (Or.inr ⟨by rfl, rfl⟩) hHeld ?_
                         try simp only [Act.put, List.setIfInBounds_toArray, List.set_cons_zero, List.set_cons_succ])
                      | (refine WalkU.one (i := 18) rfl (by kernel_rfl) (fun K hK => ?_)
                         first
                           | (first | (go_at_call 129; (with_reducible refine (l3Floor_any _ _ _ Hdiag.out).mono ?_); rintro e w4 ⟨rfl, rfl⟩) | (go_at_call 123; (with_reducible refine (l2Scale_any _ _ _ _ _ _ (by omega) hic.drew).mono ?_); rintro e w5 ⟨p5, c5, rfl, ho5, hb5⟩; replace cc := belowCell hb5 cc; replace ft := belowFrz hb5 ct ft; replace ct := belowCell hb5 ct; replace cec := belowCell hb5 cec; replace cet := belowCell hb5 cet; have hg5 := Nat.lt_of_lt_of_le hgl.2.2 hb5.size) | (go_at_call 128; (with_reducible refine (l2Less_any _ _ _ _ _ _ _ _ (by omega) (hit.drew.below hb5) ho5.ints).mono ?_); rintro e w6 ⟨p6, c6, rfl, ho6, hb6⟩; replace cc := belowCell hb6 cc; replace ft := belowFrz hb6 ct ft; replace ct := belowCell hb6 ct; replace cec := belowCell hb6 cec; replace cet := belowCell hb6 cet; have hg6 := Nat.lt_of_lt_of_le hg5 hb6.size))
                           | (go_simp; (first | (go_at_call 129; (with_reducible refine (l3Floor_any _ _ _ Hdiag.out).mono ?_); rintro e w4 ⟨rfl, rfl⟩) | (go_at_call 123; (with_reducible refine (l2Scale_any _ _ _ _ _ _ (by omega) hic.drew).mono ?_); rintro e w5 ⟨p5, c5, rfl, ho5, hb5⟩; replace cc := belowCell hb5 cc; replace ft := belowFrz hb5 ct ft; replace ct := belowCell hb5 ct; replace cec := belowCell hb5 cec; replace cet := belowCell hb5 cet; have hg5 := Nat.lt_of_lt_of_le hgl.2.2 hb5.size) | (go_at_call 128; (with_reducible refine (l2Less_any _ _ _ _ _ _ _ _ (by omega) (hit.drew.below hb5) ho5.ints).mono ?_); rintro e w6 ⟨p6, c6, rfl, ho6, hb6⟩; replace cc := belowCell hb6 cc; replace ft := belowFrz hb6 ct ft; replace ct := belowCell hb6 ct; replace cec := belowCell hb6 cec; replace cet := belowCell hb6 cet; have hg6 := Nat.lt_of_lt_of_le hg5 hb6.size)))
                           | go_simp
                         refine hK.out _ _ ?_ (fun hHeld => ?_)
                         · ((try dsimp only); exact ⟨cc, cec, cet, ct⟩)
                         clear hK K
                         try simp only [Act.put, List.setIfInBounds_toArray, List.set_cons_zero, List.set_cons_succ])
                    first
                      | (refine WalkU.take (i := 19) (v := ?_) rfl (by kernel_rfl) (by kernel_rfl) (by kernel_rfl) (by kernel_rfl) (fun _ _ _ h => h) (Or.inl ⟨by rfl, ?_⟩) hHeld ?_
                         rotate_left
                         · (intro w hSw; (try dsimp only at hSw); go_simp; try with_reducible rfl)
                         try simp only [Act.put, List.setIfInBounds_toArray, List.set_cons_zero, List.set_cons_succ])
                      | (refine WalkU.take (i := 19) (v := undef) rfl (by kernel_rfl) (by kernel_rfl) (by kernel_rfl) (by kernel_rfl) (fun _ _ _ h => h) (Or.inr ⟨by rfl, rfl⟩) hHeld ?_
                         try simp only [Act.put, List.setIfInBounds_toArray, List.set_cons_zero, List.set_cons_succ])
                      | (refine WalkU.one (i := 19) rfl (by kernel_rfl) (fun K hK => ?_)
                         first
                           | (first | (go_at_call 129; (with_reducible refine (l3Floor_any _ _ _ Hdiag.out).mono ?_); rintro e w4 ⟨rfl, rfl⟩) | (go_at_call 123; (with_reducible refine (l2Scale_any _ _ _ _ _ _ (by omega) hic.drew).mono ?_); rintro e w5 ⟨p5, c5, rfl, ho5, hb5⟩; replace cc := belowCell hb5 cc; replace ft := belowFrz hb5 ct ft; replace ct := belowCell hb5 ct; replace cec := belowCell hb5 cec; replace cet := belowCell hb5 cet; have hg5 := Nat.lt_of_lt_of_le hgl.2.2 hb5.size) | (go_at_call 128; (with_reducible refine (l2Less_any _ _ _ _ _ _ _ _ (by omega) (hit.drew.below hb5) ho5.ints).mono ?_); rintro e w6 ⟨p6, c6, rfl, ho6, hb6⟩; replace cc := belowCell hb6 cc; replace ft := belowFrz hb6 ct ft; replace ct := belowCell hb6 ct; replace cec := belowCell hb6 cec; replace cet := belowCell hb6 cet; have hg6 := Nat.lt_of_lt_of_le hg5 hb6.size))
                           | (go_simp; (first | (go_at_call 129; (with_reducible refine (l3Floor_any _ _ _ Hdiag.out).mono ?_); rintro e w4 ⟨rfl, rfl⟩) | (go_at_call 123; (with_reducible refine (l2Scale_any _ _ _ _ _ _ (by omega) hic.drew).mono ?_); rintro e w5 ⟨p5, c5, rfl, ho5, hb5⟩; replace cc := belowCell hb5 cc; replace ft := belowFrz hb5 ct ft; replace ct := belowCell hb5 ct; replace cec := belowCell hb5 cec; replace cet := belowCell hb5 cet; have hg5 := Nat.lt_of_lt_of_le hgl.2.2 hb5.size) | (go_at_call 128; (with_reducible refine (l2Less_any _ _ _ _ _ _ _ _ (by omega) (hit.drew.below hb5) ho5.ints).mono ?_); rintro e w6 ⟨p6, c6, rfl, ho6, hb6⟩; replace cc := belowCell hb6 cc; replace ft := belowFrz hb6 ct ft; replace ct := belowCell hb6 ct; replace cec := belowCell hb6 cec; replace cet := belowCell hb6 cet; have hg6 := Nat.lt_of_lt_of_le hg5 hb6.size)))
                           | go_simp
                         refine hK.out _ _ ?_ (fun hHeld => ?_)
                         · ((try dsimp only); exact ⟨cc, cec, cet, ct⟩)
                         clear hK K
                         try simp only [Act.put, List.setIfInBounds_toArray, List.set_cons_zero, List.set_cons_succ])
                    first
                      | (refine WalkU.take (i := 20) (v := ?_) rfl (by kernel_rfl) (by kernel_rfl) (by kernel_rfl) (by kernel_rfl) (fun _ _ _ h => h) (Or.inl ⟨by rfl, ?_⟩) hHeld ?_
                         rotate_left
                         · (intro w hSw; (try dsimp only at hSw); go_simp; try with_reducible rfl)
                         try simp only [Act.put, List.setIfInBounds_toArray, List.set_cons_zero, List.set_cons_succ])
                      | (refine WalkU.take (i := 20) (v := undef) rfl (by kernel_rfl) (by kernel_rfl) (by kernel_rfl) (by kernel_rfl) (fun _ _ _ h => h) (Or.inr ⟨by rfl, rfl⟩) hHeld ?_
                         try simp only [Act.put, List.setIfInBounds_toArray, List.set_cons_zero, List.set_cons_succ])
                      | (refine WalkU.one (i := 20) rfl (by kernel_rfl) (fun K hK => ?_)
                         first
                           | (first | (go_at_call 129; (with_reducible refine (l3Floor_any _ _ _ Hdiag.out).mono ?_); rintro e w4 ⟨rfl, rfl⟩) | (go_at_call 123; (with_reducible refine (l2Scale_any _ _ _ _ _ _ (by omega) hic.drew).mono ?_); rintro e w5 ⟨p5, c5, rfl, ho5, hb5⟩; replace cc := belowCell hb5 cc; replace ft := belowFrz hb5 ct ft; replace ct := belowCell hb5 ct; replace cec := belowCell hb5 cec; replace cet := belowCell hb5 cet; have hg5 := Nat.lt_of_lt_of_le hgl.2.2 hb5.size) | (go_at_call 128; (with_reducible refine (l2Less_any _ _ _ _ _ _ _ _ (by omega) (hit.drew.below hb5) ho5.ints).mono ?_); rintro e w6 ⟨p6, c6, rfl, ho6, hb6⟩; replace cc := belowCell hb6 cc; replace ft := belowFrz hb6 ct ft; replace ct := belowCell hb6 ct; replace cec := belowCell hb6 cec; replace cet := belowCell hb6 cet; have hg6 := Nat.lt_of_lt_of_le hg5 hb6.size))
                           | (go_simp; (first | (go_at_call 129; (with_reducible refine (l3Floor_any _ _ _ Hdiag.out).mono ?_); rintro e w4 ⟨rfl, rfl⟩) | (go_at_call 123; (with_reducible refine (l2Scale_any _ _ _ _ _ _ (by omega) hic.drew).mono ?_); rintro e w5 ⟨p5, c5, rfl, ho5, hb5⟩; replace cc := belowCell hb5 cc; replace ft := belowFrz hb5 ct ft; replace ct := belowCell hb5 ct; replace cec := belowCell hb5 cec; replace cet := belowCell hb5 cet; have hg5 := Nat.lt_of_lt_of_le hgl.2.2 hb5.size) | (go_at_call 128; (with_reducible refine (l2Less_any _ _ _ _ _ _ _ _ (by omega) (hit.drew.below hb5) ho5.ints).mono ?_); rintro e w6 ⟨p6, c6, rfl, ho6, hb6⟩; replace cc := belowCell hb6 cc; replace ft := belowFrz hb6 ct ft; replace ct := belowCell hb6 ct; replace cec := belowCell hb6 cec; replace cet := belowCell hb6 cet; have hg6 := Nat.lt_of_lt_of_le hg5 hb6.size)))
                           | go_simp
                         refine hK.out _ _ ?_ (fun hHeld => ?_)
                         · ((try dsimp only); exact ⟨cc, cec, cet, ct⟩)
                         clear hK K
                         try simp only [Act.put, List.setIfInBounds_toArray, List.set_cons_zero, List.set_cons_succ])
                    first
                      | (refine WalkU.take (i := 21) (v := ?_) rfl (by kernel_rfl) (by kernel_rfl) (by kernel_rfl) (by kernel_rfl) (fun _ _ _ h => h) (Or.inl ⟨by rfl, ?_⟩) hHeld ?_
                         rotate_left
                         · (intro w hSw; (try dsimp only at hSw); go_simp; try with_reducible rfl)
                         try simp only [Act.put, List.setIfInBounds_toArray, List.set_cons_zero, List.set_cons_succ])
                      | (refine WalkU.take (i := 21) (v := undef) rfl (by kernel_rfl) (by kernel_rfl) (by kernel_rfl) (by kernel_rfl) (fun _ _ _ h => h) (Or.inr ⟨by rfl, rfl⟩) hHeld ?_
                         try simp only [Act.put, List.setIfInBounds_toArray, List.set_cons_zero, List.set_cons_succ])
                      | (refine WalkU.one (i := 21) rfl (by kernel_rfl) (fun K hK => ?_)
                         first
                           | (first | (go_at_call 129; (with_reducible refine (l3Floor_any _ _ _ Hdiag.out).mono ?_); rintro e w4 ⟨rfl, rfl⟩) | (go_at_call 123; (with_reducible refine (l2Scale_any _ _ _ _ _ _ (by omega) hic.drew).mono ?_); rintro e w5 ⟨p5, c5, rfl, ho5, hb5⟩; replace cc := belowCell hb5 cc; replace ft := belowFrz hb5 ct ft; replace ct := belowCell hb5 ct; replace cec := belowCell hb5 cec; replace cet := belowCell hb5 cet; have hg5 := Nat.lt_of_lt_of_le hgl.2.2 hb5.size) | (go_at_call 128; (with_reducible refine (l2Less_any _ _ _ _ _ _ _ _ (by omega) (hit.drew.below hb5) ho5.ints).mono ?_); rintro e w6 ⟨p6, c6, rfl, ho6, hb6⟩; replace cc := belowCell hb6 cc; replace ft := belowFrz hb6 ct ft; replace ct := belowCell hb6 ct; replace cec := belowCell hb6 cec; replace cet := belowCell hb6 cet; have hg6 := Nat.lt_of_lt_of_le hg5 hb6.size))
                           | (go_simp; (first | (go_at_call 129; (with_reducible refine (l3Floor_any _ _ _ Hdiag.out).mono ?_); rintro e w4 ⟨rfl, rfl⟩) | (go_at_call 123; (with_reducible refine (l2Scale_any _ _ _ _ _ _ (by omega) hic.drew).mono ?_); rintro e w5 ⟨p5, c5, rfl, ho5, hb5⟩; replace cc := belowCell hb5 cc; replace ft := belowFrz hb5 ct ft; replace ct := belowCell hb5 ct; replace cec := belowCell hb5 cec; replace cet := belowCell hb5 cet; have hg5 := Nat.lt_of_lt_of_le hgl.2.2 hb5.size) | (go_at_call 128; (with_reducible refine (l2Less_any _ _ _ _ _ _ _ _ (by omega) (hit.drew.below hb5) ho5.ints).mono ?_); rintro e w6 ⟨p6, c6, rfl, ho6, hb6⟩; replace cc := belowCell hb6 cc; replace ft := belowFrz hb6 ct ft; replace ct := belowCell hb6 ct; replace cec := belowCell hb6 cec; replace cet := belowCell hb6 cet; have hg6 := Nat.lt_of_lt_of_le hg5 hb6.size)))
                           | go_simp
                         refine hK.out _ _ ?_ (fun hHeld => ?_)
                         · ((try dsimp only); exact ⟨cc, cec, cet, ct⟩)
                         clear hK K
                         try simp only [Act.put, List.setIfInBounds_toArray, List.set_cons_zero, List.set_cons_succ])
                    first
                      | (refine WalkU.take (i := 22) (v := ?_) rfl (by kernel_rfl) (by kernel_rfl) (by kernel_rfl) (by kernel_rfl) (fun _ _ _ h => h) (Or.inl ⟨by rfl, ?_⟩) hHeld ?_
                         rotate_left
                         · (intro w hSw; (try dsimp only at hSw); go_simp; try with_reducible rfl)
                         try simp only [Act.put, List.setIfInBounds_toArray, List.set_cons_zero, List.set_cons_succ])
                      | (refine WalkU.take (i := 22) (v := undef) rfl (by kernel_rfl) (by kernel_rfl) (by kernel_rfl) (by kernel_rfl) (fun _ _ _ h => h) (Or.inr ⟨by rfl, rfl⟩) hHeld ?_
                         try simp only [Act.put, List.setIfInBounds_toArray, List.set_cons_zero, List.set_cons_succ])
                      | (refine WalkU.one (i := 22) rfl (by kernel_rfl) (fun K hK => ?_)
                         first
                           | (first | (go_at_call 129; (with_reducible refine (l3Floor_any _ _ _ Hdiag.out).mono ?_); rintro e w4 ⟨rfl, rfl⟩) | (go_at_call 123; (with_reducible refine (l2Scale_any _ _ _ _ _ _ (by omega) hic.drew).mono ?_); rintro e w5 ⟨p5, c5, rfl, ho5, hb5⟩; replace cc := belowCell hb5 cc; replace ft := belowFrz hb5 ct ft; replace ct := belowCell hb5 ct; replace cec := belowCell hb5 cec; replace cet := belowCell hb5 cet; have hg5 := Nat.lt_of_lt_of_le hgl.2.2 hb5.size) | (go_at_call 128; (with_reducible refine (l2Less_any _ _ _ _ _ _ _ _ (by omega) (hit.drew.below hb5) ho5.ints).mono ?_); rintro e w6 ⟨p6, c6, rfl, ho6, hb6⟩; replace cc := belowCell hb6 cc; replace ft := belowFrz hb6 ct ft; replace ct := belowCell hb6 ct; replace cec := belowCell hb6 cec; replace cet := belowCell hb6 cet; have hg6 := Nat.lt_of_lt_of_le hg5 hb6.size))
                           | (go_simp; (first | (go_at_call 129; (with_reducible refine (l3Floor_any _ _ _ Hdiag.out).mono ?_); rintro e w4 ⟨rfl, rfl⟩) | (go_at_call 123; (with_reducible refine (l2Scale_any _ _ _ _ _ _ (by omega) hic.drew).mono ?_); rintro e w5 ⟨p5, c5, rfl, ho5, hb5⟩; replace cc := belowCell hb5 cc; replace ft := belowFrz hb5 ct ft; replace ct := belowCell hb5 ct; replace cec := belowCell hb5 cec; replace cet := belowCell hb5 cet; have hg5 := Nat.lt_of_lt_of_le hgl.2.2 hb5.size) | (go_at_call 128; (with_reducible refine (l2Less_any _ _ _ _ _ _ _ _ (by omega) (hit.drew.below hb5) ho5.ints).mono ?_); rintro e w6 ⟨p6, c6, rfl, ho6, hb6⟩; replace cc := belowCell hb6 cc; replace ft := belowFrz hb6 ct ft; replace ct := belowCell hb6 ct; replace cec := belowCell hb6 cec; replace cet := belowCell hb6 cet; have hg6 := Nat.lt_of_lt_of_le hg5 hb6.size)))
                           | go_simp
                         refine hK.out _ _ ?_ (fun hHeld => ?_)
                         · ((try dsimp only); exact ⟨cc, cec, cet, ct⟩)
                         clear hK K
                         try simp only [Act.put, List.setIfInBounds_toArray, List.set_cons_zero, List.set_cons_succ])
                    first
                      | (refine WalkU.take (i := 23) (v := ?_) rfl (by kernel_rfl) (by kernel_rfl) (by kernel_rfl) (by kernel_rfl) (fun _ _ _ h => h) (Or.inl ⟨by rfl, ?_⟩) hHeld ?_
                         rotate_left
                         · (intro w hSw; (try dsimp only at hSw); go_simp; try with_reducible rfl)
                         try simp only [Act.put, List.setIfInBounds_toArray, List.set_cons_zero, List.set_cons_succ])
                      | (refine WalkU.take (i := 23) (v := undef) rfl (by kernel_rfl) (by kernel_rfl) (by kernel_rfl) (by kernel_rfl) (fun _ _ _ h => h) (Or.inr ⟨by rfl, rfl⟩) hHeld ?_
                         try simp only [Act.put, List.setIfInBounds_toArray, List.set_cons_zero, List.set_cons_succ])
                      | (refine WalkU.one (i := 23) rfl (by kernel_rfl) (fun K hK => ?_)
                         first
                           | (first | (go_at_call 129; (with_reducible refine (l3Floor_any _ _ _ Hdiag.out).mono ?_); rintro e w4 ⟨rfl, rfl⟩) | (go_at_call 123; (with_reducible refine (l2Scale_any _ _ _ _ _ _ (by omega) hic.drew).mono ?_); rintro e w5 ⟨p5, c5, rfl, ho5, hb5⟩; replace cc := belowCell hb5 cc; replace ft := belowFrz hb5 ct ft; replace ct := belowCell hb5 ct; replace cec := belowCell hb5 cec; replace cet := belowCell hb5 cet; have hg5 := Nat.lt_of_lt_of_le hgl.2.2 hb5.size) | (go_at_call 128; (with_reducible refine (l2Less_any _ _ _ _ _ _ _ _ (by omega) (hit.drew.below hb5) ho5.ints).mono ?_); rintro e w6 ⟨p6, c6, rfl, ho6, hb6⟩; replace cc := belowCell hb6 cc; replace ft := belowFrz hb6 ct ft; replace ct := belowCell hb6 ct; replace cec := belowCell hb6 cec; replace cet := belowCell hb6 cet; have hg6 := Nat.lt_of_lt_of_le hg5 hb6.size))
                           | (go_simp; (first | (go_at_call 129; (with_reducible refine (l3Floor_any _ _ _ Hdiag.out).mono ?_); rintro e w4 ⟨rfl, rfl⟩) | (go_at_call 123; (with_reducible refine (l2Scale_any _ _ _ _ _ _ (by omega) hic.drew).mono ?_); rintro e w5 ⟨p5, c5, rfl, ho5, hb5⟩; replace cc := belowCell hb5 cc; replace ft := belowFrz hb5 ct ft; replace ct := belowCell hb5 ct; replace cec := belowCell hb5 cec; replace cet := belowCell hb5 cet; have hg5 := Nat.lt_of_lt_of_le hgl.2.2 hb5.size) | (go_at_call 128; (with_reducible refine (l2Less_any _ _ _ _ _ _ _ _ (by omega) (hit.drew.below hb5) ho5.ints).mono ?_); rintro e w6 ⟨p6, c6, rfl, ho6, hb6⟩; replace cc := belowCell hb6 cc; replace ft := belowFrz hb6 ct ft; replace ct := belowCell hb6 ct; replace cec := belowCell hb6 cec; replace cet := belowCell hb6 cet; have hg6 := Nat.lt_of_lt_of_le hg5 hb6.size)))
                           | go_simp
                         refine hK.out _ _ ?_ (fun hHeld => ?_)
                         · ((try dsimp only); exact ⟨cc, cec, cet, ct⟩)
                         clear hK K
                         try simp only [Act.put, List.setIfInBounds_toArray, List.set_cons_zero, List.set_cons_succ])
                    first
                      | (refine WalkU.take (i := 24) (v := ?_) rfl (by kernel_rfl) (by kernel_rfl) (by kernel_rfl) (by kernel_rfl) (fun _ _ _ h => h) (Or.inl ⟨by rfl, ?_⟩) hHeld ?_
                         rotate_left
                         · (intro w hSw; (try dsimp only at hSw); go_simp; try with_reducible rfl)
                         try simp only [Act.put, List.setIfInBounds_toArray, List.set_cons_zero, List.set_cons_succ])
                      | (refine WalkU.take (i := 24) (v := undef) rfl (by kernel_rfl) (by kernel_rfl) (by kernel_rfl) (by kernel_rfl) (fun _ _ _ h => h) (Or.inr ⟨by rfl, rfl⟩) hHeld ?_
                         try simp only [Act.put, List.setIfInBounds_toArray, List.set_cons_zero, List.set_cons_succ])
                      | (refine WalkU.one (i := 24) rfl (by kernel_rfl) (fun K hK => ?_)
                         first
                           | (first | (go_at_call 129; (with_reducible refine (l3Floor_any _ _ _ Hdiag.out).mono ?_); rintro e w4 ⟨rfl, rfl⟩) | (go_at_call 123; (with_reducible refine (l2Scale_any _ _ _ _ _ _ (by omega) hic.drew).mono ?_); rintro e w5 ⟨p5, c5, rfl, ho5, hb5⟩; replace cc := belowCell hb5 cc; replace ft := belowFrz hb5 ct ft; replace ct := belowCell hb5 ct; replace cec := belowCell hb5 cec; replace cet := belowCell hb5 cet; have hg5 := Nat.lt_of_lt_of_le hgl.2.2 hb5.size) | (go_at_call 128; (with_reducible refine (l2Less_any _ _ _ _ _ _ _ _ (by omega) (hit.drew.below hb5) ho5.ints).mono ?_); rintro e w6 ⟨p6, c6, rfl, ho6, hb6⟩; replace cc := belowCell hb6 cc; replace ft := belowFrz hb6 ct ft; replace ct := belowCell hb6 ct; replace cec := belowCell hb6 cec; replace cet := belowCell hb6 cet; have hg6 := Nat.lt_of_lt_of_le hg5 hb6.size))
                           | (go_simp; (first | (go_at_call 129; (with_reducible refine (l3Floor_any _ _ _ Hdiag.out).mono ?_); rintro e w4 ⟨rfl, rfl⟩) | (go_at_call 123; (with_reducible refine (l2Scale_any _ _ _ _ _ _ (by omega) hic.drew).mono ?_); rintro e w5 ⟨p5, c5, rfl, ho5, hb5⟩; replace cc := belowCell hb5 cc; replace ft := belowFrz hb5 ct ft; replace ct := belowCell hb5 ct; replace cec := belowCell hb5 cec; replace cet := belowCell hb5 cet; have hg5 := Nat.lt_of_lt_of_le hgl.2.2 hb5.size) | (go_at_call 128; (with_reducible refine (l2Less_any _ _ _ _ _ _ _ _ (by omega) (hit.drew.below hb5) ho5.ints).mono ?_); rintro e w6 ⟨p6, c6, rfl, ho6, hb6⟩; replace cc := belowCell hb6 cc; replace ft := belowFrz hb6 ct ft; replace ct := belowCell hb6 ct; replace cec := belowCell hb6 cec; replace cet := belowCell hb6 cet; have hg6 := Nat.lt_of_lt_of_le hg5 hb6.size)))
                           | go_simp
                         refine hK.out _ _ ?_ (fun hHeld => ?_)
                         · ((try dsimp only); exact ⟨cc, cec, cet, ct⟩)
                         clear hK K
                         try simp only [Act.put, List.setIfInBounds_toArray, List.set_cons_zero, List.set_cons_succ])
                    first
                      | (refine WalkU.take (i := 25) (v := ?_) rfl (by kernel_rfl) (by kernel_rfl) (by kernel_rfl) (by kernel_rfl) (fun _ _ _ h => h) (Or.inl ⟨by rfl, ?_⟩) hHeld ?_
                         rotate_left
                         · (intro w hSw; (try dsimp only at hSw); go_simp; try with_reducible rfl)
                         try simp only [Act.put, List.setIfInBounds_toArray, List.set_cons_zero, List.set_cons_succ])
                      | (refine WalkU.take (i := 25) (v := undef) rfl (by kernel_rfl) (by kernel_rfl) (by kernel_rfl) (by kernel_rfl) (fun _ _ _ h => h) (Or.inr ⟨by rfl, rfl⟩) hHeld ?_
                         try simp only [Act.put, List.setIfInBounds_toArray, List.set_cons_zero, List.set_cons_succ])
                      | (refine WalkU.one (i := 25) rfl (by kernel_rfl) (fun K hK => ?_)
                         first
                           | (first | (go_at_call 129; (with_reducible refine (l3Floor_any _ _ _ Hdiag.out).mono ?_); rintro e w4 ⟨rfl, rfl⟩) | (go_at_call 123; (with_reducible refine (l2Scale_any _ _ _ _ _ _ (by omega) hic.drew).mono ?_); rintro e w5 ⟨p5, c5, rfl, ho5, hb5⟩; replace cc := belowCell hb5 cc; replace ft := belowFrz hb5 ct ft; replace ct := belowCell hb5 ct; replace cec := belowCell hb5 cec; replace cet := belowCell hb5 cet; have hg5 := Nat.lt_of_lt_of_le hgl.2.2 hb5.size) | (go_at_call 128; (with_reducible refine (l2Less_any _ _ _ _ _ _ _ _ (by omega) (hit.drew.below hb5) ho5.ints).mono ?_); rintro e w6 ⟨p6, c6, rfl, ho6, hb6⟩; replace cc := belowCell hb6 cc; replace ft := belowFrz hb6 ct ft; replace ct := belowCell hb6 ct; replace cec := belowCell hb6 cec; replace cet := belowCell hb6 cet; have hg6 := Nat.lt_of_lt_of_le hg5 hb6.size))
                           | (go_simp; (first | (go_at_call 129; (with_reducible refine (l3Floor_any _ _ _ Hdiag.out).mono ?_); rintro e w4 ⟨rfl, rfl⟩) | (go_at_call 123; (with_reducible refine (l2Scale_any _ _ _ _ _ _ (by omega) hic.drew).mono ?_); rintro e w5 ⟨p5, c5, rfl, ho5, hb5⟩; replace cc := belowCell hb5 cc; replace ft := belowFrz hb5 ct ft; replace ct := belowCell hb5 ct; replace cec := belowCell hb5 cec; replace cet := belowCell hb5 cet; have hg5 := Nat.lt_of_lt_of_le hgl.2.2 hb5.size) | (go_at_call 128; (with_reducible refine (l2Less_any _ _ _ _ _ _ _ _ (by omega) (hit.drew.below hb5) ho5.ints).mono ?_); rintro e w6 ⟨p6, c6, rfl, ho6, hb6⟩; replace cc := belowCell hb6 cc; replace ft := belowFrz hb6 ct ft; replace ct := belowCell hb6 ct; replace cec := belowCell hb6 cec; replace cet := belowCell hb6 cet; have hg6 := Nat.lt_of_lt_of_le hg5 hb6.size)))
                           | go_simp
                         refine hK.out _ _ ?_ (fun hHeld => ?_)
                         · ((try dsimp only); exact ⟨cc, cec, cet, ct⟩)
                         clear hK K
                         try simp only [Act.put, List.setIfInBounds_toArray, List.set_cons_zero, List.set_cons_succ])
                    first
                      | (refine WalkU.take (i := 26) (v := ?_) rfl (by kernel_rfl) (by kernel_rfl) (by kernel_rfl) (by kernel_rfl) (fun _ _ _ h => h) (Or.inl ⟨by rfl, ?_⟩) hHeld ?_
                         rotate_left
                         · (intro w hSw; (try dsimp only at hSw); go_simp; try with_reducible rfl)
                         try simp only [Act.put, List.setIfInBounds_toArray, List.set_cons_zero, List.set_cons_succ])
                      | (refine WalkU.take (i := 26) (v := undef) rfl (by kernel_rfl) (by kernel_rfl) (by kernel_rfl) (by kernel_rfl) (fun _ _ _ h => h) (Or.inr ⟨by rfl, rfl⟩) hHeld ?_
                         try simp only [Act.put, List.setIfInBounds_toArray, List.set_cons_zero, List.set_cons_succ])
                      | (refine WalkU.one (i := 26) rfl (by kernel_rfl) (fun K hK => ?_)
                         first
                           | (first | (go_at_call 129; (with_reducible refine (l3Floor_any _ _ _ Hdiag.out).mono ?_); rintro e w4 ⟨rfl, rfl⟩) | (go_at_call 123; (with_reducible refine (l2Scale_any _ _ _ _ _ _ (by omega) hic.drew).mono ?_); rintro e w5 ⟨p5, c5, rfl, ho5, hb5⟩; replace cc := belowCell hb5 cc; replace ft := belowFrz hb5 ct ft; replace ct := belowCell hb5 ct; replace cec := belowCell hb5 cec; replace cet := belowCell hb5 cet; have hg5 := Nat.lt_of_lt_of_le hgl.2.2 hb5.size) | (go_at_call 128; (with_reducible refine (l2Less_any _ _ _ _ _ _ _ _ (by omega) (hit.drew.below hb5) ho5.ints).mono ?_); rintro e w6 ⟨p6, c6, rfl, ho6, hb6⟩; replace cc := belowCell hb6 cc; replace ft := belowFrz hb6 ct ft; replace ct := belowCell hb6 ct; replace cec := belowCell hb6 cec; replace cet := belowCell hb6 cet; have hg6 := Nat.lt_of_lt_of_le hg5 hb6.size))
                           | (go_simp; (first | (go_at_call 129; (with_reducible refine (l3Floor_any _ _ _ Hdiag.out).mono ?_); rintro e w4 ⟨rfl, rfl⟩) | (go_at_call 123; (with_reducible refine (l2Scale_any _ _ _ _ _ _ (by omega) hic.drew).mono ?_); rintro e w5 ⟨p5, c5, rfl, ho5, hb5⟩; replace cc := belowCell hb5 cc; replace ft := belowFrz hb5 ct ft; replace ct := belowCell hb5 ct; replace cec := belowCell hb5 cec; replace cet := belowCell hb5 cet; have hg5 := Nat.lt_of_lt_of_le hgl.2.2 hb5.size) | (go_at_call 128; (with_reducible refine (l2Less_any _ _ _ _ _ _ _ _ (by omega) (hit.drew.below hb5) ho5.ints).mono ?_); rintro e w6 ⟨p6, c6, rfl, ho6, hb6⟩; replace cc := belowCell hb6 cc; replace ft := belowFrz hb6 ct ft; replace ct := belowCell hb6 ct; replace cec := belowCell hb6 cec; replace cet := belowCell hb6 cet; have hg6 := Nat.lt_of_lt_of_le hg5 hb6.size)))
                           | go_simp
                         refine hK.out _ _ ?_ (fun hHeld => ?_)
                         · ((try dsimp only); exact ⟨cc, cec, cet, ct⟩)
                         clear hK K
                         try simp only [Act.put, List.setIfInBounds_toArray, List.set_cons_zero, List.set_cons_succ])
                    first
                      | (refine WalkU.take (i := 27) (v := ?_) rfl (by kernel_rfl) (by kernel_rfl) (by kernel_rfl) (by kernel_rfl) (fun _ _ _ h => h) (Or.inl ⟨by rfl, ?_⟩) hHeld ?_
                         rotate_left
                         · (intro w hSw; (try dsimp only at hSw); go_simp; try with_reducible rfl)
                         try simp only [Act.put, List.setIfInBounds_toArray, List.set_cons_zero, List.set_cons_succ])
                      | (refine WalkU.take (i := 27) (v := undef) rfl (by kernel_rfl) (by kernel_rfl) (by kernel_rfl) (by kernel_rfl) (fun _ _ _ h => h) (Or.inr ⟨by rfl, rfl⟩) hHeld ?_
                         try simp only [Act.put, List.setIfInBounds_toArray, List.set_cons_zero, List.set_cons_succ])
                      | (refine WalkU.one (i := 27) rfl (by kernel_rfl) (fun K hK => ?_)
                         first
                           | (first | (go_at_call 129; (with_reducible refine (l3Floor_any _ _ _ Hdiag.out).mono ?_); rintro e w4 ⟨rfl, rfl⟩) | (go_at_call 123; (with_reducible refine (l2Scale_any _ _ _ _ _ _ (by omega) hic.drew).mono ?_); rintro e w5 ⟨p5, c5, rfl, ho5, hb5⟩; replace cc := belowCell hb5 cc; replace ft := belowFrz hb5 ct ft; replace ct := belowCell hb5 ct; replace cec := belowCell hb5 cec; replace cet := belowCell hb5 cet; have hg5 := Nat.lt_of_lt_of_le hgl.2.2 hb5.size) | (go_at_call 128; (with_reducible refine (l2Less_any _ _ _ _ _ _ _ _ (by omega) (hit.drew.below hb5) ho5.ints).mono ?_); rintro e w6 ⟨p6, c6, rfl, ho6, hb6⟩; replace cc := belowCell hb6 cc; replace ft := belowFrz hb6 ct ft; replace ct := belowCell hb6 ct; replace cec := belowCell hb6 cec; replace cet := belowCell hb6 cet; have hg6 := Nat.lt_of_lt_of_le hg5 hb6.size))
                           | (go_simp; (first | (go_at_call 129; (with_reducible refine (l3Floor_any _ _ _ Hdiag.out).mono ?_); rintro e w4 ⟨rfl, rfl⟩) | (go_at_call 123; (with_reducible refine (l2Scale_any _ _ _ _ _ _ (by omega) hic.drew).mono ?_); rintro e w5 ⟨p5, c5, rfl, ho5, hb5⟩; replace cc := belowCell hb5 cc; replace ft := belowFrz hb5 ct ft; replace ct := belowCell hb5 ct; replace cec := belowCell hb5 cec; replace cet := belowCell hb5 cet; have hg5 := Nat.lt_of_lt_of_le hgl.2.2 hb5.size) | (go_at_call 128; (with_reducible refine (l2Less_any _ _ _ _ _ _ _ _ (by omega) (hit.drew.below hb5) ho5.ints).mono ?_); rintro e w6 ⟨p6, c6, rfl, ho6, hb6⟩; replace cc := belowCell hb6 cc; replace ft := belowFrz hb6 ct ft; replace ct := belowCell hb6 ct; replace cec := belowCell hb6 cec; replace cet := belowCell hb6 cet; have hg6 := Nat.lt_of_lt_of_le hg5 hb6.size)))
                           | go_simp
                         refine hK.out _ _ ?_ (fun hHeld => ?_)
                         · ((try dsimp only); exact ⟨cc, cec, cet, ct⟩)
                         clear hK K
                         try simp only [Act.put, List.setIfInBounds_toArray, List.set_cons_zero, List.set_cons_succ])
                    first
                      | (refine WalkU.last (i := 28) rfl rfl (by kernel_rfl) (by kernel_rfl) (fun K hK => ?_)
                         first
                           | (first | (go_at_call 129; (with_reducible refine (l3Floor_any _ _ _ Hdiag.out).mono ?_); rintro e w4 ⟨rfl, rfl⟩) | (go_at_call 123; (with_reducible refine (l2Scale_any _ _ _ _ _ _ (by omega) hic.drew).mono ?_); rintro e w5 ⟨p5, c5, rfl, ho5, hb5⟩; replace cc := belowCell hb5 cc; replace ft := belowFrz hb5 ct ft; replace ct := belowCell hb5 ct; replace cec := belowCell hb5 cec; replace cet := belowCell hb5 cet; have hg5 := Nat.lt_of_lt_of_le hgl.2.2 hb5.size) | (go_at_call 128; (with_reducible refine (l2Less_any _ _ _ _ _ _ _ _ (by omega) (hit.drew.below hb5) ho5.ints).mono ?_); rintro e w6 ⟨p6, c6, rfl, ho6, hb6⟩; replace cc := belowCell hb6 cc; replace ft := belowFrz hb6 ct ft; replace ct := belowCell hb6 ct; replace cec := belowCell hb6 cec; replace cet := belowCell hb6 cet; have hg6 := Nat.lt_of_lt_of_le hg5 hb6.size))
                           | (go_simp; (first | (go_at_call 129; (with_reducible refine (l3Floor_any _ _ _ Hdiag.out).mono ?_); rintro e w4 ⟨rfl, rfl⟩) | (go_at_call 123; (with_reducible refine (l2Scale_any _ _ _ _ _ _ (by omega) hic.drew).mono ?_); rintro e w5 ⟨p5, c5, rfl, ho5, hb5⟩; replace cc := belowCell hb5 cc; replace ft := belowFrz hb5 ct ft; replace ct := belowCell hb5 ct; replace cec := belowCell hb5 cec; replace cet := belowCell hb5 cet; have hg5 := Nat.lt_of_lt_of_le hgl.2.2 hb5.size) | (go_at_call 128; (with_reducible refine (l2Less_any _ _ _ _ _ _ _ _ (by omega) (hit.drew.below hb5) ho5.ints).mono ?_); rintro e w6 ⟨p6, c6, rfl, ho6, hb6⟩; replace cc := belowCell hb6 cc; replace ft := belowFrz hb6 ct ft; replace ct := belowCell hb6 ct; replace cec := belowCell hb6 cec; replace cet := belowCell hb6 cet; have hg6 := Nat.lt_of_lt_of_le hg5 hb6.size)))
                           | go_simp
                         refine hK.out _ _ ?_
                         clear hK K
                         try simp only [Act.put, List.setIfInBounds_toArray, List.set_cons_zero, List.set_cons_succ])
                    · have hbd := (drewBelow wr).trans hb5
                      have hb7 := Below.step hbd hb6
                      have hst := (HK.out.below hb7).store (ho6.widen (Nat.le_trans hbd.size (Nat.le_refl _)) (Nat.le_refl _)) hbT.size hb7.size t (by omega)
                      rw [HS.out] at hst
                      change Own2 _ _ _ _ _ _ _ (redH c t T) at hst
                      go_wp2
                      go_roundw
                      case rel => exact ⟨t + 1, _, by omega, by go_num, by rw [HR.out]; exact hst.up', by rw [HR.out]; exact HTn, (Below.step hbT hb7).setCell (p := ⟨g, t, none⟩) hgl.1 _⟩
                      case measure => simp [intOf]; omega
                  · have e : t = c := by omega
                    subst e
                    go_wp2
                    go_roundw
                    case rel => exact ⟨t + 1, rows, by omega, by go_num, by rw [Hcol.out]; exact hown, by rw [Hcol.out]; exact HT.out.1.next HT.out.2, hbT⟩
                    case measure => simp [intOf]; omega
              -- END herm6.py
        · have e : c = k := by omega
          subst e
          go_wp2
          go_ret
          exact ⟨_, _, rfl, ⟨_, hown.up'⟩, hb⟩

end Go.Proofs.Ytdchckljggjaaaa
