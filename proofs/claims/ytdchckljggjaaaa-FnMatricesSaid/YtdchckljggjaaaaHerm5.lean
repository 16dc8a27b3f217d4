/- Contract of impl.hermite. Conditions: sizes, a determinant other than nought. -/
import Derived.Test.YtdchckljggjaaaaHerm4
import Derived.Deep.LoopGhost
import Derived.StillTailTactics
namespace Go.Proofs.Ytdchckljggjaaaa
open Go.RowKit
set_option linter.unusedVariables false
set_option linter.unusedSimpArgs false
set_option maxRecDepth 100000

theorem Own2.cellRow {w : World} {lo hi g : Nat} {n c : Nat} {rows : List Row} {xss : List (List Int)} (h : Own2 w lo hi (some ⟨g, 0, none⟩) n c rows xss) {k : Nat} (hk : k < rows.length) : w.cell? ⟨g, k, none⟩ = some (.slice rows[k].1 rows[k].2.1 rows[k].2.2) := by
  obtain ⟨g', hg, hc⟩ := h.rowAt k (by rw [← h.count]; exact hk) hk
  injection hg with hg
  injection hg with e
  subst e
  exact hc
theorem Own2.frz {w : World} {lo hi g : Nat} {n c : Nat} {rows : List Row} {xss : List (List Int)} (h : Own2 w lo hi (some ⟨g, 0, none⟩) n c rows xss) (k : Nat) : w.frozen? ⟨g, k, none⟩ = false := h.outer.frozen k
/-- A number of a matrix, as it lies in memory. -/
theorem Own2.cellEnt {w : World} {lo hi : Nat} {p : Option Addr} {n c : Nat} {rows : List Row} {xss : List (List Int)} (h : Own2 w lo hi p n c rows xss) (hs : Sq n xss) {k j : Nat} (hk : k < rows.length) (hj : j < n) :
    ∃ b, rows[k].1 = some ⟨b, 0, none⟩ ∧ rows[k].2.1 = n ∧ n ≤ rows[k].2.2 ∧ w.cell? ⟨b, j, none⟩ = some (.int .i64 (ent xss k j)) := by
  have hin := h.inner k hk
  have hkn : k < n := by rw [← h.count]; exact hk
  have hn : rows[k].2.1 = n := by rw [← hin.len]; exact hs.2 k hkn
  rcases hin.form with ⟨_, h0, _⟩ | ⟨b, hb, _, _, _, hcap, _⟩
  · omega
  · rw [hb] at hin
    have := hin.cell (k := j) (by omega)
    exact ⟨b, hb, hn, by omega, this⟩

theorem stepH_swap {M : List (List Int)} {c r : Nat} {s : List Int} (hne : r ≠ c) (hc : c < M.length) (hr : r < M.length) :
    ((M.set c s).set r (nthR (M.set c s) c)).set c (nthR (M.set c s) r) = (M.set c (nthR M r)).set r s := by
  rw [nthR_set _ hc, if_pos rfl, nthR_set _ hc, if_neg (Ne.symm hne)]
  refine List.ext_getElem (by simp) fun i h1 h2 => ?_
  simp only [List.getElem_set]
  by_cases h3 : c = i
  · subst h3; simp [hne]
  · by_cases h4 : r = i
    · subst h4; simp [h3]
    · simp [h3, h4]

theorem Own2.up' {w : World} {lo hi : Nat} {p : Option Addr} {n c : Nat} {rows : List Row} {xss : List (List Int)} (h : Own2 w lo hi p n c rows xss) : Own2 w lo w.heap.size p n c rows xss := h.up

theorem belowCell {w w1 : World} (hb : Below w.heap.size w w1) {a : Addr} {v : Value} (h : w.cell? a = some v) : w1.cell? a = some v :=
  (hb.cell (World.block_lt_of_cell? w a h)).trans h
/-- A new row lies above. -/
theorem outOf {w w4 : World} {lo' hi' n c hi : Nat} {p : Option Addr} {xs : List Int} (h : Own w4 w.drew.heap.size hi p n c xs) (hh : hi' ≤ w.heap.size) : Out lo' hi' p := fun a ha => .inr (by
  have h1 := (h.lt a ha).1
  rw [World.size_drew] at h1
  omega)

set_option maxRecDepth 100000 in
set_option maxHeartbeats 4000000 in
theorem hermite_any (p : Option Addr) (n c0 : Nat) (xss : List (List Int)) (w : World) (h1 : 1 ≤ n) (h3 : n ≤ 3) (hx : Intss w p n xss) (hI : Inv n 0 xss) :
    Calls Try.prog 95 #[.slice p n c0] w (NewM w n (hermTo n xss n)) := by
  have hl := Lib.hid hx.len
  have HI := Lib.hid hI
  have hlen : ∀ k, k < n → (nthR xss k).length ≤ 1048576 := fun k hk => by rw [hI.good.sq.2 k hk]; omega
  have Hlen := Lib.hid hlen
  clear hlen hI
  go_enter Try.func95, Try.ntmps95
  go_wp2_with fail
  refine (copyPoints_any _ _ _ _ _ (by omega) hx Hlen.out).mono ?_
  rintro e w1 ⟨p1, c1, rfl, ⟨rows0, ho1⟩, hb1⟩
  obtain ⟨g, rfl, _⟩ := ho1.rowAt 0 (by omega) (by rw [ho1.count]; omega)
  have hs1 := hb1.size
  go_wp2_with fail
  go_loopw [11] (fun i wr => ∃ (c : Nat) (rows : List Row), c ≤ n ∧ i = .int .i64 c ∧ Own2 wr w.heap.size w1.heap.size (some ⟨g, 0, none⟩) n c1 rows (hermTo n xss c) ∧ Hid (Inv n c (hermTo n xss c)) ∧ w1.heap.size ≤ wr.heap.size ∧ Below w.heap.size w wr) (fun i _ => n - (intOf i).toNat)
  case atStart => exact ⟨0, _, Nat.zero_le _, rfl, ho1, HI, Nat.le_refl _, hb1⟩
  case round =>
    obtain ⟨c, rows, hc, rfl, hown, HIc, hsw, hb⟩ := hrel
    by_cases hlt : c < n
    · generalize wr = Wc at *
      have hd1 : decide ((c : Int) < (n : Int)) = true := by simp; omega
      generalize hM : hermTo n xss c = Mc at *
      go_wp2
      go_loopw [5] (fun i wr => ∃ (r : Nat) (rows : List Row), c + 1 ≤ r ∧ r ≤ n ∧ i = .int .i64 r ∧ Own2 wr w.heap.size w1.heap.size (some ⟨g, 0, none⟩) n c1 rows (elimsTo c Mc (r - (c + 1))) ∧ Hid (Inv n c (elimsTo c Mc (r - (c + 1))) ∧ ZC c r (elimsTo c Mc (r - (c + 1)))) ∧ w1.heap.size ≤ wr.heap.size ∧ Below w.heap.size w wr) (fun i _ => n - (intOf i).toNat)
      case atStart => exact ⟨c + 1, rows, Nat.le_refl _, by omega, by go_num, by rw [Nat.sub_self]; exact hown, by rw [Nat.sub_self]; exact ⟨HIc.out, fun r h1 h2 => by omega⟩, hsw, hb⟩
      case round =>
        obtain ⟨r, rows, hcr, hrn, rfl, hown, HId, hsw, hb⟩ := hrel
        by_cases hlt2 : r < n
        · generalize wr = Wd at *
          have hd2 : decide ((r : Int) < (n : Int)) = true := by simp; omega
          have hnext : elimsTo c Mc (r + 1 - (c + 1)) = elimA c r (elimsTo c Mc (r - (c + 1))) := by
            rw [show r + 1 - (c + 1) = (r - (c + 1)) + 1 by omega, elimsTo, show c + 1 + (r - (c + 1)) = r by omega]
          have Hnext := Lib.hid hnext
          clear hnext
          generalize hMd : elimsTo c Mc (r - (c + 1)) = Md at *
          have HMd := Lib.hid hMd
          clear hMd
          go_wp2
          go_loopg [] ((ent Md r c).natAbs) (fun k wr => ∃ (rows : List Row) (M : List (List Int)), k = (ent M r c).natAbs ∧ Own2 wr w.heap.size w1.heap.size (some ⟨g, 0, none⟩) n c1 rows M ∧ Hid (Inv n c M ∧ ZC c r M ∧ elimA c r M = elimA c r Md) ∧ w1.heap.size ≤ wr.heap.size ∧ Below w.heap.size w wr)
          case atStart => exact ⟨rows, Md, rfl, hown, ⟨HId.out.1, HId.out.2, rfl⟩, hsw, hb⟩
          case round =>
            obtain ⟨rows, M, hk, hown, HIm, hsw, hb⟩ := hrel
            have Hk := Lib.hid hk
            clear hk
            have hcnt := hown.count
            have hsq := HIm.out.1.good.sq
            have hrr : r < rows.length := by omega
            have hcr2 : c < rows.length := by omega
            obtain ⟨br, ebr, enr, hcapr, cer⟩ := hown.cellEnt hsq hrr (show c < n by omega)
            obtain ⟨bc, ebc, enc, hcapc, cec⟩ := hown.cellEnt hsq hcr2 (show c < n by omega)
            have cr := hown.cellRow hrr
            have cc := hown.cellRow hcr2
            by_cases h0 : ent M r c = 0
            · have h0' : (ent M r c != 0) = false := by simp [h0]
              have hdone : M = elimsTo c Mc (r + 1 - (c + 1)) := by rw [Hnext.out, ← HIm.out.2.2, elimA_done h0]
              have HIn : Hid (Inv n c M ∧ ZC c (r + 1) M) := ⟨HIm.out.1, fun r' h1 h2 => by
                by_cases e : r' = r
                · subst e; exact h0
                · exact HIm.out.2.1 r' h1 (by omega)⟩
              have Hdone := Lib.hid hdone
              rw [ebr, enr] at cr
              clear h0 hdone hsq
              go_wp2
              go_roundw
              case rel => exact ⟨r + 1, rows, by omega, by omega, by go_num, by rw [← Hdone.out]; exact hown, by rw [← Hdone.out]; exact HIn, hsw, hb⟩
              case measure => simp [intOf]; omega
            · have h0' : (ent M r c != 0) = true := by simp [h0]
              have hgood := HIm.out.1.good
              have Hstep : Hid (Inv n c (stepH c r M) ∧ ZC c r (stepH c r M) ∧ elimA c r (stepH c r M) = elimA c r Md ∧ (ent (stepH c r M) r c).natAbs < (ent M r c).natAbs) :=
                ⟨HIm.out.1.step h3 (by omega) hlt2, HIm.out.2.1.step hgood (by omega) hlt2, by rw [← elimA_step hgood hlt hlt2 h0]; exact HIm.out.2.2, stepH_less hgood hlt hlt2 h0⟩
              obtain ⟨lo', hi', hmk, hout, hlo', hhi', hset⟩ := hown.markO c hcr2 (by omega)
              have hor := hout r hrr (by omega)
              have hir := (hown.inner r hrr).ints
              have hcl : nthR M c = nthR M c := rfl
              rw [ebr] at hor
              rw [ebr, enr] at cr hir
              rw [ebc, enc] at cc hmk hset
              have Hset := Lib.hid hset
              have Hrr : Hid (Row.val rows[r] = .slice (some ⟨br, 0, none⟩) n rows[r].2.2 ∧ Row.val rows[c] = .slice (some ⟨bc, 0, none⟩) n rows[c].2.2) := ⟨by rw [Row.val, ebr, enr], by rw [Row.val, ebc, enc]⟩
              have hlr : rows[r].2.2 ≤ 9223372036854775807 := by
                rcases (hown.inner r hrr).form with ⟨_, _, h2⟩ | ⟨_, _, _, _, _, _, h2⟩
                · omega
                · unfold maxLen at h2; omega
              clear hset hgood hout hcl hsq ebr enr ebc enc
              generalize hdr : rows[r].2.2 = dr at *
              generalize hdc : rows[c].2.2 = dc at *
              go_wp2
              go_still_tail 23, (by kernel_rfl)
              change wpList _ _ _ _ _ wr.drew
              go_wp2_with fail
              refine (less_any lo' hi' _ _ _ _ _ _ _ _ _ (by omega) hmk.drew hir.drew hor).mono ?_
              rintro e w5 ⟨rfl, ho5, hw5⟩
              obtain ⟨hown5, hw6⟩ := Hset.out _ _ ho5 ((Within.of_below (drewBelow wr)).trans hw5)
              have hb5 := Below.mark hb hw6 (Nat.le_refl _)
              have hsw5 := hw6.size
              have cr5 : w5.cell? ⟨g, r, none⟩ = some (Row.val rows[r]) := hown5.cellRow hrr
              have cc5 : w5.cell? ⟨g, c, none⟩ = some (Row.val rows[c]) := hown5.cellRow hcr2
              have hsw7 := hown5.swap hrr hcr2 (show r ≠ c by omega)
              rw [stepH_swap (by omega) (by rw [← hown.len]; exact hcr2) (by rw [← hown.len]; exact hrr)] at hsw7
              rw [Hrr.out.1] at cr5 hsw7
              rw [Hrr.out.2] at cc5 hsw7
              have fr5 := hown5.frz r
              have fc5 := hown5.frz c
              have hgl := (hown5.outer.lt _ rfl)
              have hne1 : (r : Nat) ≠ c := by omega
              clear cr cc cer cec hmk hir hor hw5 ho5
              go_wp2
              go_region
              all_goals
                go_wp2
                go_roundg ((ent (stepH c r M) r c).natAbs)
                case measure => rw [Hk.out]; exact Hstep.out.2.2.2
                case rel => exact ⟨_, _, rfl, hsw7.drew, ⟨Hstep.out.1, Hstep.out.2.1, Hstep.out.2.2.1⟩, by simp; omega, ((hb5.setCell (p := ⟨g, r, none⟩) hgl.1 _).setCell (p := ⟨g, c, none⟩) hgl.1 _).drew⟩
        · obtain rfl : r = n := by omega
          have hcol : hermTo r xss (c + 1) = redTo c (negIf c (elimsTo c Mc (r - (c + 1)))) c := by
            rw [hermTo, hM, colH, show r - 1 - c = r - (c + 1) by omega]
          have Hcol := Lib.hid hcol
          have HM := Lib.hid hM
          clear hcol hM
          generalize hMd : elimsTo c Mc (r - (c + 1)) = Md at *
          have HMd := Lib.hid hMd
          clear hMd
          have hcnt := hown.count
          have hsq := HId.out.1.good.sq
          have hcr2 : c < rows.length := by omega
          obtain ⟨bc, ebc, enc, hcapc, cec⟩ := hown.cellEnt hsq hcr2 (show c < r by omega)
          have cc := hown.cellRow hcr2
          obtain ⟨lo', hi', hmk, hout, hlo', hhi', hset⟩ := hown.markO c hcr2 (by omega)
          have hic := (hown.inner c hcr2).ints
          rw [ebc, enc] at cc hmk hset hic
          have Hset := Lib.hid hset
          have hlc : rows[c].2.2 ≤ 9223372036854775807 := by
            rcases (hown.inner c hcr2).form with ⟨_, _, h2⟩ | ⟨_, _, _, _, _, _, h2⟩
            · omega
            · unfold maxLen at h2; omega
          have Hrc : Hid ((Value.slice rows[c].1 rows[c].2.1 rows[c].2.2) = .slice (some ⟨bc, 0, none⟩) r rows[c].2.2) := by show _ = _; rw [ebc, enc]
          clear hset hout hsq ebc enc
          by_cases h0 : ent Md c c < 0
          · have hN : negIf c Md = negH c Md := by rw [negIf, if_pos h0]
            have HN : Hid (Inv r c (negIf c Md) ∧ ZC c r (negIf c Md)) := by
              show _ ∧ _
              rw [hN]; exact ⟨HId.out.1.neg h3 hlt, HId.out.2.neg HId.out.1.good hlt⟩
            have HNe := Lib.hid hN
            clear hN
            generalize hdc : rows[c].2.2 = dc at *
            go_wp2
            have cc5 : ∀ w5 : World, Own2 w5 w.heap.size w1.heap.size (some ⟨g, 0, none⟩) r c1 rows (Md.set c (subRow (nthR Md c) 2 (nthR Md c))) → w5.cell? ⟨g, c, none⟩ = some (.slice (some ⟨bc, 0, none⟩) r dc) := fun w5 h5 => by
              have h6 := h5.cellRow hcr2
              rw [hdc, Hrc.out] at h6
              exact h6
            have Cc5 := Lib.hid cc5
            clear cc5
            go_region_held3 (fun w' => w'.cell? ⟨g, c, none⟩ = some (.slice (some ⟨bc, 0, none⟩) r dc)) (exact cc) (first | (go_at_call 78; (with_reducible refine (copyInts_any _ _ _ _ _ (by omega) hic.drew).mono ?_); rintro e w4 ⟨p4, c4, rfl, ho4, hb4⟩; replace cc := belowCell hb4 cc; have hs4 := hb4.size; have hou : Out lo' hi' p4 := outOf ho4 (Nat.le_trans hhi' hsw)) | (go_at_call 126; (with_reducible refine (less_any lo' hi' _ _ _ _ _ _ _ _ _ (by omega) (hmk.drew.below hb4) ho4.ints hou).mono ?_); rintro e w5 ⟨rfl, ho5, hw5⟩; obtain ⟨hown5, hw6⟩ := Hset.out _ _ ho5 ((Within.of_below (Below.step (drewBelow wr) hb4)).trans hw5); replace cc := Cc5.out _ hown5))
            have hb5 := Below.mark hb hw6 (Nat.le_refl _)
            have hsw5 := Nat.le_trans hsw hw6.size
            change Own2 w5 _ _ _ _ _ _ (negH c Md) at hown5
            rw [← HNe.out] at hown5
            clear cc cec hmk hic hw5 ho5 hown hb hsw hw6
            have hown := hown5
            have hb := hb5
            have hsw := hsw5
            clear hown5 hb5 hsw5
            generalize negIf c Md = N0 at *
            go_wp2
            go_loopw [6] (fun i wr => ∃ (t : Nat) (rows : List Row), t ≤ c ∧ i = .int .i64 t ∧ Own2 wr w.heap.size w1.heap.size (some ⟨g, 0, none⟩) r c1 rows (redTo c N0 t) ∧ Hid (Inv r c (redTo c N0 t) ∧ ZC c r (redTo c N0 t)) ∧ w1.heap.size ≤ wr.heap.size ∧ Below w.heap.size w wr) (fun i _ => c - (intOf i).toNat)
            case atStart => exact ⟨0, rows, Nat.zero_le _, rfl, hown, HN, hsw, hb⟩
            case round =>
              obtain ⟨t, rows, ht, rfl, hown, HT, hsw, hb⟩ := hrel
              by_cases hlt4 : t < c
              · have hcnt := hown.count
                have hsq := HT.out.1.good.sq
                have htn : t < r := by omega
                have htr : t < rows.length := by omega
                have hcr2 : c < rows.length := by omega
                have hdiag := HT.out.1.diag h3 HT.out.2 hlt
                have HTn : Hid (Inv r c (redH c t (redTo c N0 t)) ∧ ZC c r (redH c t (redTo c N0 t))) := ⟨HT.out.1.red h3 hlt4 hlt, HT.out.2.red HT.out.1.good hlt4 hlt⟩
                obtain ⟨bt, ebt, ent', hcapt, cet⟩ := hown.cellEnt hsq htr (show c < r by omega)
                obtain ⟨bc, ebc, enc, hcapc, cec⟩ := hown.cellEnt hsq hcr2 (show c < r by omega)
                have ct := hown.cellRow htr
                have cc := hown.cellRow hcr2
                obtain ⟨lo', hi', hmk, hout, hlo', hhi', hset⟩ := hown.markO t htr (by omega)
                have hoc := hout c hcr2 (by omega)
                have hic := (hown.inner c hcr2).ints
                rw [ebc] at hoc
                rw [ebc, enc] at cc hic
                rw [ebt, ent'] at ct hmk hset
                have Hset := Lib.hid hset
                have hlc : rows[c].2.2 ≤ 9223372036854775807 := by
                  rcases (hown.inner c hcr2).form with ⟨_, _, h2⟩ | ⟨_, _, _, _, _, _, h2⟩
                  · omega
                  · unfold maxLen at h2; omega
                have Hdiag := Lib.hid hdiag
                clear hset hout hsq ebt ent' ebc enc hdiag
                generalize hdt : rows[t].2.2 = dt at *
                generalize hdc : rows[c].2.2 = dc at *
                clear hdt hdc
                have HR : Hid (redTo c N0 (t + 1) = redH c t (redTo c N0 t)) := rfl
                generalize redTo c N0 t = T at *
                go_wp2
                refine wp_region_still_tail 23 (by kernel_rfl) (by kernel_rfl) ?_
                simp only [List.take_succ_cons, List.take_zero, List.drop_succ_cons, List.drop_zero]
                repeat still_step
                still_call ((down_any _ _ _ Hdiag.out).mono fun e w' h => ⟨h.1, h.2.symm⟩)
                repeat still_step
                refine wpStill_nil ?_
                change wpList _ _ _ _ _ wr.drew
                go_wp2_with fail
                refine (less_any lo' hi' _ _ _ _ _ _ _ _ _ (by omega) hmk.drew hic.drew hoc).mono ?_
                rintro e w5 ⟨rfl, ho5, hw5⟩
                obtain ⟨hown5, hw6⟩ := Hset.out _ _ ho5 ((Within.of_below (drewBelow wr)).trans hw5)
                have hb5 := Below.mark hb hw6 (Nat.le_refl _)
                have hsw5 := Nat.le_trans hsw hw6.size
                change Own2 w5 _ _ _ _ _ _ (redH c t T) at hown5
                clear ct cc cet cec hmk hic hw5 ho5
                go_wp2
                go_roundw
                case rel => exact ⟨t + 1, rows, by omega, by go_num, by rw [HR.out]; exact hown5, by rw [HR.out]; exact HTn, hsw5, hb5⟩
                case measure => simp [intOf]; omega
              · have e : t = c := by omega
                subst e
                go_wp2
                go_roundw
                case rel => exact ⟨t + 1, rows, by omega, by go_num, by rw [Hcol.out]; exact hown, by rw [Hcol.out]; exact HT.out.1.next HT.out.2, hsw, hb⟩
                case measure => simp [intOf]; omega
          · have hN : negIf c Md = Md := by rw [negIf, if_neg h0]
            have h0' : 0 ≤ ent Md c c := by omega
            have HN : Hid (Inv r c (negIf c Md) ∧ ZC c r (negIf c Md)) := by
              show _ ∧ _
              rw [hN]; exact HId.out
            have HNe := Lib.hid hN
            rw [← hN] at hown
            clear hN h0
            generalize hdc : rows[c].2.2 = dc at *
            clear hdc hmk hic Hset
            have hcl : ∃ x : Unit, True := ⟨(), trivial⟩
            generalize negIf c Md = N0 at *
            go_wp2
            go_loopw [6] (fun i wr => ∃ (t : Nat) (rows : List Row), t ≤ c ∧ i = .int .i64 t ∧ Own2 wr w.heap.size w1.heap.size (some ⟨g, 0, none⟩) r c1 rows (redTo c N0 t) ∧ Hid (Inv r c (redTo c N0 t) ∧ ZC c r (redTo c N0 t)) ∧ w1.heap.size ≤ wr.heap.size ∧ Below w.heap.size w wr) (fun i _ => c - (intOf i).toNat)
            case atStart => exact ⟨0, rows, Nat.zero_le _, rfl, hown, HN, hsw, hb⟩
            case round =>
              obtain ⟨t, rows, ht, rfl, hown, HT, hsw, hb⟩ := hrel
              by_cases hlt4 : t < c
              · have hcnt := hown.count
                have hsq := HT.out.1.good.sq
                have htn : t < r := by omega
                have htr : t < rows.length := by omega
                have hcr2 : c < rows.length := by omega
                have hdiag := HT.out.1.diag h3 HT.out.2 hlt
                have HTn : Hid (Inv r c (redH c t (redTo c N0 t)) ∧ ZC c r (redH c t (redTo c N0 t))) := ⟨HT.out.1.red h3 hlt4 hlt, HT.out.2.red HT.out.1.good hlt4 hlt⟩
                obtain ⟨bt, ebt, ent', hcapt, cet⟩ := hown.cellEnt hsq htr (show c < r by omega)
                obtain ⟨bc, ebc, enc, hcapc, cec⟩ := hown.cellEnt hsq hcr2 (show c < r by omega)
                have ct := hown.cellRow htr
                have cc := hown.cellRow hcr2
                obtain ⟨lo', hi', hmk, hout, hlo', hhi', hset⟩ := hown.markO t htr (by omega)
                have hoc := hout c hcr2 (by omega)
                have hic := (hown.inner c hcr2).ints
                rw [ebc] at hoc
                rw [ebc, enc] at cc hic
                rw [ebt, ent'] at ct hmk hset
                have Hset := Lib.hid hset
                have hlc : rows[c].2.2 ≤ 9223372036854775807 := by
                  rcases (hown.inner c hcr2).form with ⟨_, _, h2⟩ | ⟨_, _, _, _, _, _, h2⟩
                  · omega
                  · unfold maxLen at h2; omega
                have Hdiag := Lib.hid hdiag
                clear hset hout hsq ebt ent' ebc enc hdiag
                generalize hdt : rows[t].2.2 = dt at *
                generalize hdc : rows[c].2.2 = dc at *
                clear hdt hdc
                have HR : Hid (redTo c N0 (t + 1) = redH c t (redTo c N0 t)) := rfl
                generalize redTo c N0 t = T at *
                go_wp2
                refine wp_region_still_tail 23 (by kernel_rfl) (by kernel_rfl) ?_
                simp only [List.take_succ_cons, List.take_zero, List.drop_succ_cons, List.drop_zero]
                repeat still_step
                still_call ((down_any _ _ _ Hdiag.out).mono fun e w' h => ⟨h.1, h.2.symm⟩)
                repeat still_step
                refine wpStill_nil ?_
                change wpList _ _ _ _ _ wr.drew
                go_wp2_with fail
                refine (less_any lo' hi' _ _ _ _ _ _ _ _ _ (by omega) hmk.drew hic.drew hoc).mono ?_
                rintro e w5 ⟨rfl, ho5, hw5⟩
                obtain ⟨hown5, hw6⟩ := Hset.out _ _ ho5 ((Within.of_below (drewBelow wr)).trans hw5)
                have hb5 := Below.mark hb hw6 (Nat.le_refl _)
                have hsw5 := Nat.le_trans hsw hw6.size
                change Own2 w5 _ _ _ _ _ _ (redH c t T) at hown5
                clear ct cc cet cec hmk hic hw5 ho5
                go_wp2
                go_roundw
                case rel => exact ⟨t + 1, rows, by omega, by go_num, by rw [HR.out]; exact hown5, by rw [HR.out]; exact HTn, hsw5, hb5⟩
                case measure => simp [intOf]; omega
              · have e : t = c := by omega
                subst e
                go_wp2
                go_roundw
                case rel => exact ⟨t + 1, rows, by omega, by go_num, by rw [Hcol.out]; exact hown, by rw [Hcol.out]; exact HT.out.1.next HT.out.2, hsw, hb⟩
                case measure => simp [intOf]; omega
    · have e : c = n := by omega
      subst e
      go_wp2
      go_ret
      exact ⟨_, _, rfl, ⟨_, hown.up'⟩, hb⟩

end Go.Proofs.Ytdchckljggjaaaa
