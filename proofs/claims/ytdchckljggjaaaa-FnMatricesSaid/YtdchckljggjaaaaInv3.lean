/- Contracts of l3Minor and spec.InverseMatrix. Conditions: sizes. -/
import Derived.Test.YtdchckljggjaaaaInv2
namespace Go.Proofs.Ytdchckljggjaaaa
open Go.RowKit
set_option linter.unusedVariables false
set_option linter.unusedSimpArgs false
set_option maxRecDepth 100000

/-- The determinant of a minor as the reference reckons it. -/
def minorS (n : Nat) (xss : List (List Int)) : Int := if n = 0 then 1 else detS xss

theorem minorL_len {xss : List (List Int)} {n i j : Nat} (hl : xss.length = n + 1) (hi : i < n + 1) : (minorL xss i j).length = n := by
  rw [minorL, minorTo_len, hl, if_pos hi]; rfl

set_option maxHeartbeats 1000000 in
theorem l3Minor_any (p : Option Addr) (N c : Nat) (xss : List (List Int)) (i j : Nat) (w : World) (hN : N ≤ 2) (hx : Intss w p (N + 1) xss) (hs : Sq (N + 1) xss) (hi : i < N + 1) (hj : j < N + 1) :
    Calls Try.prog 94 #[.slice p (N + 1) c, .int .i64 i, .int .i64 j] w fun e w' => e = .returned (.int .i64 (minorS N (minorL xss i j))) ∧ Below w.heap.size w w' := by
  have hl := Lib.hid hx.len
  have Hr : Hid (∀ k, k < xss.length → (nthR xss k).length = N + 1) := Lib.hid fun k hk => hs.2 k (by rw [← hs.1]; exact hk)
  have Hs := Lib.hid hs
  have Hsm := Lib.hid (hs.minor hi hj)
  have hl4 := Lib.hid (minorL_len (i := i) (j := j) hs.1 hi)
  clear hs
  go_enter Try.func94, Try.ntmps94
  go_wp2
  go_loopw [7, 8] (fun v t wr => ∃ (k : Nat) (p' : Option Addr) (n' c' : Nat) (rows : List Row), k ≤ N + 1 ∧ t = .int .i64 k ∧ v = .slice p' n' c' ∧ Own2 wr w.heap.size wr.heap.size p' n' c' rows (minorTo xss i j k) ∧ n' ≤ k ∧ Below w.heap.size w wr) (fun _ t _ => N + 1 - (intOf t).toNat)
  case atStart => exact ⟨0, _, _, _, [], Nat.zero_le _, rfl, rfl, (Own2.empty w).up, Nat.zero_le _, (Below.refl _ _).alloc (Nat.le_refl _) _⟩
  case round =>
    obtain ⟨k, p', n', c', rows, hk, rfl, rfl, hown, hnk, hb⟩ := hrel
    by_cases hlt : k < N + 1
    · obtain ⟨b, o, q, m, d, rfl, hc, hmd, hd, hi2⟩ := (hx.below hb).cellc k hlt
      obtain rfl : m = N + 1 := by rw [← hi2.len]; exact Hr.out k (by rw [hl.out]; exact hlt)
      by_cases hki : k = i
      · subst hki
        go_wp2
        go_roundw
        case rel => exact ⟨k + 1, _, _, _, rows, by omega, by go_num, rfl, by rw [minorTo, if_pos rfl]; exact hown, by omega, hb⟩
        case measure => simp [intOf]; omega
      · have hki' : ((k : Int) == (i : Int)) = false := by simp; omega
        obtain ⟨b2, o2, rfl, _⟩ := hi2.cell 0 (by omega)
        have ht := (hi2).take (k := j) (by omega)
        have hjd : j ≤ d := by omega
        have hjd1 : j + 1 ≤ d := by omega
        have hlen : (cutAt (nthR xss k) j).length = N := by rw [cutAt_len (by rw [hi2.len]; exact hj), hi2.len]; rfl
        have Hlen := Lib.hid hlen
        clear hlen
        have hmin : minorTo xss i j (k + 1) = minorTo xss i j k ++ [cutAt (nthR xss k) j] := by rw [minorTo, if_neg hki]
        have Hmin := Lib.hid hmin
        clear hmin
        have hcd : wr.drew.cell? ⟨b, o + k, none⟩ = some (.slice (some ⟨b2, o2, none⟩) (N + 1) d) := hc
        have hca : (wr.alloc (.cells #[] 3)).drew.cell? ⟨b, o + k, none⟩ = some (.slice (some ⟨b2, o2, none⟩) (N + 1) d) := ((boxed wr _).cell (World.block_lt_of_cell? wr _ hc)).trans hc
        have hbl := World.block_lt_of_cell? wr _ hc
        have s1 : IntKind.i64.wrap ((j : Int) + 1) = (j : Int) + 1 := IntWalk.i64_in _ (by omega)
        have s2 : ((j : Int) + 1).toNat = j + 1 := by omega
        have s3 : (0 : Int) ≤ (j : Int) + 1 := by omega
        by_cases hd1 : d = j + 1
        · subst hd1
          obtain rfl : N = j := by omega
          have s4 : (N : Int) ≤ (N : Int) + 1 := by omega
          have hcut : ∀ W, Ints W (some ⟨b2, o2, none⟩) 0 ((nthR xss k).drop (N + 1)) := fun W => by
            rw [List.drop_eq_nil_of_le (by rw [hi2.len]; omega)]; exact Ints.nil _ _
          have Hcut := Lib.hid hcut
          clear hcut
          go_wp2
          go_region_law (first | (refine step_append_ints rfl (.tmp 20) (.tmp 26) rfl _ wr.heap.size _ _ _ _ _ rfl (Own.empty wr).drew _ _ _ _ rfl ((ht.alloc _).drew) (by omega) (sizeNewD (Below.refl _ _) _) ?_; intro p1 c1 w1 ho1 hg1; simp only [Nat.zero_add, List.nil_append] at ho1; have hb1 := Below.newD (Below.refl _ _) _ (hg1.belowO ((Own.empty wr).drew) (sizeNewD (Below.refl _ _) _)); have hc1 := (hb1.cell hbl).trans hc) | (refine step_append_ints rfl (.tmp 27) (.tmp 34) rfl _ wr.heap.size _ _ _ _ _ rfl ho1 _ _ _ _ rfl (Hcut.out _) (by omega) hb1.size ?_; intro p2 c2 w2 ho2 hg2; have hb2 := hb1.trans (hg2.belowO ho1 hb1.size)))
          all_goals
            have hbw2 := Below.step hb hb2
            have hown2 := hown.below hb2
            go_wp2_with (at_builtin; refine append_row rfl _ _ rfl _ w.heap.size _ _ _ _ _ rfl (hown2.outer.alloc _) _ _ _ _ rfl (cellNew _ _ _) (by omega) (sizeNew hbw2 _) ?_; intro p3 c3 w3 ho3 hg3)
            have hb3 : Below w.heap.size w w3 := (hbw2.alloc hbw2.size _).trans (hg3.below (sizeNew hbw2 _) (fun a ha => (hown2.outer.lt a ha).1))
            have h3 := hown2.app ho2 hb.size (boxed _ _) ho3 hg3
            go_roundw
            case rel => exact ⟨k + 1, _, _, _, _, by omega, by go_num, rfl, by rw [Hmin.out]; exact h3, by omega, hb3⟩
            case measure => simp [intOf]; omega
        · have s4 : (j : Int) + 1 ≤ ((N + 1 : Nat) : Int) := by omega
          have s5 : (j : Int) + 1 ≤ (d : Int) := by omega
          have s6 : j ≤ N := by omega
          go_wp2
          go_region_law (first | (refine step_append_ints rfl (.tmp 20) (.tmp 26) rfl _ wr.heap.size _ _ _ _ _ rfl (Own.empty wr).drew _ _ _ _ rfl ((ht.alloc _).drew) (by omega) (sizeNewD (Below.refl _ _) _) ?_; intro p1 c1 w1 ho1 hg1; simp only [Nat.zero_add, List.nil_append] at ho1; have hb1 := Below.newD (Below.refl _ _) _ (hg1.belowO ((Own.empty wr).drew) (sizeNewD (Below.refl _ _) _)); have hc1 := (hb1.cell hbl).trans hc; have hdr : Ints w1 (some ⟨b2, o2 + (j + 1), none⟩) (N - j) ((nthR xss k).drop (j + 1)) := (by rw [← Nat.add_sub_add_right N 1 j]; exact (hi2.below hb1).drop (j + 1))) | (refine step_append_ints rfl (.tmp 27) (.tmp 34) rfl _ wr.heap.size _ _ _ _ _ rfl ho1 _ _ _ _ rfl hdr (by omega) hb1.size ?_; intro p2 c2 w2 ho2 hg2; have hb2 := hb1.trans (hg2.belowO ho1 hb1.size)))
          all_goals
            rw [Nat.add_sub_of_le s6] at ho2
            have hbw2 := Below.step hb hb2
            have hown2 := hown.below hb2
            go_wp2_with (at_builtin; refine append_row rfl _ _ rfl _ w.heap.size _ _ _ _ _ rfl (hown2.outer.alloc _) _ _ _ _ rfl (cellNew _ _ _) (by omega) (sizeNew hbw2 _) ?_; intro p3 c3 w3 ho3 hg3)
            have hb3 : Below w.heap.size w w3 := (hbw2.alloc hbw2.size _).trans (hg3.below (sizeNew hbw2 _) (fun a ha => (hown2.outer.lt a ha).1))
            have h3 := hown2.app ho2 hb.size (boxed _ _) ho3 hg3
            go_roundw
            case rel => exact ⟨k + 1, _, _, _, _, by omega, by go_num, rfl, by rw [Hmin.out]; exact h3, by omega, hb3⟩
            case measure => simp [intOf]; omega
    · have e : k = N + 1 := by omega
      subst e
      have hn' : n' = N := by
        have h1 := hown.len
        rw [hown.count] at h1
        rw [h1, show minorTo xss i j (N + 1) = minorL xss i j by rw [minorL, hl.out]]
        exact hl4.out
      subst hn'
      have hmn : minorTo xss i j (n' + 1) = minorL xss i j := by rw [minorL, hl.out]
      rw [hmn] at hown
      clear hmn
      by_cases h0 : n' = 0
      · subst h0
        go_wp2_with fail
        go_ret
        exact ⟨rfl, hb⟩
      · have hz : ((n' : Int) == 0) = false := by simp; omega
        have hm1 : Hid (minorS n' (minorL xss i j) = detS (minorL xss i j)) := by show _ = _; rw [minorS, if_neg h0]
        have h01 : 1 ≤ n' := by omega
        clear h0
        go_wp2_with fail
        refine (l3Det_any _ _ _ _ _ hown.rd Hsm.out (by omega) (by omega)).mono ?_
        rintro e w1 ⟨rfl, hb1⟩
        go_wp2_with fail
        go_ret
        exact ⟨ret_int hm1.out.symm, Below.step hb hb1⟩

end Go.Proofs.Ytdchckljggjaaaa
