/- Contract of impl.InverseMatrix. Conditions: sizes. -/
import Derived.Test.YtdchckljggjaaaaInv
import Derived.Test.YtdchckljggjaaaaMark2
namespace Go.Proofs.Ytdchckljggjaaaa
open Go.RowKit
set_option linter.unusedVariables false
set_option linter.unusedSimpArgs false
set_option maxRecDepth 100000

theorem Intss.drew {w : World} {p : Option Addr} {n : Nat} {xss : List (List Int)} (h : Intss w p n xss) : Intss w.drew p n xss := h.below (drewBelow w)

/-- A row, each entry times d. -/
def mulRow (d : Int) (xs : List Int) : List Int := xs.map fun a => wrap64 (a * d)
theorem mulRow_length (d : Int) (xs : List Int) : (mulRow d xs).length = xs.length := by simp [mulRow]
theorem mulRow_nth {d : Int} {xs : List Int} {k : Nat} (h : k < xs.length) : nth (mulRow d xs) k = wrap64 (nth xs k * d) := by
  rw [nth_eq (by rw [mulRow_length]; exact h), nth_eq h]; simp [mulRow]
/-- The inverse, where the determinant is 1 or -1. -/
def invW (xss : List (List Int)) : List (List Int) := (adjW xss xss.length).map (mulRow (detV xss))
theorem invW_length (xss : List (List Int)) : (invW xss).length = xss.length := by simp [invW, adjW_length]
theorem invW_nth {xss : List (List Int)} {k : Nat} (h : k < xss.length) : nthR (invW xss) k = mulRow (detV xss) (adjRow xss xss.length k) := by
  rw [nthR_eq (by rw [invW_length]; exact h)]; simp [invW, adjW]
theorem invW_nth' {xss : List (List Int)} {n k : Nat} (hn : xss.length = n) (h : k < n) : nthR (invW xss) k = mulRow (detV xss) (adjRow xss n k) := by
  subst hn; exact invW_nth h
def invV (xss : List (List Int)) : List (List Int) × Bool := if unimV xss = true then matIf (invW xss) else ([], false)

theorem implInverse_any (p : Option Addr) (n c : Nat) (xss : List (List Int)) (w : World) (hn : n ≤ 1048576) (hx : Intss w p n xss) :
    Calls Try.prog 38 #[.slice p n c] w (NewMB w (invV xss)) := by
  have hl := Lib.hid hx.len
  cases h1 : unimV xss
  · go_enter Try.func38, Try.ntmps38
    go_wp2_with fail
    refine (implUnim_any _ _ _ _ _ (by omega) hx).mono ?_
    rw [h1]
    rintro e w1 ⟨rfl, hb1⟩
    go_wp2_with fail
    go_ret2
    rw [show invV xss = ([], false) by simp [invV, h1]]
    exact NewMB.none_ hb1
  · have hmat : isMat xss = true := by
      cases h : isMat xss
      · simp [unimV, detV, h] at h1
      · rfl
    obtain ⟨hs, hl1, hl3, _⟩ := isMat_facts hmat
    rw [hl.out] at hs hl1 hl3
    obtain ⟨N, hN⟩ : ∃ N, n = N + 1 := ⟨n - 1, by omega⟩
    subst hN
    have Hs := Lib.hid hs
    clear hs
    have H : Hid (invV xss = matIf (invW xss)) := by show _ = _; simp [invV, h1]
    have hl4 := Lib.hid (show (invW xss).length = N + 1 by rw [invW_length]; exact hl.out)
    have hl5 := Lib.hid (adjW_length xss (N + 1))
    go_enter Try.func38, Try.ntmps38
    go_wp2_with fail
    refine (implUnim_any _ _ _ _ _ (by omega) hx).mono ?_
    rw [h1]
    rintro e w0 ⟨rfl, hb0⟩
    go_wp2_with fail
    refine (adjugate_any _ _ _ _ _ (by omega) (hx.below hb0) Hs.out).mono ?_
    rintro e w1 ⟨p1, c1, rfl, ⟨rows, hadj⟩, hb1⟩
    have hbw := Below.step hb0 hb1
    have hsz := hb0.size
    have hcnt := Lib.hid hadj.count
    go_wp2_with fail
    go_loopw [15] (fun i wr => ∃ (k : Nat), k ≤ N + 1 ∧ i = .int .i64 k ∧ Own2 wr w0.heap.size w1.heap.size p1 (N + 1) c1 rows (mixR (invW xss) (adjW xss (N + 1)) k) ∧ w1.heap.size ≤ wr.heap.size ∧ Below w.heap.size w wr) (fun i _ => N + 1 - (intOf i).toNat)
    case atStart => exact ⟨0, Nat.zero_le _, rfl, by rw [mixR_zero]; exact hadj, Nat.le_refl _, hbw⟩
    case round =>
      obtain ⟨k, hk, rfl, hown, hsw, hb⟩ := hrel
      by_cases hlt : k < N + 1
      · have hkr : k < rows.length := by rw [hcnt.out]; exact hlt
        obtain ⟨lo', hi', ho, hset⟩ := hown.mark k hkr
        rw [mixR_nth (by rw [hl4.out]; exact hk), adjW_nth hlt] at ho
        have hrl := ho.len
        rw [adjRow_length] at hrl
        have hcell := hown.rowAt k hlt hkr
        generalize hr : rows[k] = r at *
        obtain ⟨q, m, d⟩ := r
        obtain ⟨g, rfl, hc⟩ := hcell
        have Hset := Lib.hid hset
        clear hset hr
        dsimp only at hrl
        subst hrl
        generalize wr = W at *
        go_wp2_with fail
        go_loopw [21] (fun i wr => ∃ t : Nat, t ≤ N + 1 ∧ i = .int .i64 t ∧ Own wr lo' hi' q (N + 1) d (mix (mulRow (detV xss) (adjRow xss (N + 1) k)) (adjRow xss (N + 1) k) t) ∧ Within lo' hi' W wr) (fun i _ => N + 1 - (intOf i).toNat)
        case atStart => exact ⟨0, Nat.zero_le _, rfl, by rw [mix_zero]; exact ho, Within.refl _ _ _⟩
        case round =>
          obtain ⟨t, ht, rfl, ho, hw1⟩ := hrel
          obtain ⟨hM, hw2⟩ := Hset.out _ _ ho hw1
          have hbt := Below.mark hb hw2 hsz
          clear hM hw2
          by_cases hlt2 : t < N + 1
          · rcases ho.form with ⟨_, h0, _⟩ | ⟨g2, rfl, hg1, hg2, hg3, _⟩
            · omega
            have ho' := ho.drew
            have hcell := ho'.cell hlt2
            have hf := ho'.frozen t
            rw [mix_nth (by rw [mulRow_length, adjRow_length]; exact ht)] at hcell
            have hnum := mulRow_nth (d := detV xss) (xs := adjRow xss (N + 1) k) (k := t) (by rw [adjRow_length]; exact hlt2)
            have Hnum := Lib.hid hnum
            clear hnum
            go_wp2
            go_region_law ((go_simp; go_at_call 47; refine (implDetOf_any _ _ _ _ _ (by omega) ((hx.below hbt).drew)).mono ?_; rintro e w2 ⟨rfl, hb2⟩; have ho2 := ho'.below hb2; have hcell2 := (hb2.cell (World.block_lt_of_cell? _ _ hcell)).trans hcell; have hf2 := ho2.frozen t))
            all_goals
              go_wp2
              go_roundw
              case rel =>
                have h9 := ho2.set t (nth (mulRow (detV xss) (adjRow xss (N + 1) k)) t)
                rw [mix_set (by rw [mulRow_length, adjRow_length]; exact hlt2) (by rw [adjRow_length]; exact hlt2), Hnum.out] at h9
                exact ⟨t + 1, by omega, by go_num, h9, (hw1.trans (Within.of_below (Below.step (drewBelow _) hb2))).setCell hg1 hg2 _⟩
              case measure => simp [intOf]; omega
          · have e : t = N + 1 := by omega
            subst e
            rw [mix_all (by rw [mulRow_length, adjRow_length]; exact Nat.le_refl _) (by rw [adjRow_length]; exact Nat.le_refl _)] at ho
            obtain ⟨hown2, hw3⟩ := Hset.out _ _ ho hw1
            have hsz3 := hw3.size
            rw [← invW_nth' (xss := xss) (n := N + 1) hl.out hlt, mixR_set (by rw [hl4.out]; exact hlt) (by rw [hl5.out]; exact hlt)] at hown2
            go_wp2
            go_roundw
            case rel => exact ⟨k + 1, by omega, by go_num, hown2, by omega, hbt⟩
            case measure => simp [intOf]; omega
      · have e : k = N + 1 := by omega
        subst e
        rw [mixR_all (by rw [hl4.out]; exact Nat.le_refl _) (by rw [hl5.out]; exact Nat.le_refl _)] at hown
        have hM : OwnM _ _ _ _ _ _ _ := ⟨rows, hown⟩
        go_wp2_with fail
        refine (matrixOf_any _ _ _ _ _ _ _ (by omega) hM).mono ?_
        rintro e w9 ⟨⟨p2, n2, c2, rfl, ho2⟩, rfl⟩
        go_wp2_with fail
        go_ret2
        rw [H.out]
        exact ⟨_, _, _, rfl, ho2.widen hsz hsw, hb⟩

end Go.Proofs.Ytdchckljggjaaaa
