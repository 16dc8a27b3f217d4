/- Contracts of minors and determinants. Conditions: sizes. -/
import Derived.Test.YtdchckljggjaaaaDet
import Derived.Test.YtdchckljggjaaaaOps2
namespace Go.Proofs.Ytdchckljggjaaaa
open Go.RowKit
set_option linter.unusedVariables false
set_option linter.unusedSimpArgs false
set_option maxRecDepth 100000

theorem Ints.take {w : World} {p : Option Addr} {n : Nat} {xs : List Int} (h : Ints w p n xs) {k : Nat} (hk : k ≤ n) : Ints w p k (xs.take k) := by
  have hl := h.len
  refine ⟨by simp; omega, fun i hi => ?_⟩
  obtain ⟨b, o, hp, hc⟩ := h.cell i (by omega)
  refine ⟨b, o, hp, ?_⟩
  rw [hc, nth_eq (by omega), nth_eq (by simp; omega)]
  simp
theorem Ints.drop {w : World} {b o n : Nat} {xs : List Int} (h : Ints w (some ⟨b, o, none⟩) n xs) (k : Nat) : Ints w (some ⟨b, o + k, none⟩) (n - k) (xs.drop k) := by
  have hl := h.len
  refine ⟨by simp; omega, fun i hi => ?_⟩
  obtain ⟨b', o', hp, hc⟩ := h.cell (k + i) (by omega)
  injection hp with hp
  injection hp with e1 e2
  subst e1; subst e2
  refine ⟨_, _, rfl, ?_⟩
  rw [Nat.add_assoc, hc, nth_eq (by omega), nth_eq (by simp; omega)]
  simp
theorem cutAt_len {r : List Int} {j : Nat} (h : j < r.length) : (cutAt r j).length = r.length - 1 := by simp [cutAt]; omega

theorem minor_any (p : Option Addr) (n c : Nat) (xss : List (List Int)) (i j m0 : Nat) (w : World) (hn : n ≤ 1000) (hx : Intss w p n xss) (hi : i ≤ 1000) (hj : j < m0) (hm0 : m0 ≤ 1000) (hrows : ∀ k, k < xss.length → (nthR xss k).length = m0) :
    Calls Try.prog 124 #[.slice p n c, .int .i64 i, .int .i64 j] w fun e w' => ∃ q m d, e = .returned (.slice q m d) ∧ OwnM w' w.heap.size w'.heap.size q m d (minorL xss i j) ∧ Below w.heap.size w w' := by
  have hl := Lib.hid hx.len
  have Hr := Lib.hid hrows
  clear hrows
  go_enter Try.func124, Try.ntmps124
  go_wp2
  go_loopw [7, 12] (fun v t wr => ∃ (k : Nat) (p' : Option Addr) (n' c' : Nat) (rows : List Row), k ≤ n ∧ t = .int .i64 k ∧ v = .slice p' n' c' ∧ Own2 wr w.heap.size wr.heap.size p' n' c' rows (minorTo xss i j k) ∧ n' ≤ k ∧ Below w.heap.size w wr) (fun _ t _ => n - (intOf t).toNat)
  case atStart => exact ⟨0, _, _, _, [], Nat.zero_le _, rfl, rfl, Own2.nil _ _ _, Nat.zero_le _, Below.refl _ _⟩
  case round =>
    obtain ⟨k, p', n', c', rows, hk, rfl, rfl, hown, hnk, hb⟩ := hrel
    by_cases hlt : k < n
    · obtain ⟨b, o, q, m, d, rfl, hc, hmd, hd, hi2⟩ := (hx.below hb).cellc k hlt
      have hml : m = m0 := by rw [← hi2.len]; exact Hr.out k (by rw [hl.out]; exact hlt)
      have hjm : j < m := by omega
      have hm1 : m ≤ 1000 := by omega
      clear hml
      by_cases hki : k = i
      · subst hki
        go_wp2
        go_roundw
        case rel => exact ⟨k + 1, _, _, _, rows, by omega, by go_num, rfl, by rw [minorTo, if_pos rfl]; exact hown, by omega, hb⟩
        case measure => simp [intOf]; omega
      · have hki' : ((k : Int) != (i : Int)) = true := by simp; omega
        obtain ⟨b2, o2, rfl, _⟩ := hi2.cell 0 (by omega)
        have hown' := hown.drew
        have ht := (hi2.drew).take (k := j) (by omega)
        have hjd : j ≤ d := by omega
        have hjd1 : j + 1 ≤ d := by omega
        have hlen : (cutAt (nthR xss k) j).length = m - 1 := by rw [cutAt_len (by rw [hi2.len]; exact hjm), hi2.len]
        have Hlen := Lib.hid hlen
        clear hlen
        have hmin : minorTo xss i j (k + 1) = minorTo xss i j k ++ [cutAt (nthR xss k) j] := by rw [minorTo, if_neg hki]
        have Hmin := Lib.hid hmin
        clear hmin
        by_cases hd1 : d = j + 1
        · subst hd1
          obtain rfl : m = j + 1 := by omega
          have hcut : ∀ W, Ints W (some ⟨b2, o2, none⟩) 0 ((nthR xss k).drop (j + 1)) := fun W => by
            rw [List.drop_eq_nil_of_le (by rw [hi2.len]; omega)]; exact Ints.nil _ _
          have Hcut := Lib.hid hcut
          clear hcut
          have s1 : IntKind.i64.wrap ((j : Int) + 1) = (j : Int) + 1 := IntWalk.i64_in _ (by omega)
          have s2 : ((j : Int) + 1).toNat = j + 1 := by omega
          have s3 : (0 : Int) ≤ (j : Int) + 1 := by omega
          have s4 : (j : Int) ≤ (j : Int) + 1 := by omega
          go_wp2
          go_region_law (first | (go_simp; go_at_call 78; refine (copyInts_any _ _ _ _ _ (by omega) ht).mono ?_; rintro e w1 ⟨p1, c1, rfl, ho1, hb1⟩; have hown1 := hown'.below hb1; have hbw1 : Below w.heap.size w w1 := hb.drew.trans (hb1.mono hb.size)) | (refine step_append_ints rfl (.tmp 24) (.tmp 28) rfl _ wr.heap.size _ _ _ _ _ rfl ho1 _ _ _ _ rfl (Hcut.out _) (by omega) hb1.size ?_; intro p2 c2 w2 ho2 hg2; have hown2 := hown1.within (hg2.within (fun a ha => (ho1.lt a ha).1)) (.inl (Nat.le_refl _)); have hbw2 : Below w.heap.size w w2 := hbw1.trans (hg2.below hbw1.size (fun a ha => Nat.le_trans hb.size (ho1.lt a ha).1))) | (refine step_append_row rfl (.tmp 20) (.tmp 30) rfl _ w.heap.size _ _ _ _ _ rfl (hown2.outer.alloc _) _ _ _ _ rfl (cellNew _ _ _) (by omega) (sizeNew hbw2 _) ?_; intro p3 c3 w3 ho3 hg3))
          all_goals
            have hb3 : Below w.heap.size w w3 := (hbw2.alloc hbw2.size _).trans (hg3.below (sizeNew hbw2 _) (fun a ha => (hown2.outer.lt a ha).1))
            have h3 := hown2.app ho2 hb.size (boxed _ _) ho3 hg3
            go_wp2
            go_roundw
            case rel => exact ⟨k + 1, _, _, _, _, by omega, by go_num, rfl, by rw [Hmin.out]; exact h3, by omega, hb3⟩
            case measure => simp [intOf]; omega
        · have s1 : IntKind.i64.wrap ((j : Int) + 1) = (j : Int) + 1 := IntWalk.i64_in _ (by omega)
          have s2 : ((j : Int) + 1).toNat = j + 1 := by omega
          have s3 : (0 : Int) ≤ (j : Int) + 1 := by omega
          have s4 : (j : Int) + 1 ≤ (m : Int) := by omega
          have s5 : (j : Int) + 1 ≤ (d : Int) := by omega
          have s6 : j + 1 ≤ m := by omega
          have s7 : Hid (j + (m - (j + 1)) = m - 1) := by show _ = _; omega
          go_wp2
          go_region_law (first | (go_simp; go_at_call 78; refine (copyInts_any _ _ _ _ _ (by omega) ht).mono ?_; rintro e w1 ⟨p1, c1, rfl, ho1, hb1⟩; have hown1 := hown'.below hb1; have hbw1 : Below w.heap.size w w1 := hb.drew.trans (hb1.mono hb.size); have hdr := ((hi2.drew).below hb1).drop (j + 1)) | (refine step_append_ints rfl (.tmp 24) (.tmp 28) rfl _ wr.heap.size _ _ _ _ _ rfl ho1 _ _ _ _ rfl hdr (by omega) hb1.size ?_; intro p2 c2 w2 ho2 hg2; have hown2 := hown1.within (hg2.within (fun a ha => (ho1.lt a ha).1)) (.inl (Nat.le_refl _)); have hbw2 : Below w.heap.size w w2 := hbw1.trans (hg2.below hbw1.size (fun a ha => Nat.le_trans hb.size (ho1.lt a ha).1))) | (refine step_append_row rfl (.tmp 20) (.tmp 30) rfl _ w.heap.size _ _ _ _ _ rfl (hown2.outer.alloc _) _ _ _ _ rfl (cellNew _ _ _) (by omega) (sizeNew hbw2 _) ?_; intro p3 c3 w3 ho3 hg3))
          all_goals
            have hb3 : Below w.heap.size w w3 := (hbw2.alloc hbw2.size _).trans (hg3.below (sizeNew hbw2 _) (fun a ha => (hown2.outer.lt a ha).1))
            have h3 := hown2.app ho2 hb.size (boxed _ _) ho3 hg3
            go_wp2
            go_roundw
            case rel => exact ⟨k + 1, _, _, _, _, by omega, by go_num, rfl, by rw [Hmin.out]; exact h3, by omega, hb3⟩
            case measure => simp [intOf]; omega
    · go_wp2
      go_ret
      obtain rfl : k = n := by omega
      refine ⟨_, _, _, rfl, ⟨rows, ?_⟩, hb⟩
      rw [show minorL xss i j = minorTo xss i j k by rw [minorL, hl.out]]
      exact hown


theorem minorTo_len (xss : List (List Int)) (i j k : Nat) : (minorTo xss i j k).length = if i < k then k - 1 else k := by
  induction k with
  | zero => simp [minorTo]
  | succ k ih =>
    rw [minorTo]
    split
    · rename_i h; subst h; rw [ih]; simp
    · rw [List.length_append, ih]
      simp only [List.length_cons, List.length_nil]
      split <;> split <;> omega
theorem minorTo_rows {xss : List (List Int)} {m0 : Nat} (h : ∀ k, k < xss.length → (nthR xss k).length = m0) {i j : Nat} (hj : j < m0) (k : Nat) (hk : k ≤ xss.length) :
    ∀ r ∈ minorTo xss i j k, r.length = m0 - 1 := by
  induction k with
  | zero => simp [minorTo]
  | succ k ih =>
    rw [minorTo]
    split
    · exact ih (by omega)
    · intro r hr
      rw [List.mem_append] at hr
      rcases hr with hr | hr
      · exact ih (by omega) r hr
      · simp only [List.mem_singleton] at hr
        subst hr
        rw [cutAt_len (by rw [h k (by omega)]; exact hj), h k (by omega)]
theorem Sq.minor {N : Nat} {xss : List (List Int)} (h : Sq (N + 1) xss) {i j : Nat} (hi : i < N + 1) (hj : j < N + 1) : Sq N (minorL xss i j) := by
  have hl := h.1
  refine ⟨by rw [minorL, minorTo_len, hl, if_pos hi]; omega, fun k hk => ?_⟩
  have hlen : (minorL xss i j).length = N := by rw [minorL, minorTo_len, hl, if_pos hi]; omega
  have hmem : nthR (minorL xss i j) k ∈ minorL xss i j := nthR_mem (by omega)
  have := minorTo_rows (m0 := N + 1) (fun k hk => h.2 k (by omega)) hj xss.length (Nat.le_refl _) _ hmem
  omega

theorem minor0_any (p : Option Addr) (n c : Nat) (xss : List (List Int)) (j N : Nat) (w : World) (hx : Intss w p n xss) (hN : N ≤ 3) (hs : Sq (N + 1) xss) (hj : j < N + 1) :
    Calls Try.prog 124 #[.slice p n c, .int .i64 0, .int .i64 j] w fun e w' => ∃ q m d, e = .returned (.slice q m d) ∧ OwnM w' w.heap.size w'.heap.size q m d (minorL xss 0 j) ∧ Below w.heap.size w w' := by
  have hl := hx.len
  have hl2 := hs.1
  have := minor_any p n c xss 0 j (N + 1) w (by omega) hx (by omega) hj (by omega) (fun k hk => hs.2 k (by omega))
  simpa using this

end Go.Proofs.Ytdchckljggjaaaa
