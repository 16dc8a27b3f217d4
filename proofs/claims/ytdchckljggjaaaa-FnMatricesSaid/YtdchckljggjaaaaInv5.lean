/- Contract of spec.InverseMatrix. Conditions: sizes. -/
import Derived.Test.YtdchckljggjaaaaInv4
namespace Go.Proofs.Ytdchckljggjaaaa
open Go.RowKit
set_option linter.unusedVariables false
set_option linter.unusedSimpArgs false
set_option maxRecDepth 100000

theorem invV_len (xss : List (List Int)) : (invV xss).1.length ≤ 3 ∧ tot (invV xss).1 ≤ 9 := by
  unfold invV
  split
  · exact matIf_len _
  · simp [tot]

set_option maxHeartbeats 1000000 in
theorem specInverse_any (p : Option Addr) (n c : Nat) (xss : List (List Int)) (w : World) (hn : n ≤ 1048576) (hx : Intss w p n xss) :
    Calls Try.prog 39 #[.slice p n c] w (NewMB w (invV xss)) := by
  have hl := Lib.hid hx.len
  cases h1 : unimV xss
  · go_enter Try.func39, Try.ntmps39
    go_wp2_with fail
    refine (specUnim_any _ _ _ _ _ (by omega) hx).mono ?_
    rw [h1]
    rintro e w1 ⟨rfl, hb1⟩
    go_wp2_with fail
    go_ret2
    rw [show invV xss = ([], false) by simp [invV, h1]]
    exact NewMB.empty hb1
  · have hmat : isMat xss = true := by
      cases h : isMat xss
      · simp [unimV, detV, h] at h1
      · rfl
    obtain ⟨hs, hl1, hl3, hr⟩ := isMat_facts hmat
    rw [hl.out] at hs hl1 hl3
    obtain ⟨N, hN⟩ : ∃ N, n = N + 1 := ⟨n - 1, by omega⟩
    subst hN
    have hd : detV xss = detS xss := by simp [detV, hmat]
    have Hent : Hid (∀ k t : Nat, k < N + 1 → t < N + 1 → ∀ sg : Int, sg = (if (k + t) % 2 = 1 then -1 else 1) → nth (nthR (invW xss) k) t = wrap64 (wrap64 (detS xss * sg) * minorS N (minorL xss t k))) :=
      Lib.hid fun k t hk ht sg hsg => inv_entry hs (by omega) hk ht hr hd hsg
    have Hs := Lib.hid hs
    have Hrl : Hid (∀ k, k < N + 1 → (nthR (invW xss) k).length = N + 1) := Lib.hid fun k hk => by rw [invW_nth' hl.out hk, mulRow_length, adjRow_length]
    clear hs hr hd
    have H : Hid (invV xss = matIf (invW xss)) := by show _ = _; simp [invV, h1]
    have hl4 := Lib.hid (show (invW xss).length = N + 1 by rw [invW_length]; exact hl.out)
    go_enter Try.func39, Try.ntmps39
    go_wp2_with fail
    refine (specUnim_any _ _ _ _ _ (by omega) hx).mono ?_
    rw [h1]
    rintro e w0 ⟨rfl, hb0⟩
    go_wp2_with fail
    refine (l3Det_any _ _ _ _ _ (hx.below hb0) Hs.out (by omega) (by omega)).mono ?_
    rintro e w1 ⟨rfl, hb1⟩
    have hbw := Below.step hb0 hb1
    go_wp2_with fail
    go_loopw [5, 6] (fun a i wr => ∃ (k : Nat) (p' : Option Addr) (c' : Nat) (rows : List Row), k ≤ N + 1 ∧ i = .int .i64 k ∧ a = .slice p' k c' ∧ Own2 wr w.heap.size wr.heap.size p' k c' rows ((invW xss).take k) ∧ Below w.heap.size w wr) (fun _ i _ => N + 1 - (intOf i).toNat)
    case atStart => exact ⟨0, _, _, _, Nat.zero_le _, rfl, rfl, (Own2.empty w1).up.widen hbw.size (Nat.le_refl _), hbw.alloc hbw.size _⟩
    case round =>
      obtain ⟨k, p', c', rows, hk, rfl, rfl, hown, hb⟩ := hrel
      by_cases hlt : k < N + 1
      · generalize wr = W at *
        have hd1 : decide ((k : Int) < (N : Int) + 1) = true := by simp; omega
        go_wp2
        go_loopw [7, 8] (fun a j w2 => ∃ (t : Nat) (q' : Option Addr) (d' : Nat), t ≤ N + 1 ∧ j = .int .i64 t ∧ a = .slice q' t d' ∧ Own w2 W.heap.size w2.heap.size q' t d' ((nthR (invW xss) k).take t) ∧ Below W.heap.size W w2) (fun _ j _ => N + 1 - (intOf j).toNat)
        case atStart => exact ⟨0, _, _, Nat.zero_le _, rfl, rfl, (Own.empty W).up, (Below.refl _ _).alloc (Nat.le_refl _) _⟩
        case round =>
          obtain ⟨t, q', d', ht, rfl, rfl, ho, hb1⟩ := hrel
          have hb2 := Below.step hb hb1
          by_cases hlt2 : t < N + 1
          · have hrlen := Hrl.out k hlt
            by_cases hodd : (k + t) % 2 = 1
            · have he := Hent.out k t hlt hlt2 (-1) (by rw [if_pos hodd])
              rw [Int.mul_neg, Int.mul_one] at he
              have Hnx : Hid ((nthR (invW xss) k).take (t + 1) = (nthR (invW xss) k).take t ++ [wrap64 (wrap64 (-detS xss) * minorS N (minorL xss t k))]) := by
                show _ = _
                rw [take_nth (by rw [hrlen]; exact hlt2), he]
              have hq : ((k : Int) + (t : Int)).tmod 2 = 1 := by rw [Int.tmod_eq_emod_of_nonneg (by omega)]; omega
              clear he hrlen
              go_wp2_with fail
              refine (l3Minor_any _ _ _ _ _ _ _ (by omega) (hx.below hb2) Hs.out hlt2 hlt).mono ?_
              rintro e w3 ⟨rfl, hb3⟩
              have ho3 := ho.below hb3
              have hbw3 := Below.step hb1 hb3
              go_wp2_with (at_builtin; refine append_int rfl _ _ rfl _ W.heap.size _ _ _ _ _ rfl (ho3.alloc _) _ _ rfl (cellNew _ _ _) (by omega) (sizeNew hbw3 _) ?_; intro p4 c4 w4 ho4 hg4)
              have hb4 := hg4.belowO (ho3.alloc _) (sizeNew hbw3 _)
              go_roundw
              case rel =>
                refine ⟨t + 1, _, _, by omega, by go_num, rfl, ?_, Below.new hbw3 _ hb4⟩
                rw [Hnx.out]
                exact ho4
              case measure => simp [intOf]; omega
            · have he := Hent.out k t hlt hlt2 1 (by rw [if_neg hodd])
              rw [Int.mul_one] at he
              have Hnx : Hid ((nthR (invW xss) k).take (t + 1) = (nthR (invW xss) k).take t ++ [wrap64 (wrap64 (detS xss) * minorS N (minorL xss t k))]) := by
                show _ = _
                rw [take_nth (by rw [hrlen]; exact hlt2), he]
              have hq : ((k : Int) + (t : Int)).tmod 2 = 0 := by rw [Int.tmod_eq_emod_of_nonneg (by omega)]; omega
              clear he hrlen
              go_wp2_with fail
              refine (l3Minor_any _ _ _ _ _ _ _ (by omega) (hx.below hb2) Hs.out hlt2 hlt).mono ?_
              rintro e w3 ⟨rfl, hb3⟩
              have ho3 := ho.below hb3
              have hbw3 := Below.step hb1 hb3
              go_wp2_with (at_builtin; refine append_int rfl _ _ rfl _ W.heap.size _ _ _ _ _ rfl (ho3.alloc _) _ _ rfl (cellNew _ _ _) (by omega) (sizeNew hbw3 _) ?_; intro p4 c4 w4 ho4 hg4)
              have hb4 := hg4.belowO (ho3.alloc _) (sizeNew hbw3 _)
              go_roundw
              case rel =>
                refine ⟨t + 1, _, _, by omega, by go_num, rfl, ?_, Below.new hbw3 _ hb4⟩
                rw [Hnx.out]
                exact ho4
              case measure => simp [intOf]; omega
          · have e : t = N + 1 := by omega
            subst e
            rw [List.take_of_length_le (by rw [Hrl.out k hlt]; exact Nat.le_refl _)] at ho
            have hown2 := hown.below hb1
            go_wp2_with (at_builtin; refine append_row rfl _ _ rfl _ w.heap.size _ _ _ _ _ rfl (hown2.outer.alloc _) _ _ _ _ rfl (cellNew _ _ _) (by omega) (sizeNew hb2 _) ?_; intro p3 c3 w3 ho3 hg3)
            have hb3 : Below w.heap.size w w3 := (hb2.alloc hb2.size _).trans (hg3.below (sizeNew hb2 _) (fun a ha => (hown2.outer.lt a ha).1))
            have h3 := hown2.app ho hb.size (boxed _ _) ho3 hg3
            go_roundw
            case rel =>
              rw [← take_nthR (by rw [hl4.out]; exact hlt)] at h3
              exact ⟨k + 1, _, _, _, by omega, by go_num, rfl, h3, hb3⟩
            case measure => simp [intOf]; omega
      · have e : k = N + 1 := by omega
        subst e
        rw [List.take_of_length_le (by rw [hl4.out]; exact Nat.le_refl _)] at hown
        have hM : OwnM _ _ _ _ _ _ _ := ⟨rows, hown⟩
        cases h4 : isMat (invW xss)
        all_goals
          go_wp2_with fail
          refine (specIsMatrix_any _ _ _ _ _ (by omega) hM.rd).mono ?_
          rw [h4]
          rintro e w9 ⟨rfl, rfl⟩
          go_wp2_with fail
          go_ret2
          rw [H.out]
        · rw [matIf_no h4]
          exact NewMB.empty hb
        · rw [matIf_yes h4]
          exact ⟨_, _, _, rfl, hM, hb⟩

end Go.Proofs.Ytdchckljggjaaaa
