/- Contract of impl.TimesMatrix. Conditions: sizes. -/
import Derived.Test.YtdchckljggjaaaaTimes
namespace Go.Proofs.Ytdchckljggjaaaa
open Go.RowKit
set_option linter.unusedVariables false
set_option linter.unusedSimpArgs false
set_option maxRecDepth 100000

/-- The row of a product behind i rounds. -/
def rowTo (yss : List (List Int)) (r : List Int) (n i : Nat) : List Int := (List.range n).map fun j => dotTo (colL yss j) r i
theorem rowTo_length (yss : List (List Int)) (r : List Int) (n i : Nat) : (rowTo yss r n i).length = n := by simp [rowTo]
theorem rowTo_nth {yss : List (List Int)} {r : List Int} {n i j : Nat} (h : j < n) : nth (rowTo yss r n i) j = dotTo (colL yss j) r i := by
  rw [nth_eq (by rw [rowTo_length]; exact h)]; simp [rowTo]
theorem rowTo_zero (yss : List (List Int)) (r : List Int) (n : Nat) : rowTo yss r n 0 = List.replicate n 0 := by
  apply List.ext_getElem
  · simp [rowTo]
  · intro i h1 h2; simp [rowTo, dotTo]
theorem rowTo_next {yss : List (List Int)} {r : List Int} {n i j : Nat} (h : j < n) (hi : i < yss.length) :
    nth (rowTo yss r n (i + 1)) j = wrap64 (nth (rowTo yss r n i) j + wrap64 (nth r i * nth (nthR yss i) j)) := by
  rw [rowTo_nth h, rowTo_nth h, dotTo, colL_nth hi, Int.mul_comm]
theorem rowTo_all {yss : List (List Int)} {r : List Int} {n : Nat} (h : yss.length = n) : rowTo yss r n n = applyW (turnL yss) r := by
  subst h
  simp only [rowTo, applyW, turnL, List.map_map]
  apply List.map_congr_left
  intro j _
  simp [Function.comp, dotW, colL_length]

theorem implTimes_any (p q : Option Addr) (n c m d : Nat) (xss yss : List (List Int)) (w : World) (hn : n ≤ 1048576) (hm : m ≤ 1048576) (hx : Intss w p n xss) (hy : Intss w q m yss) :
    Calls Try.prog 35 #[.slice p n c, .slice q m d] w (NewMB w (timesV xss yss)) := by
  have hl := Lib.hid hx.len
  have hl2 := Lib.hid hy.len
  cases h1 : isMat xss
  · go_enter Try.func35, Try.ntmps35
    go_wp2_with (go_at_call 51; (with_reducible refine (implIsMatrix_any _ _ _ _ _ (by omega) hx).mono ?_); rintro e w' ⟨rfl, rfl⟩)
    go_ret2
    rw [show timesV xss yss = ([], false) by simp [timesV, h1]]
    exact NewMB.none_ (Below.refl _ _)
  cases h2 : isMat yss
  · go_enter Try.func35, Try.ntmps35
    go_wp2_with (first | (go_at_call 51; (with_reducible refine (implIsMatrix_any _ _ _ _ _ (by omega) hx).mono ?_); rintro e w' ⟨rfl, rfl⟩) | (go_at_call 51; (with_reducible refine (implIsMatrix_any _ _ _ _ _ (by omega) hy).mono ?_); rintro e w' ⟨rfl, rfl⟩))
    go_ret2
    rw [show timesV xss yss = ([], false) by simp [timesV, h2]]
    exact NewMB.none_ (Below.refl _ _)
  by_cases h3 : n = m
  · subst h3
    have H : Hid (timesV xss yss = matIf (timesW xss yss)) := by show _ = _; simp [timesV, h1, h2, hl.out, hl2.out]
    obtain ⟨hs, hl1, hl3, _⟩ := isMat_facts h1
    obtain ⟨hs', _, _, _⟩ := isMat_facts h2
    rw [hl.out] at hs hl1 hl3
    rw [hl2.out] at hs'
    have Hr : Hid (∀ k, k < xss.length → (nthR xss k).length = n) := Lib.hid fun k hk => hs.2 k (by rw [← hl.out]; exact hk)
    have Hs : Hid (∀ k, k < yss.length → (nthR yss k).length = n) := Lib.hid fun k hk => hs'.2 k (by rw [← hl2.out]; exact hk)
    clear hs hs'
    obtain ⟨i0, hi0, hz0, hz1, hz2⟩ := info_parts Try.infoInt
    have hby : i0.bytes * n ≤ 281474976710656 := by rw [hz2]; omega
    have hml : n ≤ maxLen := by unfold maxLen; omega
    have hl4 := Lib.hid (timesW_length xss yss)
    go_enter Try.func35, Try.ntmps35
    go_wp2_with (first | (go_at_call 51; (with_reducible refine (implIsMatrix_any _ _ _ _ _ (by omega) hx).mono ?_); rintro e w' ⟨rfl, rfl⟩) | (go_at_call 51; (with_reducible refine (implIsMatrix_any _ _ _ _ _ (by omega) hy).mono ?_); rintro e w' ⟨rfl, rfl⟩))
    go_loopw [6, 31] (fun a i wr => ∃ (k : Nat) (p' : Option Addr) (c' : Nat) (rows : List Row), k ≤ n ∧ i = .int .i64 k ∧ a = .slice p' k c' ∧ Own2 wr w.heap.size wr.heap.size p' k c' rows ((timesW xss yss).take k) ∧ Below w.heap.size w wr) (fun _ i _ => n - (intOf i).toNat)
    case atStart => exact ⟨0, _, _, _, Nat.zero_le _, rfl, rfl, Own2.nil _ _ _, Below.refl _ _⟩
    case round =>
      obtain ⟨k, p', c', rows, hk, rfl, rfl, hown, hb⟩ := hrel
      by_cases hlt : k < n
      · obtain ⟨b, o, q1, m1, d1, rfl, hc, hm1, hi⟩ := (hx.below hb).cell k hlt
        obtain rfl : m1 = n := by rw [← hi.len]; exact Hr.out k (by rw [hl.out]; exact hlt)
        generalize wr = W at *
        go_wp2_with (at_make; refine wpList_make_full _ rfl _ _ 40 rfl W.heap.size 3 i0 (.int .i64 0) 1 Try.underlying40 hi0 hz0 hz1 .i64 .i64 _ _ _ rfl rfl rfl rfl hby hml (Nat.le_refl _) ?_; intro w1 hmade hgrow)
        have ho0 : Own w1 W.heap.size (W.heap.size + 1) (some ⟨W.heap.size, 0, none⟩) m1 m1 (rowTo yss (nthR xss k) m1 0) := by
          refine ⟨?_, fun a ha => by injection ha with ha; subst ha; exact Nat.lt_succ_self _⟩
          rw [made_zeros] at hmade
          rw [rowTo_zero]
          exact hmade
        have hb0 : Below W.heap.size W w1 := (Below.refl _ _).grown hgrow (Nat.le_refl _) (fun k hk => by cases hk)
        clear hmade hgrow
        go_loopw [40] (fun i wr => ∃ t : Nat, t ≤ m1 ∧ i = .int .i64 t ∧ Own wr W.heap.size (W.heap.size + 1) (some ⟨W.heap.size, 0, none⟩) m1 m1 (rowTo yss (nthR xss k) m1 t) ∧ Below W.heap.size W wr) (fun i _ => m1 - (intOf i).toNat)
        case atStart => exact ⟨0, Nat.zero_le _, rfl, ho0, hb0⟩
        case round =>
          obtain ⟨t, ht, rfl, ho, hb1⟩ := hrel
          have hb2 := Below.step hb hb1
          by_cases hlt2 : t < m1
          · obtain ⟨b3, o3, rfl, hc3⟩ := (hi.below hb1).cell t hlt2
            obtain ⟨b2, o2, q2, m2, d2, rfl, hc2, hm2, hi2⟩ := hy.cell t hlt2
            replace hc2 := (hb2.cell (World.block_lt_of_cell? w _ hc2)).trans hc2
            obtain rfl : m2 = m1 := by rw [← hi2.len]; exact Hs.out t (by rw [hl2.out]; exact hlt2)
            go_wp2
            go_loopw [50] (fun i wr => ∃ s : Nat, s ≤ m2 ∧ i = .int .i64 s ∧ Own wr W.heap.size (W.heap.size + 1) (some ⟨W.heap.size, 0, none⟩) m2 m2 (mix (rowTo yss (nthR xss k) m2 (t + 1)) (rowTo yss (nthR xss k) m2 t) s) ∧ Below W.heap.size W wr) (fun i _ => m2 - (intOf i).toNat)
            case atStart => exact ⟨0, Nat.zero_le _, rfl, by rw [mix_zero]; exact ho, hb1⟩
            case round =>
              obtain ⟨s, hs, rfl, ho, hb1⟩ := hrel
              have hb2 := Below.step hb hb1
              by_cases hlt3 : s < m2
              · obtain ⟨b4, o4, rfl, hc4⟩ := (hi2.below hb2).cell s hlt3
                have hcell := ho.cell hlt3
                have hf := ho.frozen s
                rw [mix_nth (by rw [rowTo_length]; exact hs)] at hcell
                go_wp2
                go_roundw
                case rel =>
                  refine ⟨s + 1, by omega, by go_num, ?_, hb1.setCell (Nat.le_refl _) _⟩
                  have h2 := ho.set s (nth (rowTo yss (nthR xss k) m2 (t + 1)) s)
                  rw [mix_set (by rw [rowTo_length]; exact hlt3) (by rw [rowTo_length]; exact hlt3)] at h2
                  rw [rowTo_next hlt3 (by rw [hl2.out]; exact hlt2)] at h2
                  exact h2
                case measure => simp [intOf]; omega
              · obtain rfl : s = m2 := by omega
                rw [mix_all (by rw [rowTo_length]; exact Nat.le_refl _) (by rw [rowTo_length]; exact Nat.le_refl _)] at ho
                go_wp2
                go_roundw
                case rel => exact ⟨t + 1, by omega, by go_num, ho, hb1⟩
                case measure => simp [intOf]; omega
          · obtain rfl : t = m1 := by omega
            rw [rowTo_all hl2.out] at ho
            have hown2 := hown.below hb1
            go_wp2_with (at_builtin; refine append_row rfl _ _ rfl _ w.heap.size _ _ _ _ _ rfl (hown2.outer.alloc _) _ _ _ _ rfl (cellNew _ _ _) (by omega) (sizeNew hb2 _) ?_; intro p3 c3 w3 ho3 hg3)
            have hb3 : Below w.heap.size w w3 := (hb2.alloc hb2.size _).trans (hg3.below (sizeNew hb2 _) (fun a ha => (hown2.outer.lt a ha).1))
            have h3 := hown2.app ho hb.size (boxed _ _) ho3 hg3
            go_roundw
            case rel =>
              rw [← timesW_take (by rw [hl.out]; exact hlt)] at h3
              exact ⟨k + 1, _, _, _, by omega, by go_num, rfl, h3, hb3⟩
            case measure => simp [intOf]; omega
      · obtain rfl : k = n := by omega
        rw [List.take_of_length_le (by have := hl.out; have := hl4.out; omega)] at hown
        have hM : OwnM _ _ _ _ _ _ _ := ⟨rows, hown⟩
        go_wp2_with fail
        refine (matrixOf_any _ _ _ _ _ _ _ (by omega) hM).mono ?_
        rintro e w9 ⟨⟨p2, n2, c2, rfl, ho2⟩, rfl⟩
        go_wp2_with fail
        go_ret2
        rw [H.out]
        exact ⟨_, _, _, rfl, ho2, hb⟩
  · go_enter Try.func35, Try.ntmps35
    go_wp2_with (first | (go_at_call 51; (with_reducible refine (implIsMatrix_any _ _ _ _ _ (by omega) hx).mono ?_); rintro e w' ⟨rfl, rfl⟩) | (go_at_call 51; (with_reducible refine (implIsMatrix_any _ _ _ _ _ (by omega) hy).mono ?_); rintro e w' ⟨rfl, rfl⟩))
    go_ret2
    rw [show timesV xss yss = ([], false) by simp [timesV, hl.out, hl2.out, h3]]
    exact NewMB.none_ (Below.refl _ _)

theorem tot_bound (B : Nat) (xss : List (List Int)) (h : ∀ r, r ∈ xss → r.length ≤ B) : tot xss ≤ B * xss.length := by
  induction xss with
  | nil => simp [tot]
  | cons r rest ih =>
    have h1 := h r (by simp)
    have h2 := ih (fun x hx => h x (by simp [hx]))
    simp only [tot, List.map_cons, List.sum_cons, List.length_cons] at *
    rw [Nat.mul_add]
    omega
theorem matIf_len (xss : List (List Int)) : (matIf xss).1.length ≤ 3 ∧ tot (matIf xss).1 ≤ 9 := by
  cases h : isMat xss
  · rw [matIf_no h]; simp [tot]
  · rw [matIf_yes h]
    obtain ⟨hs, hl1, hl3, _⟩ := isMat_facts h
    refine ⟨hl3, ?_⟩
    have := tot_bound 3 xss fun r hr => by
      obtain ⟨k, hk, rfl⟩ := List.getElem_of_mem hr
      have := hs.2 k hk
      rw [nthR_eq hk] at this
      omega
    show tot xss ≤ 9
    omega
theorem timesV_len (xss yss : List (List Int)) : (timesV xss yss).1.length ≤ 3 ∧ tot (timesV xss yss).1 ≤ 9 := by
  unfold timesV
  split
  · exact matIf_len _
  · simp [tot]

end Go.Proofs.Ytdchckljggjaaaa
