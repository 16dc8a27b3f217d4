/- Contract of spec.HullOf. Conditions: sizes. -/
import Derived.Test.YthdonnkekggbbaaGreatDoorHull2
import Derived.Test.YthdonnkekggbbaaGreatDoorNewMB
namespace Go.Proofs.YthdonnkekggbbaaGreatDoor
open Go.RowKit
set_option linter.unusedVariables false
set_option linter.unusedSimpArgs false
set_option maxRecDepth 100000

theorem putL_mem {xss : List (List Int)} {v a : List Int} (h : a ∈ putL xss v) : a ∈ xss ∨ a = v := by
  unfold putL at h
  split at h
  · exact .inl h
  · unfold putIn at h
    rcases List.mem_append.1 h with h | h
    · rcases List.mem_append.1 h with h | h
      · exact .inl (List.mem_of_mem_take h)
      · exact .inr (by simpa using h)
    · exact .inl (List.mem_of_mem_drop h)
theorem putL_length (xss : List (List Int)) (v : List Int) : (putL xss v).length ≤ xss.length + 1 := by
  unfold putL
  split
  · omega
  · unfold putIn; simp; omega
def sortL (xss : List (List Int)) : List (List Int) := xss.foldl putL []
theorem sortL_next {xss : List (List Int)} {k : Nat} (h : k < xss.length) : sortL (xss.take (k + 1)) = putL (sortL (xss.take k)) (nthR xss k) := by
  rw [take_nthR h, sortL, List.foldl_append]; rfl
theorem fold_mem {a : List Int} : ∀ (xss acc : List (List Int)), a ∈ xss.foldl putL acc → a ∈ acc ∨ a ∈ xss
  | [], _, h => .inl h
  | v :: r, acc, h => by
    rcases fold_mem r (putL acc v) h with h | h
    · rcases putL_mem h with h | h
      · exact .inl h
      · exact .inr (by simp [h])
    · exact .inr (List.mem_cons_of_mem _ h)
theorem sortL_mem {xss : List (List Int)} {a : List Int} (h : a ∈ sortL xss) : a ∈ xss := by
  rcases fold_mem xss [] h with h | h
  · simp at h
  · exact h
theorem fold_length : ∀ (xss acc : List (List Int)), (xss.foldl putL acc).length ≤ acc.length + xss.length
  | [], _ => by simp
  | v :: r, acc => by
    have h1 := fold_length r (putL acc v)
    have h2 := putL_length acc v
    simp only [List.foldl_cons, List.length_cons]
    omega
theorem sortL_length (xss : List (List Int)) : (sortL xss).length ≤ xss.length := by
  have := fold_length xss []
  simpa [sortL] using this

def idxH (S : List (List Int)) : List Nat := hullOf (turnI S) (List.range S.length)
def hullL (S : List (List Int)) : List (List Int) := (idxH S).map (nthR S)
theorem map_range (S : List (List Int)) : (List.range S.length).map (nthR S) = S := by
  refine List.ext_getElem (by simp) fun i h1 h2 => ?_
  simp [nthR_eq h2]
theorem hullL_eq (S : List (List Int)) : hullL S = hullOf turnZ S := by
  rw [hullL, idxH, hullOf_map (t := turnI S) (nthR S) (t' := turnZ) (fun a b c => rfl), map_range]
open Classical in
noncomputable def hullV (xss : List (List Int)) : List (List Int) × Bool :=
  if xss.length ≤ 200 ∧ flatB xss = true ∧ 3 ≤ (sortL xss).length ∧ 3 ≤ (idxH (sortL xss)).length ∧ (idxH (sortL xss)).length ≤ 12 then (hullL (sortL xss), true) else ([], false)

/-- The rows that are picked by an index read as they are. -/
theorem picked {w : World} {lo hi lo' hi' : Nat} {p q : Option Addr} {n c d : Nat} {rows : List Row} {S : List (List Int)} (h : Own2 w lo hi p n c rows S) {idx : List Nat} (hlt : ∀ i ∈ idx, i < n)
    (ho : OwnV w 29 1 lo' hi' q idx.length d ((idx.map (rowD rows)).map Row.val)) : Intss w q idx.length (idx.map (nthR S)) := by
  refine ⟨by simp, fun k hk => ?_⟩
  obtain ⟨g, off, e, hc⟩ := ho.rws.2 k (by simpa using hk)
  have hik := hlt (idx[k]) (List.getElem_mem hk)
  have hir : idx[k] < rows.length := by rw [h.count]; exact hik
  have hi2 := h.inner (idx[k]) hir
  have e2 : nthR (idx.map (nthR S)) k = nthR S idx[k] := by rw [nthR_eq (by simpa using hk)]; simp
  simp only [List.getElem_map, rowD_eq hir] at hc
  have hcap : rows[idx[k]].2.1 ≤ rows[idx[k]].2.2 ∧ rows[idx[k]].2.2 ≤ 9223372036854775807 := by
    rcases hi2.form with ⟨_, h1, h2⟩ | ⟨_, _, _, _, _, h1, h2⟩
    · omega
    · unfold maxLen at h2; omega
  exact ⟨g, off, rows[idx[k]].1, rows[idx[k]].2.1, rows[idx[k]].2.2, e, hc, hcap.1, hcap.2, by rw [e2]; exact hi2.ints⟩

theorem pushMem (t : Nat → Nat → Nat → Int) : ∀ (st : List Nat) (x a : Nat), a ∈ pushC t st x → a ∈ st ∨ a = x
  | [], x, a, h => .inr (by simpa [pushC] using h)
  | [b], x, a, h => by
    simp [pushC] at h
    rcases h with h | h
    · exact .inr h
    · exact .inl (by simp [h])
  | b :: c :: r, x, a, h => by
    rw [pushC] at h
    split at h
    · exact (pushMem t (c :: r) x a h).imp (fun h => List.mem_cons_of_mem _ h) id
    · rcases List.mem_cons.1 h with h | h
      · exact .inr h
      · exact .inl h
theorem idxH_lt {S : List (List Int)} {i : Nat} (h : i ∈ idxH S) : i < S.length := by
  have fold : ∀ (t : Nat → Nat → Nat → Int) (l st : List Nat) (a : Nat), a ∈ l.foldl (pushC t) st → a ∈ st ∨ a ∈ l := by
    intro t l
    induction l with
    | nil => intro st a h; exact .inl h
    | cons x l ih =>
      intro st a h
      rcases ih (pushC t st x) a h with h | h
      · rcases pushMem t st x a h with h | h
        · exact .inl h
        · exact .inr (by simp [h])
      · exact .inr (List.mem_cons_of_mem _ h)
  unfold idxH hullOf chainR at h
  rcases List.mem_append.1 h with h | h
  · have := List.dropLast_subset _ h
    rcases fold _ _ _ _ (List.mem_reverse.1 this) with h | h
    · simp at h
    · simpa using h
  · have := List.dropLast_subset _ h
    rcases fold _ _ _ _ (List.mem_reverse.1 this) with h | h
    · simp at h
    · simpa using h

set_option maxHeartbeats 2000000 in
theorem specHull_any (p : Option Addr) (n c : Nat) (xss : List (List Int)) (w : World) (hn : n ≤ 9223372036854775807) (hx : Intss w p n xss) :
    Calls Tryz.prog 9 #[.slice p n c] w (NewMB w (hullV xss)) := by
  have hl := Lib.hid hx.len
  by_cases h200 : n ≤ 200
  · cases hf : flatB xss
    · have HV : Hid (hullV xss = ([], false)) := Lib.hid (by unfold hullV; rw [if_neg]; intro h; rw [h.2.1] at hf; cases hf)
      go_enter Tryz.func9, Tryz.ntmps9
      go_wp2_with fail
      refine (l7Flat_any _ _ _ _ _ (by omega) hx).mono ?_
      rw [hf]
      rintro e w1 ⟨rfl, rfl⟩
      go_wp2_with fail
      go_ret2
      rw [HV.out]
      exact NewMB.empty (Below.refl _ _)
    · have hpt : ∀ k, k < n → isPt 50 (nthR xss k) = true := fun k hk => flatB_at hf (by rw [hl.out]; exact hk)
      have Hpt := Lib.hid hpt
      have HF := Lib.hid hf
      have HS2 : Hid (∀ x ∈ sortL xss, PtIn 50 x) := Lib.hid fun x hx2 => isPt_in (List.all_eq_true.1 hf x (sortL_mem hx2))
      clear hpt
      have hd200 : decide ((200 : Int) < (n : Int)) = false := by simp; omega
      go_enter Tryz.func9, Tryz.ntmps9
      go_wp2_with fail
      refine (l7Flat_any _ _ _ _ _ (by omega) hx).mono ?_
      rw [hf]
      rintro e w1 ⟨rfl, rfl⟩
      clear hf
      go_wp2_with fail
      go_loopw [4, 5] (fun v i wr => ∃ (k g m : Nat) (c' : Nat) (rows : List Row), k ≤ n ∧ i = .int .i64 k ∧ v = .slice (some ⟨g, 0, none⟩) m c' ∧ Own2 wr w.heap.size wr.heap.size (some ⟨g, 0, none⟩) m c' rows (sortL (xss.take k)) ∧ Below w.heap.size w wr) (fun _ i _ => n - (intOf i).toNat)
      case atStart => exact ⟨0, _, _, _, [], Nat.zero_le _, rfl, rfl, (Own2.empty w).up, boxed w _⟩
      case round =>
        obtain ⟨k, g, m, c', rows, hk, rfl, rfl, hown, hb⟩ := hrel
        by_cases hlt : k < n
        · generalize wr = W at *
          obtain ⟨b, o, q1, m1, d1, rfl, hc, hm1, hi⟩ := (hx.below hb).cell k hlt
          have hm2 : m1 = 2 := by rw [← hi.len]; exact (isPt_in (Hpt.out k hlt)).len
          subst hm2
          have hml : m ≤ 200 := by
            have h1 : (sortL (xss.take k)).length = m := by rw [← hown.len, hown.count]
            have h2 := sortL_length (xss.take k)
            rw [List.length_take, hl.out] at h2
            omega
          have hrl : ∀ j, j < m → (nthR (sortL (xss.take k)) j).length = 2 := fun j hj => by
            have h1 : (sortL (xss.take k)).length = m := by rw [← hown.len, hown.count]
            have h2 := sortL_mem (nthR_mem (xss := sortL (xss.take k)) (k := j) (by omega))
            exact (isPt_in (List.all_eq_true.1 HF.out _ (List.mem_of_mem_take h2))).len
          go_wp2_with fail
          refine (l2Put_any w.heap.size _ _ _ _ _ _ _ _ _ _ (by omega) (by omega) hown hi hrl).mono ?_
          rintro e w2 ⟨g', n', c2, rows', rfl, ho2, hb2⟩
          rw [← sortL_next (by rw [hl.out]; exact hlt)] at ho2
          go_wp2_with fail
          go_roundw
          case rel => exact ⟨k + 1, _, _, _, _, by omega, by go_num, rfl, ho2, hb.trans hb2⟩
          case measure => simp [intOf]; omega
        · obtain rfl : k = n := by omega
          rw [List.take_of_length_le (by rw [hl.out]; exact Nat.le_refl _)] at hown
          have HSl := Lib.hid (show (sortL xss).length = m by rw [← hown.len, hown.count])
          have hm200 : m ≤ 200 := by
            have h2 := sortL_length xss
            rw [HSl.out, hl.out] at h2
            omega
          generalize wr = W at *
          by_cases h3 : m < 3
          · have HV : Hid (hullV xss = ([], false)) := Lib.hid (by unfold hullV; rw [if_neg]; intro h; have := h.2.2.1; rw [HSl.out] at this; omega)
            have hd3 : decide ((m : Int) < 3) = true := by simp; omega
            go_wp2_with fail
            go_ret2
            rw [HV.out]
            exact NewMB.empty hb
          · have hd3 : decide ((m : Int) < 3) = false := by simp; omega
            have hbs := hb.size
            have hpin : ∀ j, j < m → PtIn 50 (nthR (sortL xss) j) := fun j hj => HS2.out _ (nthR_mem (by rw [HSl.out]; exact hj))
            go_wp2_with fail
            refine (l7Hull_any w.heap.size _ _ _ _ _ _ (by omega) (by omega) hbs hown hpin).mono ?_
            rintro e w2 ⟨p2, c2, rfl, ho2, hb2⟩
            have hbw := Below.step hb hb2
            rw [show hullOf (turnI (sortL xss)) (List.range m) = idxH (sortL xss) by rw [idxH, HSl.out]] at ho2 ⊢
            have hx2 := picked (hown.below hb2) (fun i hi => by have := idxH_lt hi; rw [HSl.out] at this; exact this) ho2
            obtain ⟨L, hL⟩ : ∃ L, L = (idxH (sortL xss)).length := ⟨_, rfl⟩
            rw [← hL] at ho2 hx2 ⊢
            have HL := Lib.hid hL
            clear hL
            have hLb : L ≤ 100000 := by
              have := hullOf_length (turnI (sortL xss)) (List.range (sortL xss).length)
              have h5 := HL.out
              unfold idxH at h5
              rw [← h5, List.length_range, HSl.out] at this
              omega
            by_cases hL3 : L < 3
            · have HV : Hid (hullV xss = ([], false)) := Lib.hid (by unfold hullV; rw [if_neg]; intro h; have := h.2.2.2.1; rw [← HL.out] at this; omega)
              have hd4 : decide ((L : Int) < 3) = true := by simp; omega
              go_wp2_with fail
              go_ret2
              rw [HV.out]
              exact NewMB.empty hbw
            · have hd4 : decide ((L : Int) < 3) = false := by simp; omega
              by_cases hL12 : 12 < L
              · have HV : Hid (hullV xss = ([], false)) := Lib.hid (by unfold hullV; rw [if_neg]; intro h; have := h.2.2.2.2; rw [← HL.out] at this; omega)
                have hd5 : decide ((12 : Int) < (L : Int)) = true := by simp; omega
                go_wp2_with fail
                go_ret2
                rw [HV.out]
                exact NewMB.empty hbw
              · have hd5 : decide ((12 : Int) < (L : Int)) = false := by simp; omega
                have HV : Hid (hullV xss = (hullL (sortL xss), true)) := Lib.hid (by unfold hullV; rw [if_pos]; exact ⟨by rw [hl.out]; exact h200, HF.out, by rw [HSl.out]; omega, by rw [← HL.out]; omega, by rw [← HL.out]; omega⟩)
                have hlen2 : ∀ k, k < L → (nthR (List.map (nthR (sortL xss)) (idxH (sortL xss))) k).length ≤ 100000 := fun k hk => by
                  have hk' : k < (idxH (sortL xss)).length := by rw [← HL.out]; exact hk
                  rw [nthR_eq (by simpa using hk'), List.getElem_map]
                  have h7 := idxH_lt (List.getElem_mem hk')
                  rw [(HS2.out _ (nthR_mem h7)).len]
                  omega
                go_wp2_with fail
                refine (l7Copy_any _ _ _ _ _ hLb hx2 hlen2).mono ?_
                rintro e w3 ⟨p3, c3, rfl, ho3, hb3⟩
                go_wp2_with fail
                go_ret2
                rw [HV.out]
                exact ⟨_, _, _, rfl, ho3.widen hbw.size (Nat.le_refl _), Below.step hbw hb3⟩
  · have HV : Hid (hullV xss = ([], false)) := Lib.hid (by unfold hullV; rw [if_neg]; intro h; exact h200 (by rw [← hl.out]; exact h.1))
    go_enter Tryz.func9, Tryz.ntmps9
    go_wp2
    go_ret2
    rw [HV.out]
    exact NewMB.empty (Below.refl _ _)

end Go.Proofs.YthdonnkekggbbaaGreatDoor
