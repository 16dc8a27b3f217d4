/- Contracts of both PolygonText. Conditions: sizes; the library's table. -/
import Derived.Test.YthdonnkekggbbaaGreatDoorJnTexts
import Derived.Test.YthdonnkekggbbaaGreatDoorHull5
namespace Go.Proofs.YthdonnkekggbbaaGreatDoor
open Go.RowKit
set_option linter.unusedVariables false
set_option linter.unusedSimpArgs false
set_option maxRecDepth 100000

def rowsT (P : List (List Int)) : List (List UInt8) := P.map commaT
open Classical in
noncomputable def polyT (P : List (List Int)) : List UInt8 := if polyB P = true then Lib.join (rowsT P) [32] else []
theorem rowsT_length (P : List (List Int)) : (rowsT P).length = P.length := by simp [rowsT]
theorem rowsT_take {P : List (List Int)} {k : Nat} (h : k < P.length) : rowsT (P.take (k + 1)) = rowsT (P.take k) ++ [commaT (nthR P k)] := by
  rw [take_nthR h]; simp [rowsT]
theorem pt_vec {x : List Int} (h : isPt 50 x = true) : isVec x = true ∧ AllIn x ∧ x.length = 2 := by
  have hp := isPt_in h
  have hv : isVec x = true := by
    simp only [isPt, Bool.and_eq_true, decide_eq_true_eq] at h
    simp only [isVec, Bool.and_eq_true, inR, allR, List.all_eq_true, decide_eq_true_eq]
    refine ⟨⟨by omega, by omega⟩, fun y hy => ?_⟩
    have := List.all_eq_true.1 h.2 y hy
    have := inR_true this
    omega
  exact ⟨hv, vec_in hv, hp.len⟩
theorem rowsT_tot {P : List (List Int)} (h : ∀ k, k < P.length → isPt 50 (nthR P k) = true) : totS (rowsT P) ≤ 44 * P.length := by
  have key : ∀ k, k ≤ P.length → totS (rowsT (P.take k)) ≤ 44 * k := by
    intro k
    induction k with
    | zero => intro _; simp [rowsT, totS]
    | succ k ih =>
      intro hk
      have h1 := ih (by omega)
      obtain ⟨_, h2, h3⟩ := pt_vec (h k (by omega))
      have h4 := commaT_length h2
      rw [rowsT_take (by omega)]
      simp only [totS, List.map_append, List.sum_append, List.map_cons, List.map_nil, List.sum_cons, List.sum_nil] at h1 ⊢
      omega
  have := key P.length (Nat.le_refl _)
  rwa [List.take_length] at this

set_option maxHeartbeats 2000000 in
theorem implPolyText_any (p : Option Addr) (n c : Nat) (xss : List (List Int)) (w : World) (hn : n ≤ 9223372036854775807) (hx : Intss w p n xss) (htab : TabW w) :
    Calls Tryz.prog 26 #[.slice p n c] w (NewText w (polyT xss)) := by
  have hl := Lib.hid hx.len
  cases h : polyB xss
  · have HV : Hid (polyT xss = []) := Lib.hid (by unfold polyT; rw [if_neg (by rw [h]; simp)])
    go_enter Tryz.func26, Tryz.ntmps26
    go_wp2_with fail
    refine (implIsPolygon_any _ _ _ _ _ hn hx).mono ?_
    rw [h]
    rintro e w1 ⟨rfl, hb1⟩
    go_wp2
    go_ret
    exact ⟨ret_str HV.out.symm, hb1⟩
  · have HV : Hid (polyT xss = Lib.join (rowsT xss) [32]) := Lib.hid (by unfold polyT; rw [if_pos h])
    obtain ⟨h3, h12, hpt, _⟩ := polyB_iff.1 h
    have Ht2 : Hid (totS (rowsT xss) ≤ 33554432) := Lib.hid (by have := rowsT_tot hpt; omega)
    rw [hl.out] at h3 h12 hpt
    have Hp := Lib.hid (show ∀ k, k < n → isVec (nthR xss k) = true ∧ AllIn (nthR xss k) ∧ (nthR xss k).length = 2 from fun k hk => pt_vec (hpt k hk))
    clear hpt
    go_enter Tryz.func26, Tryz.ntmps26
    go_wp2_with fail
    refine (implIsPolygon_any _ _ _ _ _ hn hx).mono ?_
    rw [h]
    rintro e w1 ⟨rfl, hb1⟩
    have hx1 := hx.below hb1
    go_wp2_with fail
    go_loopw [3, 11] (fun v i wr => ∃ (k : Nat) (p' : Option Addr) (c' : Nat), k ≤ n ∧ i = .int .i64 k ∧ v = .slice p' k c' ∧ OwnS wr w1.heap.size wr.heap.size p' k c' (rowsT (xss.take k)) ∧ Below w1.heap.size w1 wr) (fun _ i _ => n - (intOf i).toNat)
    case atStart => exact ⟨0, _, _, Nat.zero_le _, rfl, rfl, OwnV.nil _ _ _ _ _, Below.refl _ _⟩
    case round =>
      obtain ⟨k, p', c', hk, rfl, rfl, hown, hb⟩ := hrel
      by_cases hlt : k < n
      · obtain ⟨b, o, q, m, d, rfl, hc, hm, hi⟩ := (hx1.below hb).cell k hlt
        obtain ⟨hv, _, hl2⟩ := Hp.out k hlt
        have hm2 : m ≤ 2 := by rw [← hi.len, hl2]; omega
        have hd1 : decide ((k : Int) < (n : Int)) = true := by simp; omega
        have E := Lib.hid (rowsT_take (P := xss) (k := k) (by rw [hl.out]; exact hlt))
        have hev : vecT (nthR xss k) = commaT (nthR xss k) := by rw [vecT, hv]; rfl
        have hbw := Below.step hb1 hb
        have C := Lib.hid (implVecText_any _ _ d _ _ hi (by omega) (htab.below hbw))
        rw [hev] at C
        clear hev
        generalize commaT (nthR xss k) = t at *
        generalize wr = W at *
        go_wp2_with fail
        refine C.out.mono ?_
        rintro e w2 ⟨rfl, hb2⟩
        have hown2 := hown.below hb2
        have hb3 := Below.step hb hb2
        go_wp2_with (at_builtin; refine append_str rfl _ _ rfl _ w1.heap.size _ _ _ _ _ rfl (OwnV.alloc hown2 _) w2.heap.size t rfl (cellNew _ _ _) (by omega) (sizeNew hb3 _) ?_; intro p5 c5 w5 hown5 hg5)
        have hb5 := hg5.below (sizeNew hb3 _) fun a ha => (OwnV.lt hown2 a ha).1
        go_roundw
        case rel => exact ⟨k + 1, _, _, by omega, by go_num, rfl, by rw [E.out]; exact hown5, Below.new hb3 _ hb5⟩
        case measure => simp [intOf]; omega
      · obtain rfl : k = n := by omega
        rw [List.take_of_length_le (by rw [hl.out]; exact Nat.le_refl _)] at hown
        have hcap : k ≤ c' := by
          rcases OwnV.form1 hown with ⟨_, rfl, rfl⟩ | ⟨g, _, _, _, _, hc, _⟩
          · exact Nat.le_refl _
          · exact hc
        go_wp2_with fail
        refine (implJoin_any _ _ _ _ ([32]) _ hown.rd hcap (by omega) Ht2.out (by decide)).mono ?_
        rintro e w2 ⟨rfl, hb2⟩
        go_wp2_with fail
        go_ret
        exact ⟨ret_str HV.out.symm, Below.step (Below.step hb1 hb) hb2⟩

set_option maxHeartbeats 2000000 in
theorem specPolyText_any (p : Option Addr) (n c : Nat) (xss : List (List Int)) (w : World) (hn : n ≤ 9223372036854775807) (hx : Intss w p n xss) :
    Calls Tryz.prog 27 #[.slice p n c] w (NewText w (polyT xss)) := by
  have hl := Lib.hid hx.len
  cases h : polyB xss
  · have HV : Hid (polyT xss = []) := Lib.hid (by unfold polyT; rw [if_neg (by rw [h]; simp)])
    go_enter Tryz.func27, Tryz.ntmps27
    go_wp2_with fail
    refine (specIsPolygon_any _ _ _ _ _ hn hx).mono ?_
    rw [h]
    rintro e w1 ⟨rfl, hb1⟩
    go_wp2
    go_ret
    exact ⟨ret_str HV.out.symm, hb1⟩
  · have HV : Hid (polyT xss = Lib.join (rowsT xss) [32]) := Lib.hid (by unfold polyT; rw [if_pos h])
    obtain ⟨h3, h12, hpt, _⟩ := polyB_iff.1 h
    have Ht2 : Hid (totS (rowsT xss) ≤ 33554432) := Lib.hid (by have := rowsT_tot hpt; omega)
    rw [hl.out] at h3 h12 hpt
    have Hp := Lib.hid (show ∀ k, k < n → isVec (nthR xss k) = true ∧ AllIn (nthR xss k) ∧ (nthR xss k).length = 2 from fun k hk => pt_vec (hpt k hk))
    clear hpt
    go_enter Tryz.func27, Tryz.ntmps27
    go_wp2_with fail
    refine (specIsPolygon_any _ _ _ _ _ hn hx).mono ?_
    rw [h]
    rintro e w1 ⟨rfl, hb1⟩
    have hx1 := hx.below hb1
    go_wp2_with fail
    go_loopw [3, 4] (fun v i wr => ∃ (k : Nat) (p' : Option Addr) (c' : Nat), k ≤ n ∧ i = .int .i64 k ∧ v = .slice p' k c' ∧ OwnS wr w1.heap.size wr.heap.size p' k c' (rowsT (xss.take k)) ∧ Below w1.heap.size w1 wr) (fun _ i _ => n - (intOf i).toNat)
    case atStart => exact ⟨0, _, _, Nat.zero_le _, rfl, rfl, OwnV.up (OwnV.emptyV w1 _), (Below.refl _ _).alloc (Nat.le_refl _) _⟩
    case round =>
      obtain ⟨k, p', c', hk, rfl, rfl, hown, hb⟩ := hrel
      by_cases hlt : k < n
      · obtain ⟨b, o, q, m, d, rfl, hc, hm, hi⟩ := (hx1.below hb).cell k hlt
        obtain ⟨hv, ha, hl2⟩ := Hp.out k hlt
        have hm2 : m ≤ 2 := by rw [← hi.len, hl2]; omega
        have hd1 : decide ((k : Int) < (n : Int)) = true := by simp; omega
        have E := Lib.hid (rowsT_take (P := xss) (k := k) (by rw [hl.out]; exact hlt))
        have C := Lib.hid (l2Text_any _ _ d _ _ hi (by omega) ha)
        generalize commaT (nthR xss k) = t at *
        generalize wr = W at *
        go_wp2_with fail
        refine C.out.mono ?_
        rintro e w2 ⟨rfl, hb2⟩
        have hown2 := hown.below hb2
        have hb3 := Below.step hb hb2
        go_wp2_with (at_builtin; refine append_str rfl _ _ rfl _ w1.heap.size _ _ _ _ _ rfl (OwnV.alloc hown2 _) w2.heap.size t rfl (cellNew _ _ _) (by omega) (sizeNew hb3 _) ?_; intro p5 c5 w5 hown5 hg5)
        have hb5 := hg5.below (sizeNew hb3 _) fun a ha => (OwnV.lt hown2 a ha).1
        go_roundw
        case rel => exact ⟨k + 1, _, _, by omega, by go_num, rfl, by rw [E.out]; exact hown5, Below.new hb3 _ hb5⟩
        case measure => simp [intOf]; omega
      · obtain rfl : k = n := by omega
        rw [List.take_of_length_le (by rw [hl.out]; exact Nat.le_refl _)] at hown
        go_wp2_with fail
        refine (specJoin_any _ _ _ _ ([32]) _ hown.rd (by omega) Ht2.out (by decide)).mono ?_
        rintro e w2 ⟨rfl, hb2⟩
        go_wp2_with fail
        go_ret
        exact ⟨ret_str HV.out.symm, Below.step (Below.step hb1 hb) hb2⟩

end Go.Proofs.YthdonnkekggbbaaGreatDoor
