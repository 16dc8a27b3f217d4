/- Contracts: numbers separated by commas, the text of a vector. Conditions: sizes; the library's table. -/
import Derived.Test.YtpfklkmmhdpphadGreatDoorSplitB
import Derived.Test.YtpfklkmmhdpphadGreatDoorStrFns3
namespace Go.Proofs.YtpfklkmmhdpphadGreatDoor
open Go.RowKit
set_option linter.unusedVariables false
set_option linter.unusedSimpArgs false
set_option maxRecDepth 100000

def itoas (xs : List Int) : List (List UInt8) := xs.map Lib.itoa
theorem itoas_length (xs : List Int) : (itoas xs).length = xs.length := by simp [itoas]
theorem itoas_take {xs : List Int} {k : Nat} (h : k < xs.length) : itoas (xs.take (k + 1)) = itoas (xs.take k) ++ [Lib.itoa (nth xs k)] := by
  rw [take_nth h]; simp [itoas]
def commaT (xs : List Int) : List UInt8 := Lib.join (itoas xs) [44]
/-- Numbers that an int holds. -/
def AllIn (xs : List Int) : Prop := ∀ k, k < xs.length → -9223372036854775808 ≤ nth xs k ∧ nth xs k ≤ 9223372036854775807
theorem itoas_tot {xs : List Int} (h : AllIn xs) : totS (itoas xs) ≤ 21 * xs.length := by
  have key : ∀ k, k ≤ xs.length → totS (itoas (xs.take k)) ≤ 21 * k := by
    intro k
    induction k with
    | zero => intro _; simp [itoas, totS]
    | succ k ih =>
      intro hk
      have h1 := ih (by omega)
      have h2 := h k (by omega)
      have h3 := Lib.itoa_length_le _ h2.1 h2.2
      rw [itoas_take (by omega)]
      simp only [totS, List.map_append, List.sum_append, List.map_cons, List.map_nil, List.sum_cons, List.sum_nil] at h1 ⊢
      omega
  have := key xs.length (Nat.le_refl _)
  rwa [List.take_length] at this
theorem vec_in {xs : List Int} (h : isVec xs = true) : AllIn xs := fun k hk => by
  unfold isVec at h
  rw [Bool.and_eq_true] at h
  have := List.all_eq_true.1 h.2 (nth xs k) (by rw [nth_eq hk]; exact List.getElem_mem _)
  have := inR_true this
  omega

theorem commaT_length {xs : List Int} (h : AllIn xs) : (commaT xs).length ≤ 22 * xs.length := by
  have h1 := joinTo_length (itoas xs) [44] (itoas xs).length (Nat.le_refl _)
  rw [joinTo_eq _ _ _ (Nat.le_refl _), List.take_length, itoas_length] at h1
  have h2 := itoas_tot h
  show (Lib.join (itoas xs) [44]).length ≤ _
  simp only [List.length_cons, List.length_nil] at h1
  omega

theorem l2Text_any (p : Option Addr) (n c : Nat) (xs : List Int) (w : World) (hx : Ints w p n xs) (hn : n ≤ 1048576) (hb : AllIn xs) :
    Calls Tryz.prog 67 #[.slice p n c] w (NewText w (commaT xs)) := by
  have hl := Lib.hid hx.len
  have Hb := Lib.hid hb
  have ht := itoas_tot hb
  rw [hl.out] at ht
  have Ht2 : Hid (totS (itoas xs) ≤ 33554432) := Lib.hid (by omega)
  clear hb ht
  go_enter Tryz.func67, Tryz.ntmps67
  go_wp2
  go_loopw [3, 4] (fun v i wr => ∃ (k : Nat) (p' : Option Addr) (c' : Nat), k ≤ n ∧ i = .int .i64 k ∧ v = .slice p' k c' ∧ OwnS wr w.heap.size wr.heap.size p' k c' (itoas (xs.take k)) ∧ Below w.heap.size w wr) (fun _ i _ => n - (intOf i).toNat)
  case atStart => exact ⟨0, _, _, Nat.zero_le _, rfl, rfl, OwnV.up (OwnV.emptyV w _), (Below.refl _ _).alloc (Nat.le_refl _) _⟩
  case round =>
    obtain ⟨k, p', c', hk, rfl, rfl, hown, hb⟩ := hrel
    by_cases hlt : k < n
    · obtain ⟨b, o, rfl, hc⟩ := (hx.below hb).cell k hlt
      have hkl : k < xs.length := by rw [hl.out]; exact hlt
      obtain ⟨b0, b1⟩ := Hb.out k hkl
      have E := Lib.hid (itoas_take hkl)
      clear hkl
      generalize nth xs k = x at *
      go_wp2_with fail
      refine (specFormat_any _ _ b0 b1).mono ?_
      rintro e w1 ⟨rfl, hb1⟩
      have hown1 := hown.below hb1
      have hb2 := Below.step hb hb1
      generalize Lib.itoa x = t at *
      go_wp2_with (at_builtin; refine append_str rfl _ _ rfl _ w.heap.size _ _ _ _ _ rfl (OwnV.alloc hown1 _) w1.heap.size t rfl (cellNew _ _ _) (by omega) (sizeNew hb2 _) ?_; intro p2 c2 w2 hown2 hg2)
      have hb3 := hg2.below (sizeNew hb2 _) fun a ha => (OwnV.lt hown1 a ha).1
      go_roundw
      case rel => exact ⟨k + 1, _, _, by omega, by go_num, rfl, by rw [E.out]; exact hown2, Below.new hb2 _ hb3⟩
      case measure => simp [intOf]; omega
    · obtain rfl : k = n := by omega
      rw [List.take_of_length_le (by rw [hl.out]; exact Nat.le_refl _)] at hown
      go_wp2_with fail
      refine (specJoin_any _ _ _ _ ([44]) _ hown.rd hn Ht2.out (by decide)).mono ?_
      rintro e w1 ⟨rfl, hb1⟩
      have hb2 := Below.step hb hb1
      go_wp2_with fail
      go_ret
      exact ⟨rfl, hb2⟩

theorem texts_any (p : Option Addr) (n c : Nat) (xs : List Int) (w : World) (hx : Ints w p n xs) (hn : n ≤ 1048576) (hb : AllIn xs) (htab : TabW w) :
    Calls Tryz.prog 83 #[.slice p n c] w (NewText w (commaT xs)) := by
  have hl := Lib.hid hx.len
  have Hb := Lib.hid hb
  have ht := itoas_tot hb
  rw [hl.out] at ht
  have Ht2 : Hid (totS (itoas xs) ≤ 33554432) := Lib.hid (by omega)
  clear hb ht
  go_enter Tryz.func83, Tryz.ntmps83
  go_wp2
  go_loopw [3, 8] (fun v i wr => ∃ (k : Nat) (p' : Option Addr) (c' : Nat), k ≤ n ∧ i = .int .i64 k ∧ v = .slice p' k c' ∧ OwnS wr w.heap.size wr.heap.size p' k c' (itoas (xs.take k)) ∧ Below w.heap.size w wr) (fun _ i _ => n - (intOf i).toNat)
  case atStart => exact ⟨0, _, _, Nat.zero_le _, rfl, rfl, OwnV.nil _ _ _ _ _, Below.refl _ _⟩
  case round =>
    obtain ⟨k, p', c', hk, rfl, rfl, hown, hb⟩ := hrel
    by_cases hlt : k < n
    · obtain ⟨b, o, rfl, hc⟩ := (hx.below hb).cell k hlt
      have hkl : k < xs.length := by rw [hl.out]; exact hlt
      obtain ⟨b0, b1⟩ := Hb.out k hkl
      have E := Lib.hid (itoas_take hkl)
      clear hkl
      generalize nth xs k = x at *
      go_wp2_with fail
      refine (implFormat_any _ _ b0 b1 (htab.below hb)).mono ?_
      rintro e w1 ⟨rfl, hb1⟩
      have hown1 := hown.below hb1
      have hb2 := Below.step hb hb1
      generalize Lib.itoa x = t at *
      go_wp2_with (at_builtin; refine append_str rfl _ _ rfl _ w.heap.size _ _ _ _ _ rfl (OwnV.alloc hown1 _) w1.heap.size t rfl (cellNew _ _ _) (by omega) (sizeNew hb2 _) ?_; intro p2 c2 w2 hown2 hg2)
      have hb3 := hg2.below (sizeNew hb2 _) fun a ha => (OwnV.lt hown1 a ha).1
      go_roundw
      case rel => exact ⟨k + 1, _, _, by omega, by go_num, rfl, by rw [E.out]; exact hown2, Below.new hb2 _ hb3⟩
      case measure => simp [intOf]; omega
    · obtain rfl : k = n := by omega
      rw [List.take_of_length_le (by rw [hl.out]; exact Nat.le_refl _)] at hown
      have hcap : k ≤ c' := by
        rcases OwnV.form1 hown with ⟨_, rfl, rfl⟩ | ⟨g, _, _, _, _, hc, _⟩
        · exact Nat.le_refl _
        · exact hc
      go_wp2_with fail
      refine (implJoin_any _ _ _ _ ([44]) _ hown.rd hcap hn Ht2.out (by decide)).mono ?_
      rintro e w1 ⟨rfl, hb1⟩
      have hb2 := Below.step hb hb1
      go_wp2_with fail
      go_ret
      exact ⟨rfl, hb2⟩

/-- The text of a vector, or none. -/
def vecT (xs : List Int) : List UInt8 := if isVec xs = true then commaT xs else []
theorem implVecText_any (p : Option Addr) (n c : Nat) (xs : List Int) (w : World) (hx : Ints w p n xs) (hn : n ≤ 1048576) (htab : TabW w) :
    Calls Tryz.prog 65 #[.slice p n c] w (NewText w (vecT xs)) := by
  cases h : isVec xs
  · have HV : Hid (vecT xs = []) := Lib.hid (by rw [vecT, h]; rfl)
    go_enter Tryz.func65, Tryz.ntmps65
    go_wp2_with (go_at_call 28; (with_reducible refine (implIsVector_any _ _ _ _ _ hx (by omega)).mono ?_); rintro e w' ⟨rfl, rfl⟩)
    go_ret
    exact ⟨ret_str (a := []) HV.out.symm, Below.refl _ _⟩
  · have HV : Hid (vecT xs = commaT xs) := Lib.hid (by rw [vecT, h]; rfl)
    have HI := Lib.hid (vec_in h)
    go_enter Tryz.func65, Tryz.ntmps65
    go_wp2_with (go_at_call 28; (with_reducible refine (implIsVector_any _ _ _ _ _ hx (by omega)).mono ?_); rintro e w' ⟨rfl, rfl⟩)
    refine (texts_any _ _ _ _ _ hx hn HI.out htab).mono ?_
    rintro e w1 ⟨rfl, hb1⟩
    go_wp2_with fail
    go_ret
    exact ⟨ret_str HV.out.symm, hb1⟩

end Go.Proofs.YtpfklkmmhdpphadGreatDoor
