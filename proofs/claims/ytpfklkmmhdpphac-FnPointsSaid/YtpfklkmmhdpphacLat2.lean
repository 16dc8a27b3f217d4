/- Contract of spec.l5All: all vectors of a box, in order. Conditions: the box is small. -/
import Derived.Test.YtpfklkmmhdpphacLat
namespace Go.Proofs.Ytpfklkmmhdpphac
open Go.RowKit
set_option linter.unusedVariables false
set_option linter.unusedSimpArgs false
set_option maxRecDepth 100000

def allTo (lo hi : Int) : Nat → List (List Int)
  | 0 => [[]]
  | k + 1 => latStep lo hi (allTo lo hi k)
theorem allTo_rows (lo hi : Int) : ∀ (k : Nat), ∀ r ∈ allTo lo hi k, r.length = k
  | 0 => by simp [allTo]
  | k + 1 => latStep_rows (allTo_rows lo hi k)
theorem allTo_length {lo hi : Int} (hw : wid lo hi ≤ 201) : ∀ k, (allTo lo hi k).length ≤ 201 ^ k
  | 0 => by simp [allTo]
  | k + 1 => by
    rw [allTo, latStep_length, Nat.pow_succ]
    exact Nat.mul_le_mul (allTo_length hw k) hw
theorem latTo_const {los his : List Int} {lo hi : Int} {n : Nat} (h : ∀ k, k < n → nth los k = lo ∧ nth his k = hi) : ∀ k, k ≤ n → latTo los his k = allTo lo hi k
  | 0, _ => rfl
  | k + 1, hk => by
    obtain ⟨h1, h2⟩ := h k (by omega)
    rw [latTo, allTo, h1, h2, latTo_const h k (by omega)]

/-- A slice of one row that is empty but not nil. -/
theorem Own2.oneE (w : World) : Own2 ((w.alloc (.cells #[] 3)).alloc (.cells #[.slice (some ⟨w.heap.size, 0, none⟩) 0 0] 30)) w.heap.size (w.heap.size + 2) (some ⟨w.heap.size + 1, 0, none⟩) 1 1 [(some ⟨w.heap.size, 0, none⟩, 0, 0)] [[]] := by
  have h0 := ((Own.empty w).alloc (.cells #[.slice (some ⟨w.heap.size, 0, none⟩) 0 0] 30)).widen (lo' := w.heap.size) (hi' := w.heap.size + 2) (Nat.le_refl _) (by omega)
  have h1 := World.ownsRow_lit (base := w.heap.size) (e := 30) (size := 1) (w.alloc (.cells #[] 3)) #[.slice (some ⟨w.heap.size, 0, none⟩) 0 0] 1 (by simp) (by unfold maxLen; omega) rfl
  rw [World.size_alloc] at h1
  exact ⟨⟨h1, fun a ha => by injection ha with ha; subst ha; dsimp only; omega⟩, rfl, fun k h => by
    have : k = 0 := by simpa using h
    subst this
    exact h0, List.pairwise_singleton _ _⟩

set_option maxHeartbeats 1000000 in
theorem l5All_any (n : Nat) (lo hi : Int) (w : World) (hn : n ≤ 3) (hw : wid lo hi ≤ 201) (hr1 : -100000 ≤ lo) (hr2 : hi ≤ 100000) :
    Calls Try.prog 42 #[.int .i64 n, .int .i64 lo, .int .i64 hi] w (NewL w (allTo lo hi n)) := by
  have Hlen : Hid (∀ k, (allTo lo hi k).length ≤ 201 ^ k) := Lib.hid (allTo_length hw)
  go_enter Try.func42, Try.ntmps42
  go_wp2
  go_loopw [7, 8] (fun a i wr => ∃ (k : Nat) (p' : Option Addr) (n' c' : Nat), k ≤ n ∧ i = .int .i64 k ∧ a = .slice p' n' c' ∧ OwnM wr w.heap.size wr.heap.size p' n' c' (allTo lo hi k) ∧ Below w.heap.size w wr) (fun _ i _ => n - (intOf i).toNat)
  case atStart => exact ⟨0, _, _, _, Nat.zero_le _, rfl, rfl, ⟨_, (Own2.oneE w).up⟩, boxed2 w _ _⟩
  case round =>
    obtain ⟨k, p', n', c', hk, rfl, rfl, hown, hb⟩ := hrel
    by_cases hlt : k < n
    · have hrd := hown.rd
      have hlenk := Hlen.out k
      rw [hown.len] at hlenk
      have hn' : n' ≤ 40401 := by
        have : (201 : Nat) ^ k ≤ 201 ^ 2 := Nat.pow_le_pow_right (by omega) (by omega)
        omega
      have Hrows : Hid (∀ i, i < n' → (nthR (allTo lo hi k) i).length = k) := Lib.hid fun i hin => allTo_rows lo hi k _ (nthR_mem (by rw [hown.len]; exact hin))
      have hd1 : decide ((k : Int) < (n : Int)) = true := by simp; omega
      have Hnext : Hid (allTo lo hi (k + 1) = latStep lo hi (allTo lo hi k)) := rfl
      have hol := Lib.hid hown.len
      generalize hA : allTo lo hi k = A at *
      have HA := Lib.hid hA
      have hwd : (lo : Int) + (wid lo hi : Nat) = max lo (hi + 1) := by unfold wid; omega
      clear hA hlenk
      generalize wr = W1 at *
      go_wp2
      go_loopw [9, 10] (fun a i wr => ∃ (i' : Nat) (p2 : Option Addr) (n2 c2 : Nat) (rows : List Row), i' ≤ n' ∧ i = .int .i64 i' ∧ a = .slice p2 n2 c2 ∧ Own2 wr W1.heap.size wr.heap.size p2 n2 c2 rows (latStep lo hi (A.take i')) ∧ n2 ≤ 201 * i' ∧ Below W1.heap.size W1 wr) (fun _ i _ => n' - (intOf i).toNat)
      case atStart => exact ⟨0, _, _, _, [], Nat.zero_le _, rfl, rfl, (Own2.empty W1).up, Nat.zero_le _, (Below.refl _ _).alloc (Nat.le_refl _) _⟩
      case round =>
        obtain ⟨i', p2, n2, c2, rows, hi', rfl, rfl, hown2, hn2, hb2⟩ := hrel
        by_cases hlt2 : i' < n'
        · obtain ⟨b3, o3, q3, m3, d3, rfl, hc3, hmd3, hd3, hi3⟩ := hrd.cellc i' hlt2
          have hc3' := (hb2.cell (World.block_lt_of_cell? W1 _ hc3)).trans hc3
          have hm3 : m3 ≤ 3 := by rw [← hi3.len, Hrows.out i' hlt2]; omega
          have hd2 : decide ((i' : Int) < (n' : Int)) = true := by simp; omega
          have Hst : Hid (latStep lo hi (A.take (i' + 1)) = latStep lo hi (A.take i') ++ latRow (nthR A i') lo (wid lo hi)) := Lib.hid (latStep_take lo hi (by rw [hol.out]; exact hlt2))
          generalize wr = W2 at *
          go_wp2
          go_loopw [9, 11] (fun a x wr => ∃ (t : Nat) (p3 : Option Addr) (n3 c3 : Nat) (rows : List Row), t ≤ wid lo hi ∧ x = .int .i64 (lo + (t : Int)) ∧ a = .slice p3 n3 c3 ∧ Own2 wr W1.heap.size wr.heap.size p3 n3 c3 rows (latStep lo hi (A.take i') ++ latRow (nthR A i') lo t) ∧ n3 ≤ 201 * i' + t ∧ Below W1.heap.size W1 wr) (fun _ x _ => (hi + 1 - intOf x).toNat)
          case atStart => exact ⟨0, _, _, _, rows, Nat.zero_le _, by simp, rfl, by simpa [latRow] using hown2, by omega, hb2⟩
          case round =>
            obtain ⟨t, p3, n3, c3, rows, ht, rfl, rfl, hown3, hn3, hb3⟩ := hrel
            by_cases hlt3 : t < wid lo hi
            · have hle : lo + (t : Int) ≤ hi := by unfold wid at hlt3; omega
              have hc6 := (hb3.cell (World.block_lt_of_cell? W1 _ hc3)).trans hc3
              have hc7 := ((boxed wr (.cells #[] 3)).cell (World.block_lt_of_cell? wr _ hc6)).trans hc6
              have hi4 := (hi3.below hb3).alloc (.cells #[] 3)
              go_wp2_with (first | (at_builtin; refine append_ints rfl _ _ rfl _ wr.heap.size _ _ _ _ _ rfl (Own.empty wr) _ _ _ _ rfl hi4 (by omega) (by simp) ?_; intro p5 c5 w4 ho5 hg5; simp only [Nat.zero_add, List.nil_append] at ho5; have hb5 : Below wr.heap.size wr w4 := (boxed wr _).trans (hg5.belowO (Own.empty wr) (by simp)); have hbw4 := Below.step hb3 hb5) | (at_builtin; refine append_int rfl _ _ rfl _ wr.heap.size _ _ _ _ _ rfl (ho5.alloc _) _ _ rfl (cellNew _ _ _) (by omega) (sizeNew hb5 _) ?_; intro p6 c6 w6 ho6 hg6; have hown4 := ((hown3.below hb5).below (boxed w4 _)).within (hg6.within (fun a ha => (ho5.lt a ha).1)) (.inl (Nat.le_refl _)); have hb6 : Below W1.heap.size W1 w6 := (hbw4.alloc hbw4.size _).trans (hg6.below (sizeNew hbw4 _) (fun a ha => Nat.le_trans hb3.size (ho5.lt a ha).1))) | (at_builtin; refine append_row rfl _ _ rfl _ W1.heap.size _ _ _ _ _ rfl (hown4.outer.alloc _) _ _ _ _ rfl (cellNew _ _ _) (by omega) (sizeNew hb6 _) ?_; intro p7 c7 w7 ho7 hg7))
              have hb7 : Below W1.heap.size W1 w7 := (hb6.alloc hb6.size _).trans (hg7.below (sizeNew hb6 _) (fun a ha => (hown4.outer.lt a ha).1))
              have h7 := hown4.app ho6 hb3.size (boxed _ _) ho7 hg7
              go_roundw
              case rel =>
                rw [List.append_assoc, ← latRow_succ] at h7
                exact ⟨t + 1, _, _, _, _, by omega, by go_num, rfl, h7, by omega, hb7⟩
              case measure => simp [intOf]; omega
            · have e : t = wid lo hi := by omega
              subst e
              have hgt : hi < lo + (wid lo hi : Nat) := by omega
              go_wp2
              go_roundw
              case rel => exact ⟨i' + 1, _, _, _, _, by omega, by go_num, rfl, by rw [Hst.out]; exact hown3, by omega, hb3⟩
              case measure => simp [intOf]; omega
        · have e : i' = n' := by omega
          subst e
          rw [List.take_of_length_le (by rw [hol.out]; exact Nat.le_refl _)] at hown2
          go_wp2
          go_roundw
          case rel => exact ⟨k + 1, _, _, _, by omega, by go_num, rfl, ⟨rows, by rw [Hnext.out]; exact hown2.widen hb.size (Nat.le_refl _)⟩, Below.step hb hb2⟩
          case measure => simp [intOf]; omega
    · have e : k = n := by omega
      subst e
      go_wp2
      go_ret
      exact ⟨_, _, _, rfl, hown, hb⟩

end Go.Proofs.Ytpfklkmmhdpphac
