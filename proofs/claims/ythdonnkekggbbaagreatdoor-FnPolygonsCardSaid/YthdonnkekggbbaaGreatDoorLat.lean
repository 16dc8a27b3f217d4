/- Contract of impl.lattice: all vectors of a box, in order. Conditions: the box is small. -/
import Derived.Test.YthdonnkekggbbaaGreatDoorJnTexts
namespace Go.Proofs.YthdonnkekggbbaaGreatDoor
open Go.RowKit
set_option linter.unusedVariables false
set_option linter.unusedSimpArgs false
set_option maxRecDepth 100000

def wid (lo hi : Int) : Nat := (hi - lo + 1).toNat
/-- A list, with each of the numbers lo .. hi behind it. -/
def latRow (v : List Int) (lo : Int) (t : Nat) : List (List Int) := (List.range t).map fun (j : Nat) => v ++ [lo + (j : Int)]
def latStep (lo hi : Int) : List (List Int) → List (List Int)
  | [] => []
  | v :: r => latRow v lo (wid lo hi) ++ latStep lo hi r
def latTo (los his : List Int) : Nat → List (List Int)
  | 0 => [[]]
  | k + 1 => latStep (nth los k) (nth his k) (latTo los his k)

theorem latRow_succ (v : List Int) (lo : Int) (t : Nat) : latRow v lo (t + 1) = latRow v lo t ++ [v ++ [lo + (t : Int)]] := by simp [latRow, List.range_succ]
theorem latRow_length (v : List Int) (lo : Int) (t : Nat) : (latRow v lo t).length = t := by simp [latRow]
theorem latStep_app (lo hi : Int) (a b : List (List Int)) : latStep lo hi (a ++ b) = latStep lo hi a ++ latStep lo hi b := by
  induction a with
  | nil => rfl
  | cons v r ih => simp [latStep, ih]
theorem latStep_take (lo hi : Int) {xss : List (List Int)} {k : Nat} (h : k < xss.length) : latStep lo hi (xss.take (k + 1)) = latStep lo hi (xss.take k) ++ latRow (nthR xss k) lo (wid lo hi) := by
  rw [take_nthR h, latStep_app]; simp [latStep]
theorem latStep_length (lo hi : Int) (xss : List (List Int)) : (latStep lo hi xss).length = xss.length * wid lo hi := by
  induction xss with
  | nil => simp [latStep]
  | cons v r ih => simp [latStep, ih, latRow_length, Nat.succ_mul, Nat.add_comm]
theorem latStep_rows {lo hi : Int} {xss : List (List Int)} {m : Nat} (h : ∀ r ∈ xss, r.length = m) : ∀ r ∈ latStep lo hi xss, r.length = m + 1 := by
  induction xss with
  | nil => simp [latStep]
  | cons v t ih =>
    intro r hr
    simp only [latStep, List.mem_append] at hr
    rcases hr with hr | hr
    · simp only [latRow, List.mem_map] at hr
      obtain ⟨j, _, rfl⟩ := hr
      simp [h v (by simp)]
    · exact ih (fun x hx => h x (by simp [hx])) r hr
theorem latTo_rows (los his : List Int) : ∀ (k : Nat), ∀ r ∈ latTo los his k, r.length = k
  | 0 => by simp [latTo]
  | k + 1 => latStep_rows (latTo_rows los his k)
theorem latTo_length {los his : List Int} {n : Nat} (hw : ∀ k, k < n → wid (nth los k) (nth his k) ≤ 201) : ∀ k, k ≤ n → (latTo los his k).length ≤ 201 ^ k
  | 0, _ => by simp [latTo]
  | k + 1, hk => by
    rw [latTo, latStep_length, Nat.pow_succ]
    exact Nat.mul_le_mul (latTo_length hw k (by omega)) (hw k (by omega))

/-- A slice of one row that is nil. -/
theorem Own2.one (w : World) : Own2 (w.alloc (.cells #[.slice none 0 0] 29)) w.heap.size (w.heap.size + 1) (some ⟨w.heap.size, 0, none⟩) 1 1 [(none, 0, 0)] [[]] :=
  ⟨⟨World.ownsRow_lit w #[.slice none 0 0] 1 (Nat.le_refl _) (by unfold maxLen; omega) rfl, fun a ha => by injection ha with ha; subst ha; exact Nat.lt_succ_self _⟩, rfl, fun k h => by
    have : k = 0 := by simpa using h
    subst this
    exact Own.nil _ _ _, List.pairwise_singleton _ _⟩

/-- Lists of the call's own. -/
def NewL (w : World) (xss : List (List Int)) (e : Ending) (w' : World) : Prop :=
  ∃ p n c, e = .returned (.slice p n c) ∧ OwnM w' w.heap.size w'.heap.size p n c xss ∧ Below w.heap.size w w'

set_option maxHeartbeats 1000000 in
theorem lattice_any (p q : Option Addr) (n c d : Nat) (los his : List Int) (w : World) (hn : n ≤ 3) (hx : Ints w p n los) (hy : Ints w q n his)
    (hw : ∀ k, k < n → wid (nth los k) (nth his k) ≤ 201) (hr : ∀ k, k < n → -100000 ≤ nth los k ∧ nth his k ≤ 100000) :
    Calls Tryz.prog 31 #[.slice p n c, .slice q n d] w (NewL w (latTo los his n)) := by
  have Hw := Lib.hid hw
  have Hr := Lib.hid hr
  have Hlen : Hid (∀ k, k ≤ n → (latTo los his k).length ≤ 201 ^ k) := Lib.hid (latTo_length hw)
  clear hw hr
  go_enter Tryz.func31, Tryz.ntmps31
  go_wp2
  go_loopw [5, 14] (fun a i wr => ∃ (k : Nat) (p' : Option Addr) (n' c' : Nat), k ≤ n ∧ i = .int .i64 k ∧ a = .slice p' n' c' ∧ OwnM wr w.heap.size wr.heap.size p' n' c' (latTo los his k) ∧ Below w.heap.size w wr) (fun _ i _ => n - (intOf i).toNat)
  case atStart => exact ⟨0, _, _, _, Nat.zero_le _, rfl, rfl, ⟨_, (Own2.one w).up⟩, (Below.refl _ _).alloc (Nat.le_refl _) _⟩
  case round =>
    obtain ⟨k, p', n', c', hk, rfl, rfl, hown, hb⟩ := hrel
    by_cases hlt : k < n
    · have hrd := hown.rd
      have hlenk := Hlen.out k hk
      rw [hown.len] at hlenk
      have hn' : n' ≤ 40401 := by
        have : (201 : Nat) ^ k ≤ 201 ^ 2 := Nat.pow_le_pow_right (by omega) (by omega)
        omega
      have Hrows : Hid (∀ i, i < n' → (nthR (latTo los his k) i).length = k) := Lib.hid fun i hi => latTo_rows los his k _ (nthR_mem (by rw [hown.len]; exact hi))
      obtain ⟨hr1, hr2⟩ := Hr.out k hlt
      have hw1 := Hw.out k hlt
      have hd1 : decide ((k : Int) < (n : Int)) = true := by simp; omega
      have Hnext : Hid (latTo los his (k + 1) = latStep (nth los k) (nth his k) (latTo los his k)) := rfl
      have hol := Lib.hid hown.len
      obtain ⟨b, o, rfl, hc⟩ := (hx.below hb).cell k hlt
      obtain ⟨b2, o2, rfl, hc2⟩ := (hy.below hb).cell k hlt
      generalize hA : latTo los his k = A at *
      generalize hlo : nth los k = lo at *
      generalize hhi : nth his k = hi at *
      have HA := Lib.hid hA
      have Hlo := Lib.hid hlo
      have Hhi := Lib.hid hhi
      have hwd : (lo : Int) + (wid lo hi : Nat) = max lo (hi + 1) := by unfold wid; omega
      clear hA hlo hhi hlenk
      generalize wr = W1 at *
      go_wp2
      go_loopw [7, 19] (fun a i wr => ∃ (i' : Nat) (p2 : Option Addr) (n2 c2 : Nat) (rows : List Row), i' ≤ n' ∧ i = .int .i64 i' ∧ a = .slice p2 n2 c2 ∧ Own2 wr W1.heap.size wr.heap.size p2 n2 c2 rows (latStep lo hi (A.take i')) ∧ n2 ≤ 201 * i' ∧ Below W1.heap.size W1 wr) (fun _ i _ => n' - (intOf i).toNat)
      case atStart => exact ⟨0, _, _, _, [], Nat.zero_le _, rfl, rfl, Own2.nil _ _ _, Nat.zero_le _, Below.refl _ _⟩
      case round =>
        obtain ⟨i', p2, n2, c2, rows, hi', rfl, rfl, hown2, hn2, hb2⟩ := hrel
        by_cases hlt2 : i' < n'
        · obtain ⟨b3, o3, q3, m3, d3, rfl, hc3, hmd3, hd3, hi3⟩ := hrd.cellc i' hlt2
          have hc3' := (hb2.cell (World.block_lt_of_cell? W1 _ hc3)).trans hc3
          have hm3 : m3 ≤ 3 := by rw [← hi3.len, Hrows.out i' hlt2]; omega
          have hc4 := (hb2.cell (World.block_lt_of_cell? W1 _ hc)).trans hc
          have hd2 : decide ((i' : Int) < (n' : Int)) = true := by simp; omega
          have Hst : Hid (latStep lo hi (A.take (i' + 1)) = latStep lo hi (A.take i') ++ latRow (nthR A i') lo (wid lo hi)) := Lib.hid (latStep_take lo hi (by rw [hol.out]; exact hlt2))
          generalize wr = W2 at *
          go_wp2
          go_loopw [7, 10] (fun a x wr => ∃ (t : Nat) (p3 : Option Addr) (n3 c3 : Nat) (rows : List Row), t ≤ wid lo hi ∧ x = .int .i64 (lo + (t : Int)) ∧ a = .slice p3 n3 c3 ∧ Own2 wr W1.heap.size wr.heap.size p3 n3 c3 rows (latStep lo hi (A.take i') ++ latRow (nthR A i') lo t) ∧ n3 ≤ 201 * i' + t ∧ Below W1.heap.size W1 wr) (fun _ x _ => (hi + 1 - intOf x).toNat)
          case atStart => exact ⟨0, _, _, _, rows, Nat.zero_le _, by simp, rfl, by simpa [latRow] using hown2, by omega, hb2⟩
          case round =>
            obtain ⟨t, p3, n3, c3, rows, ht, rfl, rfl, hown3, hn3, hb3⟩ := hrel
            have hc5 := (hb3.cell (World.block_lt_of_cell? W1 _ hc2)).trans hc2
            by_cases hlt3 : t < wid lo hi
            · have hle : lo + (t : Int) ≤ hi := by unfold wid at hlt3; omega
              go_wp2_with fail
              refine (copyInts_any _ _ _ _ _ (by omega) (hi3.below hb3)).mono ?_
              rintro e w4 ⟨p5, c5, rfl, ho5, hb5⟩
              have hs5 := hb5.size
              have hbw4 := Below.step hb3 hb5
              go_wp2_with (first | (at_builtin; refine append_int rfl _ _ rfl _ wr.heap.size _ _ _ _ _ rfl (ho5.alloc _) _ _ rfl (cellNew _ _ _) (by omega) (sizeNew hb5 _) ?_; intro p6 c6 w6 ho6 hg6; have hown4 := ((hown3.below hb5).below (boxed w4 _)).within (hg6.within (fun a ha => (ho5.lt a ha).1)) (.inl (Nat.le_refl _)); have hb6 : Below W1.heap.size W1 w6 := (hbw4.alloc hbw4.size _).trans (hg6.below (sizeNew hbw4 _) (fun a ha => Nat.le_trans hb3.size (ho5.lt a ha).1))) | (at_builtin; refine append_row rfl _ _ rfl _ W1.heap.size _ _ _ _ _ rfl (hown4.outer.alloc _) _ _ _ _ rfl (cellNew _ _ _) (by omega) (sizeNew hb6 _) ?_; intro p7 c7 w7 ho7 hg7))
              have hb7 : Below W1.heap.size W1 w7 := (hb6.alloc hb6.size _).trans (hg7.below (sizeNew hb6 _) (fun a ha => (hown4.outer.lt a ha).1))
              have h7 := hown4.app ho6 hb3.size (boxed _ _) ho7 hg7
              go_roundw
              case rel =>
                rw [List.append_assoc, ← latRow_succ] at h7
                exact ⟨t + 1, _, _, _, _, by omega, by go_num, rfl, h7, by omega, hb7⟩
              case measure => simp [intOf]; omega
            · have e : t = wid lo hi := by omega
              subst e
              have hgt : hi < lo + (wid lo hi : Nat) := by omega
              go_wp2
              go_roundw
              case rel => exact ⟨i' + 1, _, _, _, _, by omega, by go_num, rfl, by rw [Hst.out]; exact hown3, by omega, hb3⟩
              case measure => simp [intOf]; omega
        · have e : i' = n' := by omega
          subst e
          rw [List.take_of_length_le (by rw [hol.out]; exact Nat.le_refl _)] at hown2
          go_wp2
          go_roundw
          case rel => exact ⟨k + 1, _, _, _, by omega, by go_num, rfl, ⟨rows, by rw [Hnext.out]; exact hown2.widen hb.size (Nat.le_refl _)⟩, Below.step hb hb2⟩
          case measure => simp [intOf]; omega
    · have e : k = n := by omega
      subst e
      go_wp2
      go_ret
      exact ⟨_, _, _, rfl, hown, hb⟩

end Go.Proofs.YthdonnkekggbbaaGreatDoor
