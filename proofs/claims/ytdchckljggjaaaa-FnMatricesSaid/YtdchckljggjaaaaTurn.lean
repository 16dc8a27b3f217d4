/- Contracts of l3Turn and l3Times. Conditions: sizes. -/
import Derived.Test.YtdchckljggjaaaaApply
namespace Go.Proofs.Ytdchckljggjaaaa
open Go.RowKit
set_option linter.unusedVariables false
set_option linter.unusedSimpArgs false
set_option maxRecDepth 100000

/-- Column j of a matrix. -/
def colL (xss : List (List Int)) (j : Nat) : List Int := xss.map fun r => nth r j
def turnL (xss : List (List Int)) : List (List Int) := (List.range xss.length).map (colL xss)
theorem colL_length (xss : List (List Int)) (j : Nat) : (colL xss j).length = xss.length := by simp [colL]
theorem turnL_length (xss : List (List Int)) : (turnL xss).length = xss.length := by simp [turnL]
theorem colL_nth {xss : List (List Int)} {j k : Nat} (h : k < xss.length) : nth (colL xss j) k = nth (nthR xss k) j := by
  rw [nth_eq (by rw [colL_length]; exact h), nthR_eq h]; simp [colL]
theorem turnL_nth {xss : List (List Int)} {k : Nat} (h : k < xss.length) : nthR (turnL xss) k = colL xss k := by
  rw [nthR_eq (by rw [turnL_length]; exact h)]; simp [turnL]
theorem colL_take {xss : List (List Int)} {j k : Nat} (h : k < xss.length) : (colL xss j).take (k + 1) = (colL xss j).take k ++ [nth (nthR xss k) j] := by
  rw [take_nth (by rw [colL_length]; exact h), colL_nth h]
theorem turnL_take {xss : List (List Int)} {k : Nat} (h : k < xss.length) : (turnL xss).take (k + 1) = (turnL xss).take k ++ [colL xss k] := by
  rw [take_nthR (by rw [turnL_length]; exact h), turnL_nth h]

theorem l3Turn_any (p : Option Addr) (n c : Nat) (xss : List (List Int)) (w : World) (hn : n ≤ 1000) (hx : Intss w p n xss) (hr : ∀ k, k < xss.length → (nthR xss k).length = n) :
    Calls Try.prog 121 #[.slice p n c] w (NewM w n (turnL xss)) := by
  have hl := Lib.hid hx.len
  have hl3 := Lib.hid (turnL_length xss)
  have Hr := Lib.hid hr
  clear hr
  go_enter Try.func121, Try.ntmps121
  go_wp2
  go_loopw [3, 4] (fun a i wr => ∃ (k : Nat) (p' : Option Addr) (c' : Nat) (rows : List Row), k ≤ n ∧ i = .int .i64 k ∧ a = .slice p' k c' ∧ Own2 wr w.heap.size wr.heap.size p' k c' rows ((turnL xss).take k) ∧ Below w.heap.size w wr) (fun _ i _ => n - (intOf i).toNat)
  case atStart => exact ⟨0, _, _, _, Nat.zero_le _, rfl, rfl, (Own2.empty w).up, (Below.refl _ _).alloc (Nat.le_refl _) _⟩
  case round =>
    obtain ⟨k, p', c', rows, hk, rfl, rfl, hown, hb⟩ := hrel
    by_cases hlt : k < n
    · go_wp2
      go_loopw [5, 6] (fun a j w2 => ∃ (t : Nat) (q' : Option Addr) (d' : Nat), t ≤ n ∧ j = .int .i64 t ∧ a = .slice q' t d' ∧ Own w2 wr.heap.size w2.heap.size q' t d' ((colL xss k).take t) ∧ Below wr.heap.size wr w2) (fun _ j _ => n - (intOf j).toNat)
      case atStart => exact ⟨0, _, _, Nat.zero_le _, rfl, rfl, (Own.empty wr).up, (Below.refl _ _).alloc (Nat.le_refl _) _⟩
      case round =>
        obtain ⟨t, q', d', ht, rfl, rfl, ho, hb1⟩ := hrel
        have hb2 := Below.step hb hb1
        by_cases hlt2 : t < n
        · obtain ⟨b, o, q1, m1, d1, rfl, hc, hm1, hi⟩ := (hx.below hb2).cell t hlt2
          obtain rfl : m1 = n := by rw [← hi.len]; exact Hr.out t (by rw [hl.out]; exact hlt2)
          obtain ⟨b2, o2, rfl, hc2⟩ := hi.cell k hlt
          go_wp2_with (at_builtin; refine append_int rfl _ _ rfl _ _ _ _ _ _ _ rfl (ho.alloc _) _ _ rfl (cellNew _ _ _) (by omega) (sizeNew hb1 _) ?_; intro p2 c2 w3 ho3 hg3)
          have hb3 := hg3.belowO (ho.alloc _) (sizeNew hb1 _)
          go_roundw
          case rel =>
            refine ⟨t + 1, _, _, by omega, by go_num, rfl, ?_, Below.new hb1 _ hb3⟩
            rw [colL_take (by rw [hl.out]; exact hlt2)]
            exact ho3
          case measure => simp [intOf]; omega
        · obtain rfl : t = n := by omega
          rw [List.take_of_length_le (by rw [colL_length, hl.out]; exact Nat.le_refl _)] at ho
          have hown2 := hown.below hb1
          go_wp2_with (at_builtin; refine append_row rfl _ _ rfl _ w.heap.size _ _ _ _ _ rfl (hown2.outer.alloc _) _ _ _ _ rfl (cellNew _ _ _) (by omega) (sizeNew hb2 _) ?_; intro p3 c3 w3 ho3 hg3)
          have hb3 : Below w.heap.size w w3 := (hb2.alloc hb2.size _).trans (hg3.below (sizeNew hb2 _) (fun a ha => (hown2.outer.lt a ha).1))
          have h3 := hown2.app ho hb.size (boxed _ _) ho3 hg3
          go_roundw
          case rel =>
            rw [← turnL_take (by rw [hl.out]; exact hlt)] at h3
            exact ⟨k + 1, _, _, _, by omega, by go_num, rfl, h3, hb3⟩
          case measure => simp [intOf]; omega
    · go_wp2
      go_ret
      obtain rfl : k = n := by omega
      rw [List.take_of_length_le (by rw [hl3.out, hl.out]; exact Nat.le_refl _)] at hown
      exact ⟨_, _, rfl, ⟨_, hown⟩, hb⟩

/-- The product of two matrices. -/
def timesW (xss yss : List (List Int)) : List (List Int) := xss.map (applyW (turnL yss))
theorem timesW_length (xss yss : List (List Int)) : (timesW xss yss).length = xss.length := by simp [timesW]
theorem timesW_take {xss yss : List (List Int)} {k : Nat} (h : k < xss.length) : (timesW xss yss).take (k + 1) = (timesW xss yss).take k ++ [applyW (turnL yss) (nthR xss k)] := by
  rw [take_nthR (by rw [timesW_length]; exact h)]
  congr 2
  rw [nthR_eq (by rw [timesW_length]; exact h), nthR_eq h]; simp [timesW]

/-- A row that lies outside an interval of blocks. -/
def Off (lo hi : Nat) (p : Option Addr) : Prop := ∀ g, blk p = some g → g < lo ∨ hi ≤ g
theorem Off.grow {W W' : World} {lo hi : Nat} {p p' : Option Addr} (h : Off lo hi p) (hg : Grow W W' p p') (hh : hi ≤ W.heap.size) : Off lo hi p' := fun g e => by
  rcases hg.at_ with h1 | h1
  · exact h g (by rw [← h1, e])
  · rw [h1] at e; injection e with e; omega
theorem OwnM.off {W W' : World} {lo hi : Nat} {p p' q : Option Addr} {n c : Nat} {xss : List (List Int)} (h : OwnM W lo hi q n c xss) (ho : Off lo hi p) (hg : Grow W W' p p') : OwnM W' lo hi q n c xss := by
  cases p with
  | none => exact h.within (lo' := 0) (hi' := 0) ⟨hg.by_.os, hg.by_.tape, hg.by_.output, hg.by_.size, fun k hk _ => hg.by_.block k hk (by simp [blk])⟩ (.inr (Nat.zero_le _))
  | some a =>
    have h1 := ho a.block rfl
    exact h.within (lo' := a.block) (hi' := a.block + 1) ⟨hg.by_.os, hg.by_.tape, hg.by_.output, hg.by_.size, fun k hk hd => hg.by_.block k hk (by
      simp only [blk, Option.map_some, ne_eq, Option.some.injEq]; omega)⟩ (by omega)

theorem turnL_row {xss : List (List Int)} {k : Nat} (h : k < (turnL xss).length) : (nthR (turnL xss) k).length = xss.length := by
  rw [turnL_length] at h
  rw [turnL_nth h, colL_length]

theorem l3Times_any (p q : Option Addr) (n c d : Nat) (xss yss : List (List Int)) (w : World) (hn : n ≤ 1000) (hx : Intss w p n xss) (hy : Intss w q n yss) (hr : ∀ k, k < xss.length → (nthR xss k).length = n) (hs : ∀ k, k < yss.length → (nthR yss k).length = n) :
    Calls Try.prog 90 #[.slice p n c, .slice q n d] w (NewM w n (timesW xss yss)) := by
  have hl := Lib.hid hx.len
  have hl2 := Lib.hid hy.len
  have hl3 := Lib.hid (timesW_length xss yss)
  have hl4 := Lib.hid (turnL_length yss)
  have Hr := Lib.hid hr
  have Hs := Lib.hid hs
  clear hr hs
  go_enter Try.func90, Try.ntmps90
  go_wp2_with fail
  refine (l3Turn_any _ _ _ _ _ hn (hy.below (boxed _ _)) Hs.out).mono ?_
  rintro e w1 ⟨p1, c1, rfl, hT, hb1⟩
  have hb0 := Below.step (boxed w (.cells #[] 40)) hb1
  have hT0 : (w.alloc (.cells #[] 40)).heap.size = w.heap.size + 1 := by simp
  have hs1 := hb1.size
  rw [hT0] at hT hs1
  have hown0 := ((Own2.empty w).below hb1).up
  go_wp2_with fail
  go_loopw [5, 7] (fun a i wr => ∃ (k : Nat) (p' : Option Addr) (c' : Nat) (rows : List Row), k ≤ n ∧ i = .int .i64 k ∧ a = .slice p' k c' ∧ Own2 wr w.heap.size wr.heap.size p' k c' rows ((timesW xss yss).take k) ∧ OwnM wr (w.heap.size + 1) w1.heap.size p1 n c1 (turnL yss) ∧ Off (w.heap.size + 1) w1.heap.size p' ∧ w1.heap.size ≤ wr.heap.size ∧ Below w.heap.size w wr) (fun _ i _ => n - (intOf i).toNat)
  case atStart => exact ⟨0, _, _, _, Nat.zero_le _, rfl, rfl, hown0, hT, fun g e => by simp [blk] at e; omega, Nat.le_refl _, hb0⟩
  case round =>
    obtain ⟨k, p', c', rows, hk, rfl, rfl, hown, hT, hoff, hsz, hb⟩ := hrel
    by_cases hlt : k < n
    · obtain ⟨b, o, q1, m1, d1, rfl, hc, hm1, hi⟩ := (hx.below hb).cell k hlt
      obtain rfl : m1 = n := by rw [← hi.len]; exact Hr.out k (by rw [hl.out]; exact hlt)
      go_wp2_with fail
      refine (l3Apply_any _ _ _ _ _ _ _ _ _ (by omega) (by omega) hT.rd hi (fun k hk => (turnL_row hk).trans hl2.out)).mono ?_
      rintro e w2 ⟨q2, d2, rfl, ho2, hb2⟩
      have hown2 := hown.below hb2
      have hbw2 := Below.step hb hb2
      go_wp2_with (at_builtin; refine append_row rfl _ _ rfl _ w.heap.size _ _ _ _ _ rfl (hown2.outer.alloc _) _ _ _ _ rfl (cellNew _ _ _) (by omega) (sizeNew hbw2 _) ?_; intro p3 c3 w3 ho3 hg3)
      have hs2 := hb2.size
      have hT2 := ((hT.below hb2).below (boxed _ _)).off hoff hg3
      have hoff2 := hoff.grow hg3 (by simp; omega)
      have hs3 := hg3.by_.size
      have hb3 : Below w.heap.size w w3 := (hbw2.alloc hbw2.size _).trans (hg3.below (sizeNew hbw2 _) (fun a ha => (hown2.outer.lt a ha).1))
      have h3 := hown2.app ho2 hb.size (boxed _ _) ho3 hg3
      go_roundw
      case rel =>
        rw [← timesW_take (by rw [hl.out]; exact hlt)] at h3
        exact ⟨k + 1, _, _, _, by omega, by go_num, rfl, h3, hT2, hoff2, by simp at hs3; omega, hb3⟩
      case measure => simp [intOf]; omega
    · go_wp2
      go_ret
      obtain rfl : k = n := by omega
      rw [List.take_of_length_le (by rw [hl3.out, hl.out]; exact Nat.le_refl _)] at hown
      exact ⟨_, _, rfl, ⟨_, hown⟩, hb⟩

end Go.Proofs.Ytdchckljggjaaaa
