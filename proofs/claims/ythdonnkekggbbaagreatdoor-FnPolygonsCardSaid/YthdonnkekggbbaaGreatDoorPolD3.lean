/- The reference's draws of polygons: what the great law reads. Conditions: sizes. -/
import Derived.Test.YthdonnkekggbbaaGreatDoorPolD2
namespace Go.Proofs.YthdonnkekggbbaaGreatDoor
open Go.RowKit
set_option linter.unusedVariables false
set_option linter.unusedSimpArgs false
set_option maxRecDepth 100000

/-- A list of rows that is read. -/
def ReadP (w : World) (e : Ending) (w' : World) : Prop :=
  ∃ (q : Option Addr) (k d : Nat) (yss : List (List Int)), e = .returned (.slice q k d) ∧ Intss w' q k yss ∧ k ≤ 12 ∧ Below w.heap.size w w'

theorem drawPoly_any (p : Option Addr) (n c : Nat) (xs : List Int) (w : World) (hn : n ≤ 1048576) (hx : BytesZ w p n xs) :
    Calls Tryz.prog 5 #[.slice p n c] w (ReadP w) := by
  go_enter Tryz.func5, Tryz.ntmps5
  go_wp2_with fail
  refine (l1New_any _ _ _ _ _ hn hx).mono ?_
  rintro e w1 ⟨g, rfl, hg, hC, hb1⟩
  go_wp2_with fail
  refine (l7Bent_any _ _ _ _ _ _ hn hC).mono ?_
  rintro e w2 ⟨q, k, d, rows, yss, rfl, hown, hk, hD⟩
  have hT := hD.frame hb1 hg
  go_wp2_with fail
  go_ret
  exact ⟨_, _, _, _, rfl, hown.rd, hk, hT⟩

/-- A list of rows and a row that are read. -/
def ReadPV (w : World) (e : Ending) (w' : World) : Prop :=
  ∃ (q : Option Addr) (k d : Nat) (yss : List (List Int)) (q' : Option Addr) (m d' : Nat) (ys : List Int), e = .returned (.tuple #[.slice q k d, .slice q' m d']) ∧ Intss w' q k yss ∧ k ≤ 12 ∧ Ints w' q' m ys ∧ m ≤ 3 ∧ Below w.heap.size w w'

set_option maxHeartbeats 1000000 in
theorem drawPlace_any (p : Option Addr) (n c : Nat) (xs : List Int) (w : World) (hn : n ≤ 1048576) (hx : BytesZ w p n xs) :
    Calls Tryz.prog 10 #[.slice p n c] w (ReadPV w) := by
  go_enter Tryz.func10, Tryz.ntmps10
  go_wp2_with fail
  refine (l1New_any _ _ _ _ _ hn hx).mono ?_
  rintro e w1 ⟨g, rfl, hg, hC, hb1⟩
  go_wp2_with fail
  refine (l7Bent_any _ _ _ _ _ _ hn hC).mono ?_
  rintro e w2 ⟨q, k, d, rows, yss, rfl, hown, hk, hD⟩
  have hT := hD.frame hb1 hg
  have hs1 := hD.2.size
  have hgl := hC.lt
  go_wp2_with fail
  refine (l1Once_any _ _ _ _ _ _ _ hn hD.1 (by omega) (by omega)).mono ?_
  rintro e V2 ⟨t, rfl, hD4⟩
  obtain ⟨b, hb0, hb1', hbit⟩ := l1Bit_some t
  obtain ⟨m, hm⟩ : ∃ m : Nat, 2 + b = (m : Int) := ⟨(2 + b).toNat, by omega⟩
  have hm3 : m ≤ 3 := by omega
  have hw1 : IntKind.i64.wrap (2 + b) = (m : Int) := by rw [wrapEq, hm]; exact wrap64_id (by omega) (by omega)
  have Hm := Lib.hid hm
  clear hm
  have hT4 := hD4.frame hT hg
  have hs4 := hD4.2.size
  have hown2 := hown.within hD4.2 (.inr (by omega))
  go_wp2_with (go_at_call 46; (with_reducible refine (hbit _).mono ?_); rintro e w' ⟨rfl, rfl⟩)
  refine (l2Draw_i _ _ _ _ m _ _ _ _ rfl hn hD4.1 (by omega) (by omega) (by omega)).mono ?_
  rintro e V3 ⟨q5, d5, zs, rfl, ho5, _, hD6⟩
  have hT6 := hD6.frame hT4 hg
  have hown3 := hown2.within hD6.2 (.inr (by omega))
  go_wp2_with fail
  go_ret2
  exact ⟨_, _, _, _, _, _, _, _, rfl, hown3.rd, hk, ho5.ints, hm3, hT6⟩

theorem polyT_small (P : List (List Int)) : (polyT P).length ≤ 1000 := by
  unfold polyT
  split
  · next h =>
    obtain ⟨h3, h12, hpt, _⟩ := polyB_iff.1 h
    have h1 := rowsT_tot hpt
    have h2 := joinTo_length (rowsT P) [32] (rowsT P).length (Nat.le_refl _)
    rw [joinTo_eq (rowsT P) [32] _ (Nat.le_refl _), List.take_length] at h2
    have h4 := rowsT_length P
    have h5 : (rowsT P).length * ([32] : List UInt8).length = (rowsT P).length := by simp
    omega
  · simp
def turnTextsP : List (List UInt8) := [[32], [44], [45], [49], [48]]
set_option maxHeartbeats 1000000 in
theorem drawPPol_any (p : Option Addr) (n c : Nat) (xs : List Int) (w : World) (hn : n ≤ 1048576) (hx : BytesZ w p n xs) :
    Calls Tryz.prog 11 #[.slice p n c] w fun e w' => ∃ l : List UInt8, e = .returned (.string ⟨l.toArray⟩) ∧ l.length ≤ 1048576 ∧ Below w.heap.size w w' := by
  go_enter Tryz.func11, Tryz.ntmps11
  go_wp2_with fail
  refine (l1New_any _ _ _ _ _ hn hx).mono ?_
  rintro e w1 ⟨g, rfl, hg, hC, hb1⟩
  have hgl := hC.lt
  go_wp2_with fail
  refine (l7Draw_any _ _ _ _ _ _ _ hn hC (by omega) (by omega)).mono ?_
  rintro e w3 ⟨q, k, d, rows, yss, rfl, hown, hk3, hk12, hD3⟩
  have hT3 := hD3.frame hb1 hg
  go_wp2_with fail
  refine (specPolyText_any _ _ _ _ _ (by omega) hown.rd).mono ?_
  rintro e w4 ⟨rfl, hb4⟩
  have hvl := polyT_small yss
  have hT4 := Below.step hT3 hb4
  have hC4 := hD3.1.below hb4
  have hgl4 := hC4.lt
  generalize polyT yss = s at *
  go_wp2_with fail
  have hB := boxed w4 (.cells #[.string ⟨#[32]⟩, .string ⟨#[44]⟩, .string ⟨#[45]⟩, .string ⟨#[49]⟩, .string ⟨#[48]⟩] 9)
  have hs : ∀ k, k < 5 → (w4.alloc (.cells #[.string ⟨#[32]⟩, .string ⟨#[44]⟩, .string ⟨#[45]⟩, .string ⟨#[49]⟩, .string ⟨#[48]⟩] 9)).cell? ⟨w4.heap.size, k, none⟩ = some (.string ⟨(nthS turnTextsP k).toArray⟩) := fun k hk => by
    match k, hk with
    | 0, _ => exact (cellsNew _ _ _ _).trans rfl
    | 1, _ => exact (cellsNew _ _ _ _).trans rfl
    | 2, _ => exact (cellsNew _ _ _ _).trans rfl
    | 3, _ => exact (cellsNew _ _ _ _).trans rfl
    | 4, _ => exact (cellsNew _ _ _ _).trans rfl
  have hss : ∀ k, k < 5 → (nthS turnTextsP k).length ≤ 5 := fun k hk => by
    match k, hk with
    | 0, _ => decide
    | 1, _ => decide
    | 2, _ => decide
    | 3, _ => decide
    | 4, _ => decide
  have hT5 := Below.step hT4 hB
  refine (l1Turned_any g w4.heap.size _ _ _ 5 5 _ s turnTextsP _ hn (hC4.below hB) (by omega) (by omega) hs hss (by omega) (by omega)).mono ?_
  clear hs hss
  rintro e w6 ⟨l, rfl, hl6, hD6⟩
  go_wp2_with fail
  go_ret
  exact ⟨l, rfl, by omega, hD6.frame hT5 hg⟩

set_option maxHeartbeats 4000000 in
theorem drawHull_any (p : Option Addr) (n c : Nat) (xs : List Int) (w : World) (hn : n ≤ 1048576) (hx : BytesZ w p n xs) :
    Calls Tryz.prog 7 #[.slice p n c] w (ReadP w) := by
  go_enter Tryz.func7, Tryz.ntmps7
  go_wp2_with fail
  refine (l1New_any _ _ _ _ _ hn hx).mono ?_
  rintro e w1 ⟨g, rfl, hg, hC, hb1⟩
  have hgl := hC.lt
  have hB := boxed w1 (.cells #[] 29)
  have hE := Own2.empty w1
  have hD1 := Drawn1.new hC hB
  have hT1 := Below.step hb1 hB
  have hs1 := hb1.size
  go_wp2_with fail
  refine (l1Below_any _ _ _ _ _ _ _ hn hD1.1 (by omega) (by omega)).mono ?_
  rintro e w2 ⟨x, rfl, hx0, hx1, hD2⟩
  obtain ⟨m, rfl⟩ : ∃ m : Nat, x = (m : Int) := ⟨x.toNat, by omega⟩
  have hm8 : m ≤ 8 := by omega
  have hD3 := hD1.step hD2
  have hE2 := hE.within hD2.2 (.inr (by omega))
  have hs2 := hD2.2.size
  have hb0 := hB.size
  clear hE hD1 hD2
  go_wp2_with fail
  go_loopw [4, 6] (fun v i wr => ∃ (k : Nat) (q : Option Addr) (d : Nat) (rows : List Row) (yss : List (List Int)), k ≤ m ∧ i = .int .i64 k ∧ v = .slice q k d ∧ Own2 wr w1.heap.size wr.heap.size q k d rows yss ∧ w1.heap.size ≤ wr.heap.size ∧ Drawn1 w1 g p n c xs wr) (fun _ i _ => m - (intOf i).toNat)
  case atStart => exact ⟨0, _, _, [], [], Nat.zero_le _, rfl, rfl, hE2.up, by omega, hD3⟩
  case round =>
    clear hE2 hD3
    obtain ⟨k, q, d, rows, yss, hk, rfl, rfl, hown, hsk, hDk⟩ := hrel
    by_cases hlt2 : k < m
    · have hd2 : decide ((k : Int) < (m : Int)) = true := decide_eq_true (by omega)
      generalize wr = R at *
      go_wp2_with fail
      refine (l2Draw_i _ _ _ _ 2 _ _ _ _ rfl hn hDk.1 (by omega) (by omega) (by omega)).mono ?_
      rintro e w3 ⟨q2, d2, zs, rfl, ho2, _, hD4⟩
      have hown2 := hown.within hD4.2 (.inr (by omega))
      have hD5 := hDk.step hD4
      have hs5 := hD4.2.size
      go_wp2_with (at_builtin; refine append_row rfl _ _ rfl _ w1.heap.size _ _ _ _ _ rfl (hown2.outer.alloc _) _ _ _ _ rfl (cellNew _ _ _) (by omega) (by simp; omega) ?_; intro p5 c5 w5 ho5 hg5)
      have hb5 : Below w1.heap.size w3 w5 := ((Below.refl _ _).alloc (by omega) _).trans (hg5.below (by simp; omega) fun a ha => (hown2.outer.lt a ha).1)
      have hD6 := hD5.low hb5 (by omega) (by omega)
      have h5 := hown2.app ho2 hsk (boxed _ _) ho5 hg5
      go_roundw
      case rel => exact ⟨k + 1, _, _, _, _, by omega, by go_num, rfl, h5, by have := hb5.size; omega, hD6⟩
      case measure => simp [intOf]; omega
    · obtain rfl : k = m := by omega
      have hd2 : decide ((k : Int) < (k : Int)) = false := by simp
      have hcnt := hown.count
      by_cases hk0 : k = 0
      · have hd3 : decide ((0 : Int) < (k : Int)) = false := decide_eq_false (by omega)
        have hd3n : decide (0 < k) = false := decide_eq_false (by omega)
        have hT := hDk.frame hb1 hg
        have Hk0 := Lib.hid hk0
        clear hk0
        go_wp2_with fail
        go_ret
        exact ⟨_, _, _, _, rfl, hown.rd, by omega, hT⟩
      · have hd3 : decide ((0 : Int) < (k : Int)) = true := decide_eq_true (by omega)
        have hd3n : decide (0 < k) = true := decide_eq_true (by omega)
        generalize wr = R at *
        go_wp2_with fail
        refine (l1Once_any _ _ _ _ _ _ _ hn hDk.1 (by omega) (by omega)).mono ?_
        rintro e V2 ⟨t, rfl, hD4⟩
        have hD5 := hDk.step hD4
        have hs4 := hD4.2.size
        have hown2 := hown.within hD4.2 (.inr (by omega))
        cases t
        · have hT := hD5.frame hb1 hg
          go_wp2_with fail
          go_ret
          exact ⟨_, _, _, _, rfl, hown2.rd, by omega, hT⟩
        · go_wp2_with fail
          refine (l1Below_any _ _ _ _ _ _ _ hn hD5.1 (by omega) (by omega)).mono ?_
          rintro e V4 ⟨x, rfl, hx0, hx1, hD6⟩
          obtain ⟨a, ha⟩ : ∃ a : Nat, 1 + x = (a : Int) := ⟨(1 + x).toNat, by omega⟩
          have ha3 : a ≤ 3 := by omega
          have hw1 : IntKind.i64.wrap (1 + x) = (a : Int) := by rw [wrapEq, ha]; exact wrap64_id (by omega) (by omega)
          have Ha := Lib.hid ha
          clear ha
          have hD7 := hD5.step hD6
          have hs6 := hD6.2.size
          have hown4 := hown2.within hD6.2 (.inr (by omega))
          go_wp2_with fail
          refine (l2Draw_i _ _ _ _ a _ _ _ _ rfl hn hD7.1 (by omega) (by omega) (by omega)).mono ?_
          rintro e V5 ⟨q5, d5, zs, rfl, ho5, _, hD8⟩
          have hD9 := hD7.step hD8
          have hs8 := hD8.2.size
          have hown5 := (hown4.within hD8.2 (.inr (by omega))).widen (Nat.le_refl _) (show R.heap.size ≤ V4.heap.size by omega)
          rcases hown5.outer.form with ⟨_, h0, _⟩ | ⟨gq, rfl, hg1, hg2, hg3, hkd, hdm⟩
          · omega
          have c3 : V5.cell? ⟨gq, 0, none⟩ = some (Row.val (rows[0]'(by omega))) := by
            rw [hown5.outer.cell (k := 0) (by omega), List.getElem?_map, List.getElem?_eq_getElem (by omega)]; rfl
          have fz3 := hown5.outer.frozen 0
          have z0 : (0 : Int) < (k : Int) := by omega
          have z0n : 0 < k := by omega
          have hst := hown5.store (hi := V5.heap.size) ho5 (by omega) (by omega) 0 (by omega)
          have hT := (hD9.frame hb1 hg).setCell (p := ⟨gq, 0, none⟩) (by dsimp only; omega) (.slice q5 a d5)
          generalize Row.val (rows[0]'(by omega)) = v0 at *
          go_wp2_with fail
          go_ret
          exact ⟨_, _, _, _, rfl, hst.rd, by omega, hT⟩

end Go.Proofs.YthdonnkekggbbaaGreatDoor
