/- The reference's draws of a region's text and of a half. Conditions: sizes. -/
import Derived.Test.YtpfklkmmhdpphadGreatDoorRDraw5
import Derived.Test.YtpfklkmmhdpphadGreatDoorVecDraw4
import Derived.Test.YtpfklkmmhdpphadGreatDoorRegTx
namespace Go.Proofs.YtpfklkmmhdpphadGreatDoor
open Go.RowKit
set_option linter.unusedVariables false
set_option linter.unusedSimpArgs false
set_option maxRecDepth 100000

attribute [local go_sem ↓] Go.wp_at_zero Go.wp_at_succ

def turnTextsR : List (List UInt8) := [[59], [60], [44], [49], [45], [48]]
theorem regT_length (z : Int) (hs : List Pr) : (regT z hs).length ≤ 1000 := by
  unfold regT
  split
  · next h =>
    have h1 := regTo_length h hs.length (Nat.le_refl _)
    have h2 := (isReg_facts h).2.2.1
    omega
  · simp
theorem drawPReg_any (p : Option Addr) (n c : Nat) (xs : List Int) (w : World) (hn : n ≤ 1048576) (hx : BytesZ w p n xs) :
    Calls Tryz.prog 13 #[.slice p n c] w fun e w' => ∃ l : List UInt8, e = .returned (.string ⟨l.toArray⟩) ∧ l.length ≤ 1048576 ∧ Below w.heap.size w w' := by
  go_enter Tryz.func13, Tryz.ntmps13
  go_wp2_with fail
  refine (l1New_any _ _ _ _ _ hn hx).mono ?_
  rintro e w1 ⟨g, rfl, hg, hC, hb1⟩
  have hgl := hC.lt
  go_wp2_with fail
  refine (l1Below_any _ _ _ _ _ _ _ hn hC (by omega) (by omega)).mono ?_
  rintro e w2 ⟨x, rfl, hx0, hx1, hD⟩
  obtain ⟨m, hm⟩ : ∃ m : Nat, 1 + x = (m : Int) := ⟨(1 + x).toNat, by omega⟩
  have hm1 : 1 ≤ m := by omega
  have hm3 : m ≤ 3 := by omega
  have hw1 : IntKind.i64.wrap (1 + x) = (m : Int) := by rw [wrapEq, hm]; exact wrap64_id (by omega) (by omega)
  have Hm := Lib.hid hm
  clear hm
  have hT2 := hD.frame hb1 hg
  go_wp2_with fail
  refine (l4Draw_any _ _ _ _ m _ _ _ rfl hn hD.1 hm1 hm3).mono ?_
  rintro e w3 ⟨q, k, d, hs, rfl, ⟨rows, hown⟩, hk1, hk6, hlens, hD3⟩
  have hT3 := hD3.frame hT2 hg
  go_wp2_with fail
  refine (specRegText_any _ _ _ _ _ _ (by omega) hown.rd).mono ?_
  rintro e w4 ⟨rfl, hb4⟩
  have hvl := regT_length (m : Int) hs
  have hT4 := Below.step hT3 hb4
  have hC4 := hD3.1.below hb4
  have hgl4 := hC4.lt
  generalize regT (m : Int) hs = s at *
  go_wp2_with fail
  have hB := boxed w4 (.cells #[.string ⟨#[59]⟩, .string ⟨#[60]⟩, .string ⟨#[44]⟩, .string ⟨#[49]⟩, .string ⟨#[45]⟩, .string ⟨#[48]⟩] 9)
  have hs : ∀ k, k < 6 → (w4.alloc (.cells #[.string ⟨#[59]⟩, .string ⟨#[60]⟩, .string ⟨#[44]⟩, .string ⟨#[49]⟩, .string ⟨#[45]⟩, .string ⟨#[48]⟩] 9)).cell? ⟨w4.heap.size, k, none⟩ = some (.string ⟨(nthS turnTextsR k).toArray⟩) := fun k hk => by
    match k, hk with
    | 0, _ => exact (cellsNew _ _ _ _).trans rfl
    | 1, _ => exact (cellsNew _ _ _ _).trans rfl
    | 2, _ => exact (cellsNew _ _ _ _).trans rfl
    | 3, _ => exact (cellsNew _ _ _ _).trans rfl
    | 4, _ => exact (cellsNew _ _ _ _).trans rfl
    | 5, _ => exact (cellsNew _ _ _ _).trans rfl
  have hss : ∀ k, k < 6 → (nthS turnTextsR k).length ≤ 5 := fun k hk => by
    match k, hk with
    | 0, _ => decide
    | 1, _ => decide
    | 2, _ => decide
    | 3, _ => decide
    | 4, _ => decide
    | 5, _ => decide
  have hT5 := Below.step hT4 hB
  refine (l1Turned_any g w4.heap.size _ _ _ 6 6 _ s turnTextsR _ hn (hC4.below hB) (by omega) (by omega) hs hss (by omega) (by omega)).mono ?_
  clear hs hss
  rintro e w6 ⟨l, rfl, hl6, hD6⟩
  go_wp2_with fail
  go_ret
  exact ⟨l, rfl, by omega, hD6.frame hT5 hg⟩

theorem ints_off {w : World} {b o n : Nat} {xs : List Int} {a : Addr} {u : Value} (h : Ints w (some ⟨b, o, none⟩) n xs) (hne : b ≠ a.block) : Ints (w.setCell a u) (some ⟨b, o, none⟩) n xs :=
  ⟨h.len, fun k hk => by
    obtain ⟨b', o', e, hc⟩ := h.cell k hk
    injection e with e
    injection e with e1 e2
    subst e1
    subst e2
    exact ⟨_, _, rfl, cell_other hc hne⟩⟩
/-- A number and a half that are read. -/
def ReadIH (w : World) (e : Ending) (w' : World) : Prop :=
  ∃ (z : Int) (q : Option Addr) (m d : Nat) (ys : List Int) (b : Int), e = .returned (.tuple #[.int .i64 z, .agg #[.slice q m d, .int .i64 b]]) ∧ Ints w' q m ys ∧ m ≤ 9223372036854775807 ∧ Below w.heap.size w w'

set_option maxHeartbeats 4000000 in
theorem drawIsHalf_any (p : Option Addr) (n c : Nat) (xs : List Int) (w : World) (hn : n ≤ 1048576) (hx : BytesZ w p n xs) :
    Calls Tryz.prog 12 #[.slice p n c] w (ReadIH w) := by
  have hB := boxed w (.cells #[.slice none 0 0, .int .i64 0] 36)
  have kr := Box2.new w (.slice none 0 0) (.int .i64 0) 36
  have hs0 : (w.alloc (.cells #[.slice none 0 0, .int .i64 0] 36)).heap.size = w.heap.size + 1 := by simp
  have hx0 := hx.below hB
  go_enter Tryz.func12, Tryz.ntmps12
  go_wp2_with fail
  generalize w.alloc (.cells #[.slice none 0 0, .int .i64 0] 36) = W0 at *
  refine (l1New_any _ _ _ _ _ hn hx0).mono ?_
  rintro e w1 ⟨g, rfl, hg, hC, hb1⟩
  have hgl := hC.lt
  have kr1 := kr.below hb1
  have hs1 := hb1.size
  go_wp2_with fail
  refine (l4Bent_any _ _ _ _ _ _ hn hC).mono ?_
  rintro e w2 ⟨z, q, k, d, hs, rfl, hown, hz0, hz1, hk, hln, hD⟩
  have kr2 := kr1.within hD.2 (.inl (by omega))
  have hT := hD.frame (Below.step hB hb1) (by omega)
  have hs2 := hD.2.size
  have hBR := boxed w2 (.cells #[.int .i64 z, .slice q k d] 26)
  have kR := Box2.new w2 (.int .i64 z) (.slice q k d) 26
  have hownV := hown.below hBR
  have krV := kr2.below hBR
  have hTV := Below.step hT hBR
  have hsV : (w2.alloc (.cells #[.int .i64 z, .slice q k d] 26)).heap.size = w2.heap.size + 1 := by simp
  have hsW := hsV
  have hsV := Nat.le_of_eq hsV.symm
  have a0 := kR.c0
  have a1 := kR.c1
  have r0 := krV.c0
  have r1 := krV.c1
  have f0 := krV.fr 0
  have f1 := krV.fr 1
  clear kr kr1 kr2 hT hown hBR hC hD
  by_cases hk0 : k = 0
  · have hd0 : decide ((k : Int) = 0) = true := decide_eq_true (by omega)
    have hd1 : ((k : Int) == 0) = true := by simp; omega
    have hmk : ∀ W : World, (Instr.makeSlice 27 (.int .i64 2) (.int .i64 2)).run Tryz.prog W = .ok (.slice (some ⟨W.heap.size, 0, none⟩) 2 2) (W.alloc (.cells (madeCells #[.int .i64 0] 2) 3)) := fun W => run_make_row' (P := Tryz.prog) 27 3 (.int .i64 0) 8 Tryz.underlying27 Tryz.infoInt rfl .i64 .i64 2 (by omega) (by omega) W
    have Hk0 := Lib.hid hk0
    clear hk0
    go_upto_region 4 with fail
    generalize w2.alloc (.cells #[.int .i64 z, .slice q k d] 26) = V at *
    have kRa := fun o => kR.alloc o
    have kra := fun o => krV.alloc o
    have a0a := fun o => (kRa o).c0
    have f0a := fun o => (kra o).fr 0
    have f1a := fun o => (kra o).fr 1
    have r0a := fun o => (kra o).c0
    have r1a := fun o => (kra o).c1
    go_region
    all_goals
      have hms : (V.alloc (.cells (madeCells #[Value.int .i64 0] 2) 3)).heap.size = V.heap.size + 1 := by simp
      have hBm := boxed V (.cells (madeCells #[Value.int .i64 0] 2) 3)
      have hmc : Ints (V.alloc (.cells (madeCells #[Value.int .i64 0] 2) 3)) (some ⟨V.heap.size, 0, none⟩) 2 [0, 0] := ⟨rfl, fun k hk => ⟨_, _, rfl, by
        rw [Nat.zero_add]
        match k, hk with
        | 0, _ => exact (cellsNew _ _ _ _).trans (by simp [madeCells, nth])
        | 1, _ => exact (cellsNew _ _ _ _).trans (by simp [madeCells, nth])⟩⟩
      have hvs : V.heap.size = w2.heap.size + 1 := by omega
      rw [hvs] at hmc
      have kf := (((krV.alloc (.cells (madeCells #[Value.int .i64 0] 2) 3)).set0 (.slice (some ⟨w2.heap.size + 1, 0, none⟩) 2 2)).set1 (.int .i64 0)).drew
      have kf0 := kf.c0
      have kf1 := kf.c1
      go_wp2_with fail
      refine bodyPost_ret (v := .tuple #[.int .i64 z, .agg #[.slice (some ⟨w2.heap.size + 1, 0, none⟩) 2 2, .int .i64 0]]) (by simp [results, Tryz.results12, go_sem, kf0, kf1]) rfl ?_
      exact ⟨_, _, _, _, _, _, rfl, (ints_off (ints_off hmc (by dsimp only; omega)) (by dsimp only; omega)).drew, by omega, (((Below.step hTV hBm).setCell (p := ⟨_, _, none⟩) (by dsimp only; omega) _).setCell (p := ⟨_, _, none⟩) (by dsimp only; omega) _).drew⟩
  · have hd1 : ((k : Int) == 0) = false := by simp; omega
    obtain ⟨rows, hrow⟩ := hownV
    have hcnt := hrow.count
    obtain ⟨gq, rfl, hgq1, hgq2, hc0, hc1, _⟩ := hrow.rowAt 0 (by omega) (by omega)
    have hin := hrow.inner 0 (by omega)
    obtain ⟨⟨qa, ma, da⟩, hra⟩ : ∃ r, rows[0]'(by omega) = r := ⟨_, rfl⟩
    rw [hra] at hc0 hin
    dsimp only at hc0 hin
    rw [Nat.zero_mul] at hc0 hc1
    have hmv := hin.small
    have hz1 : (0 : Int) < (k : Int) := by omega
    have hz1n : 0 < k := by omega
    generalize bnd hs 0 = b0 at *
    go_upto_region 5 with fail
    generalize w2.alloc (.cells #[.int .i64 z, .slice (some ⟨gq, 0, none⟩) k d] 26) = V at *
    go_region
    all_goals
      have kf := ((krV.set0 (.slice qa ma da)).set1 (.int .i64 b0)).drew
      have kf0 := kf.c0
      have kf1 := kf.c1
      go_wp2_with fail
      refine bodyPost_ret (v := .tuple #[.int .i64 z, .agg #[.slice qa ma da, .int .i64 b0]]) (by simp [results, Tryz.results12, go_sem, kf0, kf1]) rfl ?_
      exact ⟨_, _, _, _, _, _, rfl, ((hin.setBelow (a := ⟨_, _, none⟩) (by dsimp only; omega) _).setBelow (a := ⟨_, _, none⟩) (by dsimp only; omega) _).ints.drew, hmv, ((hTV.setCell (p := ⟨_, _, none⟩) (by dsimp only; omega) _).setCell (p := ⟨_, _, none⟩) (by dsimp only; omega) _).drew⟩

end Go.Proofs.YtpfklkmmhdpphadGreatDoor
