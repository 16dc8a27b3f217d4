/- The reference's draws of matrices, bent. Conditions: sizes. -/
import Derived.Test.YtdchckljggjaaaaMDraw2
namespace Go.Proofs.Ytdchckljggjaaaa
open Go.RowKit
set_option linter.unusedVariables false
set_option linter.unusedSimpArgs false
set_option maxRecDepth 100000

theorem Own.oneLit (w : World) (x : Int) : Own (w.alloc (.cells #[.int .i64 x] 3)) w.heap.size (w.heap.size + 1) (some ⟨w.heap.size, 0, none⟩) 1 1 [x] :=
  ⟨World.ownsRow_lit w #[.int .i64 x] 1 (Nat.le_refl _) (by unfold maxLen; omega) rfl, fun a ha => by injection ha with ha; subst ha; exact Nat.lt_succ_self _⟩

def bent3L : List Int := [100, 101, -100, -101]
/-- Rows that were drawn, four at most. -/
def BentM (w : World) (g : Nat) (p : Option Addr) (n c : Nat) (xs : List Int) (e : Ending) (w' : World) : Prop :=
  ∃ q m d yss, e = .returned (.slice q m d) ∧ OwnM w' w.heap.size w'.heap.size q m d yss ∧ m ≤ 4 ∧ Drawn1 w g p n c xs w'

set_option maxHeartbeats 4000000 in
theorem l3Bent_any (g : Nat) (p : Option Addr) (n c : Nat) (xs : List Int) (w : World) (hn : n ≤ 1048576) (hx : Cur w g p n c xs) :
    Calls Try.prog 87 #[.pointer (some ⟨g, 0, none⟩)] w (BentM w g p n c xs) := by
  have hgl := hx.lt
  go_enter Try.func87, Try.ntmps87
  go_wp2_with fail
  refine (l1Below_any _ _ _ _ _ _ _ hn hx (by omega) (by omega)).mono ?_
  rintro e w1 ⟨x, rfl, hx0, hx1, hD⟩
  obtain ⟨k, rfl⟩ : ∃ k : Nat, x = (k : Int) := ⟨x.toNat, by omega⟩
  have hk : k < 3 := by omega
  have hs1 := hD.2.size
  go_wp2_with fail
  refine (l3Draw_any _ _ _ _ (k + 1) _ _ _ _ (by omega) hn hD.1 (by omega) (by omega) (by omega)).mono ?_
  rintro e w2 ⟨q, d, yss, rfl, ⟨rows, hown⟩, hys, hD2⟩
  have hD3 := hD.step hD2
  have hown2 := (hown.widen (lo' := w.heap.size) hs1 (Nat.le_refl _))
  have hcnt := hown2.count
  clear hown
  obtain ⟨gq, rfl, _⟩ := hown2.rowAt 0 (by omega) (by omega)
  go_wp2_with fail
  refine (l1Below_any _ _ _ _ _ _ _ hn hD3.1 (by omega) (by omega)).mono ?_
  rintro e w3 ⟨y, rfl, hy0, hy1, hD4⟩
  have hD5 := hD3.step hD4
  have hown3 := (hown2.within hD4.2 (.inr (by omega))).up
  have hs3 := hD5.2.size
  have hgV := hD5.1.lt
  clear hown2 hD3 hD2 hD4
  generalize w3 = V at *
  by_cases e0 : y = 0
  · subst e0
    obtain ⟨⟨qa, ma, da⟩, hra⟩ : ∃ r, rows[0]'(by omega) = r := ⟨_, rfl⟩
    obtain rfl : k + 1 = ma := by rw [← (hown3.rowOf (by omega) hra).len]; exact (hys.out 0 (by omega)).symm
    have ca := hown3.cellAt (by omega) hra
    obtain ⟨ga, rfl⟩ := (hown3.rowOf (by omega) hra).some_S (by omega)
    have hB := boxed V (.cells #[.int .i64 100, .int .i64 101, .int .i64 (-100), .int .i64 (-101)] 3)
    have hi : Ints (V.alloc (.cells #[.int .i64 100, .int .i64 101, .int .i64 (-100), .int .i64 (-101)] 3)) (some ⟨V.heap.size, 0, none⟩) 4 bent3L := ⟨rfl, fun k hk => ⟨_, _, rfl, by
      rw [Nat.zero_add]
      match k, hk with
      | 0, _ => exact (cellsNew _ _ _ _).trans rfl
      | 1, _ => exact (cellsNew _ _ _ _).trans rfl
      | 2, _ => exact (cellsNew _ _ _ _).trans rfl
      | 3, _ => exact (cellsNew _ _ _ _).trans rfl⟩⟩
    have hi2 := hi.drew
    have hD6 := (hD5.step (Drawn1.new hD5.1 hB)).step (Drawn1.new (hD5.1.below hB) (drewBelow _))
    have hown4 := (hown3.below hB).drew
    have ca4 := hown4.cellAt (by omega) hra
    go_wp2_with fail
    go_region_law (first | (go_simp; go_at_call 76; refine (l1PickInt_any g V.heap.size _ _ _ 4 4 _ bent3L _ hn hD6.1 (by omega) (by omega) hi2 (by omega)).mono ?_; rintro e w5 ⟨j, hj, rfl, hD7⟩; have hown5 := hown4.within hD7.2 (.inr (by omega)); have ca5 := hown5.cellAt (by omega) hra; have hx5 := (hown5.rowOf (by omega) hra).cell (k := 0) (by omega); have hf5 := (hown5.rowOf (by omega) hra).frozen 0; generalize nth bent3L j = u at *; generalize nth (nthR yss 0) 0 = u0 at *))
    all_goals
      obtain ⟨lo', hi', ho, hset⟩ := hown5.mark 0 (by omega)
      simp only [hra] at ho hset
      have hlo := (ho.lt _ rfl)
      have hset2 := hset _ _ (ho.set 0 u) ((Within.refl lo' hi' w5).setCell (p := ⟨ga, 0, none⟩) hlo.1 hlo.2.1 _)
      have hgw := (hown5.rowOf (by omega) hra).lt _ rfl
      have hD8 := hD6.step hD7
      go_wp2_with fail
      go_ret
      exact ⟨_, k + 1, _, _, rfl, ⟨_, hset2.1.up⟩, by omega, hD8.low ((Below.refl w.heap.size w5).setCell (p := ⟨ga, 0, none⟩) hgw.1 _) (Nat.le_refl _) hgl⟩
  · have hy2 : (y == 0) = false := by simpa using e0
    by_cases e1 : y = 1
    · subst e1
      have hl := Own.oneLit V 1
      have hown4 := hown3.below (boxed V (.cells #[.int .i64 1] 3))
      have hcl : ((V.alloc (.cells #[.int .i64 1] 3)).alloc (.cells #[.slice (some ⟨V.heap.size, 0, none⟩) 1 1] 40)).cell? ⟨V.heap.size + 1, 0, none⟩ = some (.slice (some ⟨V.heap.size, 0, none⟩) 1 1) := by
        have h := cellNew (V.alloc (.cells #[.int .i64 1] 3)) (.slice (some ⟨V.heap.size, 0, none⟩) 1 1) 40
        rwa [World.size_alloc] at h
      have hs4 : (V.alloc (.cells #[.int .i64 1] 3)).heap.size = V.heap.size + 1 := by simp
      go_wp2_with (at_builtin; refine append_row rfl _ _ rfl _ w.heap.size _ _ _ _ _ rfl (hown4.outer.alloc _) _ _ _ _ rfl hcl (by omega) (by simp; omega) ?_; intro p' c' w6 ho6 hg6)
      have hb6 : Below w.heap.size V w6 := (((Below.refl _ _).alloc hs3 _).alloc (by simp; omega) _).trans (hg6.below (by simp; omega) fun a ha => (hown3.outer.lt a ha).1)
      have h6 := hown4.app hl hs3 (boxed _ _) ho6 hg6
      go_ret
      exact ⟨_, k + 1 + 1, _, _, rfl, ⟨_, h6⟩, by omega, hD5.low hb6 (Nat.le_refl _) hgl⟩
    · have hy3 : (y == 1) = false := by simpa using e1
      by_cases e2 : y = 2
      · subst e2
        go_wp2_with fail
        go_ret
        exact ⟨_, 0, _, [], rfl, ⟨_, (Own2.empty V).widen hs3 (by simp)⟩, by omega, hD5.step (Drawn1.new hD5.1 (boxed _ _))⟩
      · have hy4 : (y == 2) = false := by simpa using e2
        by_cases e3 : y = 3 ∨ y = 4 ∨ y = 5
        · rcases e3 with rfl | rfl | rfl
          all_goals
            go_wp2_with fail
            refine (l1Below_any _ _ _ _ _ _ _ hn hD5.1 (by omega) (by omega)).mono ?_
            rintro e w4 ⟨z, rfl, hz0, hz1, hD6⟩
            have hD7 := hD5.step hD6
            have hs7 := hD7.2.size
            obtain ⟨z, rfl⟩ : ∃ k : Nat, z = (k : Int) := ⟨z.toNat, by omega⟩
            go_wp2_with fail
            refine (l3Unit_any _ _ _ _ (z + 1) _ _ _ (by omega) hn hD7.1 (by omega) (by omega)).mono ?_
            rintro e w5 ⟨q5, d5, zss, rfl, ho5, _, hD8⟩
            go_wp2_with fail
            go_ret
            exact ⟨_, z + 1, _, _, rfl, ho5.widen hs7 (Nat.le_refl _), by omega, hD7.step hD8⟩
        · have hy5 : (y == 3) = false := by simp; omega
          have hy6 : (y == 4) = false := by simp; omega
          have hy7 : (y == 5) = false := by simp; omega
          go_wp2_with fail
          go_ret
          exact ⟨_, k + 1, _, _, rfl, ⟨_, hown3⟩, by omega, hD5⟩

/-- Rows that are read, four at most. -/
def ReadM (w : World) (e : Ending) (w' : World) : Prop := ∃ q m d yss, e = .returned (.slice q m d) ∧ Intss w' q m yss ∧ m ≤ 4 ∧ Below w.heap.size w w'

theorem drawDet_any (p : Option Addr) (n c : Nat) (xs : List Int) (w : World) (hn : n ≤ 1048576) (hx : BytesZ w p n xs) :
    Calls Try.prog 46 #[.slice p n c] w (ReadM w) := by
  go_enter Try.func46, Try.ntmps46
  go_wp2_with fail
  refine (l1New_any _ _ _ _ _ hn hx).mono ?_
  rintro e w1 ⟨g, rfl, hg, hC, hb1⟩
  have hgl := hC.lt
  go_wp2_with fail
  refine (l3Bent_any _ _ _ _ _ _ hn hC).mono ?_
  rintro e w2 ⟨q, m, d, yss, rfl, hown, hm, hD⟩
  go_wp2_with fail
  go_ret
  exact ⟨_, _, _, _, rfl, hown.rd, hm, hD.frame hb1 hg⟩
theorem drawHerm_any (p : Option Addr) (n c : Nat) (xs : List Int) (w : World) (hn : n ≤ 1048576) (hx : BytesZ w p n xs) :
    Calls Try.prog 40 #[.slice p n c] w (ReadM w) := by
  go_enter Try.func40, Try.ntmps40
  go_wp2_with fail
  refine (l1New_any _ _ _ _ _ hn hx).mono ?_
  rintro e w1 ⟨g, rfl, hg, hC, hb1⟩
  have hgl := hC.lt
  go_wp2_with fail
  refine (l3Bent_any _ _ _ _ _ _ hn hC).mono ?_
  rintro e w2 ⟨q, m, d, yss, rfl, hown, hm, hD⟩
  go_wp2_with fail
  go_ret
  exact ⟨_, _, _, _, rfl, hown.rd, hm, hD.frame hb1 hg⟩
theorem drawInv_any (p : Option Addr) (n c : Nat) (xs : List Int) (w : World) (hn : n ≤ 1048576) (hx : BytesZ w p n xs) :
    Calls Try.prog 37 #[.slice p n c] w (ReadM w) := by
  go_enter Try.func37, Try.ntmps37
  go_wp2_with fail
  refine (l1New_any _ _ _ _ _ hn hx).mono ?_
  rintro e w1 ⟨g, rfl, hg, hC, hb1⟩
  have hgl := hC.lt
  go_wp2_with fail
  refine (l1Once_any _ _ _ _ _ _ _ hn hC (by omega) (by omega)).mono ?_
  rintro e w2 ⟨t, rfl, hD⟩
  have hT := hD.frame hb1 hg
  cases t
  · go_wp2_with fail
    refine (l1Below_any _ _ _ _ _ _ _ hn hD.1 (by omega) (by omega)).mono ?_
    rintro e w3 ⟨x, rfl, hx0, hx1, hD3⟩
    obtain ⟨k, rfl⟩ : ∃ k : Nat, x = (k : Int) := ⟨x.toNat, by omega⟩
    have hT3 := hD3.frame hT hg
    go_wp2_with fail
    refine (l3Unit_any _ _ _ _ (k + 1) _ _ _ (by omega) hn hD3.1 (by omega) (by omega)).mono ?_
    rintro e w4 ⟨q, d, yss, rfl, hown, _, hD4⟩
    go_wp2_with fail
    go_ret
    exact ⟨_, k + 1, _, _, rfl, hown.rd, by omega, hD4.frame hT3 hg⟩
  · go_wp2_with fail
    refine (l3Bent_any _ _ _ _ _ _ hn hD.1).mono ?_
    rintro e w3 ⟨q, m, d, yss, rfl, hown, hm, hD3⟩
    go_wp2_with fail
    go_ret
    exact ⟨_, _, _, _, rfl, hown.rd, hm, hD3.frame hT hg⟩
theorem drawTimes_any (p : Option Addr) (n c : Nat) (xs : List Int) (w : World) (hn : n ≤ 1048576) (hx : BytesZ w p n xs) :
    Calls Try.prog 34 #[.slice p n c] w fun e w' => ∃ q m d yss q' m' d' zss, e = .returned (.tuple #[.slice q m d, .slice q' m' d']) ∧ Intss w' q m yss ∧ m ≤ 4 ∧ Intss w' q' m' zss ∧ m' ≤ 4 ∧ Below w.heap.size w w' := by
  go_enter Try.func34, Try.ntmps34
  go_wp2_with fail
  refine (l1New_any _ _ _ _ _ hn hx).mono ?_
  rintro e w1 ⟨g, rfl, hg, hC, hb1⟩
  have hgl := hC.lt
  go_wp2_with fail
  refine (l3Bent_any _ _ _ _ _ _ hn hC).mono ?_
  rintro e w2 ⟨q, m, d, yss, rfl, hown, hm, hD⟩
  have hT := hD.frame hb1 hg
  go_wp2_with fail
  refine (l1Once_any _ _ _ _ _ _ _ hn hD.1 (by omega) (by omega)).mono ?_
  rintro e w3 ⟨t, rfl, hD3⟩
  have hT3 := hD3.frame hT hg
  have hown3 := hown.within hD3.2 (.inr (by omega))
  cases t
  · go_wp2_with fail
    refine (l3Draw_any _ _ _ _ m _ _ _ _ rfl hn hD3.1 (by omega) (by omega) (by omega)).mono ?_
    rintro e w4 ⟨q4, d4, zss, rfl, ho4, _, hD4⟩
    have hown4 := hown3.within hD4.2 (.inr (by omega))
    go_wp2_with fail
    go_ret2
    exact ⟨_, _, _, _, _, _, _, _, rfl, hown4.rd, hm, ho4.rd, hm, hD4.frame hT3 hg⟩
  · go_wp2_with fail
    refine (l3Bent_any _ _ _ _ _ _ hn hD3.1).mono ?_
    rintro e w4 ⟨q4, m4, d4, zss, rfl, ho4, hm4, hD4⟩
    have hown4 := hown3.within hD4.2 (.inr (by omega))
    go_wp2_with fail
    go_ret2
    exact ⟨_, _, _, _, _, _, _, _, rfl, hown4.rd, hm, ho4.rd, hm4, hD4.frame hT3 hg⟩

def sizeL : List Int := [6, 6, 300]
theorem sizeL_in : ∀ j, j < 3 → 0 ≤ nth sizeL j ∧ nth sizeL j ≤ 300
  | 0, _ => by decide
  | 1, _ => by decide
  | 2, _ => by decide
  | k + 3, h => absurd h (by omega)
set_option maxHeartbeats 2000000 in
theorem drawApply_any (p : Option Addr) (n c : Nat) (xs : List Int) (w : World) (hn : n ≤ 1048576) (hx : BytesZ w p n xs) :
    Calls Try.prog 43 #[.slice p n c] w fun e w' => ∃ q m d yss q' m' d' zs, e = .returned (.tuple #[.slice q m d, .slice q' m' d']) ∧ Intss w' q m yss ∧ m ≤ 4 ∧ Ints w' q' m' zs ∧ m' ≤ 5 ∧ Below w.heap.size w w' := by
  go_enter Try.func43, Try.ntmps43
  go_wp2_with fail
  refine (l1New_any _ _ _ _ _ hn hx).mono ?_
  rintro e w1 ⟨g, rfl, hg, hC, hb1⟩
  have hgl := hC.lt
  go_wp2_with fail
  refine (l3Bent_any _ _ _ _ _ _ hn hC).mono ?_
  rintro e w2 ⟨q, m, d, yss, rfl, hown, hm, hD⟩
  have hT := hD.frame hb1 hg
  go_wp2_with fail
  refine (l1Once_any _ _ _ _ _ _ _ hn hD.1 (by omega) (by omega)).mono ?_
  rintro e w3 ⟨t, rfl, hD3⟩
  have hT3 := hD3.frame hT hg
  have hown3 := hown.within hD3.2 (.inr (by omega))
  obtain ⟨z, hz0, hz1, hz⟩ := l1Bit_some t
  have hgl3 := hD3.1.lt
  have hB := boxed w3 (.cells #[.int .i64 6, .int .i64 6, .int .i64 300] 3)
  have hi : Ints (w3.alloc (.cells #[.int .i64 6, .int .i64 6, .int .i64 300] 3)) (some ⟨w3.heap.size, 0, none⟩) 3 sizeL := ⟨rfl, fun k hk => ⟨_, _, rfl, by
    rw [Nat.zero_add]
    match k, hk with
    | 0, _ => exact (cellsNew _ _ _ _).trans rfl
    | 1, _ => exact (cellsNew _ _ _ _).trans rfl
    | 2, _ => exact (cellsNew _ _ _ _).trans rfl⟩⟩
  obtain ⟨m', hm', hm5⟩ : ∃ m' : Nat, max 1 ((m : Int) + z) = (m' : Int) ∧ m' ≤ 5 := ⟨(max 1 ((m : Int) + z)).toNat, by omega, by omega⟩
  have HS := Lib.hid sizeL_in
  go_wp2_with (first | (go_at_call 74; (with_reducible refine (hz _).mono ?_); rintro e w' ⟨rfl, rfl⟩) | (go_at_call 98; (with_reducible refine (l1Max_any _ _ _).mono ?_); rintro e w' ⟨rfl, rfl⟩))
  refine (l1PickInt_any g w3.heap.size _ _ _ 3 3 _ sizeL _ hn (hD3.1.below hB) (by omega) (by omega) hi (by omega)).mono ?_
  clear hi
  rintro e w5 ⟨j, hj, rfl, hD7⟩
  have hsz := HS.out j hj
  have hown5 := (hown3.below hB).within hD7.2 (.inr (by omega))
  have hT7 := hD7.frame (Below.step hT3 hB) hg
  generalize nth sizeL j = u at *
  go_wp2_with fail
  refine (l2Draw_any _ _ _ _ m' _ _ _ hn hD7.1 (by omega) (by omega) (by omega)).mono ?_
  rintro e w6 ⟨q6, d6, zs, rfl, ho6, _, hD8⟩
  have hown6 := hown5.within hD8.2 (.inr (by omega))
  go_wp2_with fail
  go_ret2
  exact ⟨_, _, _, _, _, _, _, _, rfl, hown6.rd, hm, ho6.ints, hm5, hD8.frame hT7 hg⟩

end Go.Proofs.Ytdchckljggjaaaa
