/- The reference's draws: a cursor over bytes, numbers below a bound, one of a list. Conditions: sizes. -/
import Derived.Test.YtpfklkmmhdpphacJnVecFns2
import Derived.Test.YtpfklkmmhdpphacStr
namespace Go.Proofs.Ytpfklkmmhdpphac
open Go.RowKit
set_option linter.unusedVariables false
set_option linter.unusedSimpArgs false
set_option maxRecDepth 100000

/-- Block b is the three cells v0, v1, v2. -/
def Box3 (w : World) (b : Nat) (v0 v1 v2 : Value) (T : TypeId) : Prop := w.heap[b]? = some (.cells #[v0, v1, v2] T (0, 0))
section
variable {w w' : World} {b : Nat} {v0 v1 v2 : Value} {T : TypeId}
theorem Box3.lt (h : Box3 w b v0 v1 v2 T) : b < w.heap.size := (Array.getElem?_eq_some_iff.1 h).1
theorem Box3.c0 (h : Box3 w b v0 v1 v2 T) : w.cell? ⟨b, 0, none⟩ = some v0 := by rw [cell_of_row w b 0 _ T (0, 0) h]; rfl
theorem Box3.c1 (h : Box3 w b v0 v1 v2 T) : w.cell? ⟨b, 1, none⟩ = some v1 := by rw [cell_of_row w b 1 _ T (0, 0) h]; rfl
theorem Box3.c2 (h : Box3 w b v0 v1 v2 T) : w.cell? ⟨b, 2, none⟩ = some v2 := by rw [cell_of_row w b 2 _ T (0, 0) h]; rfl
theorem Box3.fr (h : Box3 w b v0 v1 v2 T) (k : Nat) : w.frozen? ⟨b, k, none⟩ = false := by unfold Box3 at h; simp [World.frozen?, h]
theorem Box3.new (w : World) (v0 v1 v2 : Value) (T : TypeId) : Box3 (w.alloc (.cells #[v0, v1, v2] T)) w.heap.size v0 v1 v2 T := heap_alloc_new w _
theorem Box3.below (h : Box3 w b v0 v1 v2 T) (hb : Below w.heap.size w w') : Box3 w' b v0 v1 v2 T := (hb.block b h.lt).trans h
theorem Box3.set1 (h : Box3 w b v0 v1 v2 T) (u : Value) : Box3 (w.setCell ⟨b, 1, none⟩ u) b v0 u v2 T := by
  have hlt := h.lt
  have h' : w.heap[b] = .cells #[v0, v1, v2] T (0, 0) := by simpa [Box3, Array.getElem?_eq_getElem hlt] using h
  show (w.heap.modify b _)[b]? = _
  rw [Array.getElem?_eq_getElem (by simpa using hlt), Array.getElem_modify_self, h']
  rfl
theorem Box3.set2 (h : Box3 w b v0 v1 v2 T) (u : Value) : Box3 (w.setCell ⟨b, 2, none⟩ u) b v0 v1 u T := by
  have hlt := h.lt
  have h' : w.heap[b] = .cells #[v0, v1, v2] T (0, 0) := by simpa [Box3, Array.getElem?_eq_getElem hlt] using h
  show (w.heap.modify b _)[b]? = _
  rw [Array.getElem?_eq_getElem (by simpa using hlt), Array.getElem_modify_self, h']
  rfl
end

/-- The slice (p, n) reads as bytes. -/
structure BytesZ (w : World) (p : Option Addr) (n : Nat) (xs : List Int) : Prop where
  len : xs.length = n
  cell : ∀ k, k < n → ∃ b o, p = some ⟨b, o, none⟩ ∧ w.cell? ⟨b, o + k, none⟩ = some (.int .u8 (nth xs k)) ∧ 0 ≤ nth xs k ∧ nth xs k ≤ 255
theorem BytesZ.below {w w' : World} {p : Option Addr} {n : Nat} {xs : List Int} (h : BytesZ w p n xs) (hb : Below w.heap.size w w') : BytesZ w' p n xs :=
  ⟨h.len, fun k hk => by
    obtain ⟨b, o, hp, hc, h0, h1⟩ := h.cell k hk
    exact ⟨b, o, hp, (hb.cell (World.block_lt_of_cell? w _ hc)).trans hc, h0, h1⟩⟩

/-- A cursor over what came in. -/
structure Cur (w : World) (g : Nat) (p : Option Addr) (n c : Nat) (xs : List Int) : Prop where
  box : ∃ i h : Int, Box3 w g (.slice p n c) (.int .i64 i) (.int .i64 h) 68 ∧ 0 ≤ i ∧ i ≤ n
  bytes : BytesZ w p n xs
  far : ∀ a, p = some a → 0 < n → a.block < g
theorem Cur.lt {w : World} {g : Nat} {p : Option Addr} {n c : Nat} {xs : List Int} (h : Cur w g p n c xs) : g < w.heap.size := by
  obtain ⟨_, _, h, _⟩ := h.box
  exact h.lt
theorem Cur.below {w w' : World} {g : Nat} {p : Option Addr} {n c : Nat} {xs : List Int} (h : Cur w g p n c xs) (hb : Below w.heap.size w w') : Cur w' g p n c xs := by
  obtain ⟨i, k, h1, h2⟩ := h.box
  exact ⟨⟨i, k, h1.below hb, h2⟩, h.bytes.below hb, h.far⟩
/-- What a draw does: the cursor's block alone is written. -/
def Drawn1 (w : World) (g : Nat) (p : Option Addr) (n c : Nat) (xs : List Int) (w' : World) : Prop := Cur w' g p n c xs ∧ Within g (g + 1) w w'
theorem BytesZ.within {w w' : World} {p : Option Addr} {n g : Nat} {xs : List Int} (h : BytesZ w p n xs) (hw : Within g (g + 1) w w') (hf : ∀ a, p = some a → 0 < n → a.block < g) : BytesZ w' p n xs :=
  ⟨h.len, fun k hk => by
    obtain ⟨b, o, hp, hc, h0, h1⟩ := h.cell k hk
    have := hf _ hp (by omega)
    refine ⟨b, o, hp, ?_, h0, h1⟩
    exact (World.cell?_of_block (hw.block b (World.block_lt_of_cell? w _ hc) (.inl this))).trans hc⟩

/-- A mask keeps a number within it. -/
theorem and_mask (x : Int) (m : Nat) (hm : m < 9223372036854775808) : 0 ≤ bits .and .i64 x m ∧ bits .and .i64 x m ≤ m := by
  have h1 : (BitVec.ofInt 64 (m : Int)).toNat = m := by
    rw [BitVec.ofInt_natCast, BitVec.toNat_ofNat]; exact Nat.mod_eq_of_lt (by omega)
  have h2 : ((BitVec.ofInt 64 x) &&& (BitVec.ofInt 64 (m : Int))).toNat ≤ m := by
    rw [BitVec.toNat_and, h1]; exact Nat.and_le_right
  have h3 : bits .and .i64 x m = wrap64 (((BitVec.ofInt 64 x) &&& (BitVec.ofInt 64 (m : Int))).toNat : Int) := by rw [← wrapEq]; rfl
  rw [h3, wrap64_id (by omega) (by omega)]
  omega

set_option maxHeartbeats 1000000 in
theorem l1New_any (p : Option Addr) (n c : Nat) (xs : List Int) (w : World) (hn : n ≤ 1048576) (hx : BytesZ w p n xs) :
    Calls Try.prog 26 #[.slice p n c] w fun e w' => ∃ g, e = .returned (.pointer (some ⟨g, 0, none⟩)) ∧ w.heap.size ≤ g ∧ Cur w' g p n c xs ∧ Below w.heap.size w w' := by
  go_enter Try.func26, Try.ntmps26
  go_wp2_with fail
  go_loopw [3, 4] (fun v i wr => ∃ (k : Nat) (h : Int), k ≤ n ∧ i = .int .i64 k ∧ v = .int .i64 h ∧ wr = w) (fun _ i _ => n - (intOf i).toNat)
  case atStart => exact ⟨0, _, Nat.zero_le _, rfl, rfl, rfl⟩
  case round =>
    obtain ⟨k, h, hk, rfl, rfl, rfl⟩ := hrel
    by_cases hlt : k < n
    · have hd1 : decide ((k : Int) < (n : Int)) = true := by simp; omega
      by_cases hl2 : k < 4000
      · have hd2 : decide ((k : Int) < 4000) = true := by simp; omega
        obtain ⟨b, o, rfl, hc, hb0, hb1⟩ := hx.cell k hlt
        have hz : (0 : Int) ≤ (k : Int) := by omega
        generalize nth xs k = u at *
        go_wp2_with fail
        go_roundw
        case rel => exact ⟨k + 1, _, by omega, by go_num, rfl, trivial⟩
        case measure => simp [intOf]; omega
      · have hd2 : decide ((k : Int) < 4000) = false := by simp; omega
        go_wp2_with fail
        go_ret
        exact ⟨_, rfl, Nat.le_refl _, ⟨⟨0, h, Box3.new _ _ _ _ _, by omega, by omega⟩, hx.below (boxed _ _), fun a ha h0 => by
          obtain ⟨b, o, hp, hc, _⟩ := hx.cell 0 h0
          rw [hp] at ha; injection ha with ha; subst ha
          exact World.block_lt_of_cell? _ _ hc⟩, boxed _ _⟩
    · have hd1 : decide ((k : Int) < (n : Int)) = false := by simp; omega
      go_wp2_with fail
      go_ret
      exact ⟨_, rfl, Nat.le_refl _, ⟨⟨0, h, Box3.new _ _ _ _ _, by omega, by omega⟩, hx.below (boxed _ _), fun a ha h0 => by
        obtain ⟨b, o, hp, hc, _⟩ := hx.cell 0 h0
        rw [hp] at ha; injection ha with ha; subst ha
        exact World.block_lt_of_cell? _ _ hc⟩, boxed _ _⟩

set_option maxHeartbeats 1000000 in
theorem l1Byte_any (g : Nat) (p : Option Addr) (n c : Nat) (xs : List Int) (w : World) (hn : n ≤ 1048576) (hx : Cur w g p n c xs) :
    Calls Try.prog 54 #[.pointer (some ⟨g, 0, none⟩)] w fun e w' => ∃ x : Int, e = .returned (.int .i64 x) ∧ 0 ≤ x ∧ x ≤ 255 ∧ Drawn1 w g p n c xs w' := by
  obtain ⟨i, h, hbx, hi0, hin⟩ := hx.box
  have c2 := hbx.c2
  have f2 := hbx.fr 2
  go_enter Try.func54, Try.ntmps54
  go_upto_region 2 with fail
  generalize wrap64 (wrap64 (h * 6364136223846793005) + 1442695040888963407) = h2 at *
  have hb2 := hbx.set2 (.int .i64 h2)
  have hw2 : Within g (g + 1) w (w.setCell ⟨g, 2, none⟩ (.int .i64 h2)) := (Within.refl g (g + 1) w).setCell (p := ⟨g, 2, none⟩) (Nat.le_refl _) (Nat.lt_succ_self _) _
  clear c2 f2
  generalize w.setCell ⟨g, 2, none⟩ (.int .i64 h2) = W1 at *
  have c0 := hb2.c0
  have c1 := hb2.c1
  have c2 := hb2.c2
  go_quiet (fail)
  have hm1 := and_mask (bits .xor .i64 (h2 / 8589934592) (h2 / 35184372088832)) 255 (by omega)
  generalize bits .xor .i64 (h2 / 8589934592) (h2 / 35184372088832) = y1 at *
  rw [show ((255 : Nat) : Int) = 255 from rfl] at hm1
  generalize bits .and .i64 y1 255 = x1 at *
  have hb3 : Box3 (W1.drewN nq) g (.slice p n c) (.int .i64 i) (.int .i64 h2) 68 := hb2
  have hw3 : Within g (g + 1) w (W1.drewN nq) := hw2.drewN nq
  clear c0 c1 c2 hb2 hw2
  generalize W1.drewN nq = W2 at *
  have c0 := hb3.c0
  have c1 := hb3.c1
  by_cases hlt : i < (n : Int)
  · have hd1 : decide (i < (n : Int)) = true := by simpa using hlt
    obtain ⟨k, rfl⟩ : ∃ k : Nat, i = (k : Int) := ⟨i.toNat, by omega⟩
    have hkn : k < n := by omega
    obtain ⟨b, o, rfl, hc, hu0, hu1⟩ := (hx.bytes.within hw3 hx.far).cell k hkn
    generalize nth xs k = u at *
    go_wp2_with fail
    go_quiet (fail)
    have hb4 : Box3 (W2.drewN nq) g (.slice (some ⟨b, o, none⟩) n c) (.int .i64 k) (.int .i64 h2) 68 := hb3
    have hw4 : Within g (g + 1) w (W2.drewN nq) := hw3.drewN nq
    have hc4 : (W2.drewN nq).cell? ⟨b, o + k, none⟩ = some (.int .u8 u) := hc
    clear c0 c1 hb3 hw3 hc
    generalize W2.drewN nq = W3 at *
    have c0 := hb4.c0
    have c1 := hb4.c1
    have hz : (0 : Int) ≤ (k : Int) := by omega
    have hm2 := and_mask (x1 + u) 255 (by omega)
    rw [show ((255 : Nat) : Int) = 255 from rfl] at hm2
    obtain ⟨x2, hx2⟩ : ∃ x2, bits .and .i64 (x1 + u) 255 = x2 := ⟨_, rfl⟩
    rw [hx2] at hm2
    go_wp2_with fail
    go_quiet (fail)
    have hb5 : Box3 (W3.drewN nq) g (.slice (some ⟨b, o, none⟩) n c) (.int .i64 k) (.int .i64 h2) 68 := hb4
    have hw5 : Within g (g + 1) w (W3.drewN nq) := hw4.drewN nq
    clear c0 c1 hb4 hw4 hc4
    generalize W3.drewN nq = W4 at *
    have c1 := hb5.c1
    have f1 := hb5.fr 1
    go_wp2_with fail
    go_ret
    exact ⟨x2, rfl, hm2.1, hm2.2, ⟨⟨(k : Int) + 1, h2, hb5.set1 _, by omega, by omega⟩, hx.bytes.within (hw5.setCell (p := ⟨g, 1, none⟩) (Nat.le_refl _) (Nat.lt_succ_self _) _) hx.far, hx.far⟩, hw5.setCell (p := ⟨g, 1, none⟩) (Nat.le_refl _) (Nat.lt_succ_self _) _⟩
  · have hd1 : decide (i < (n : Int)) = false := by simpa using hlt
    go_wp2_with fail
    go_quiet (fail)
    go_wp2_with fail
    go_ret
    exact ⟨x1, rfl, hm1.1, hm1.2, ⟨⟨i, h2, hb3, hi0, hin⟩, hx.bytes.within (hw3.drewN nq) hx.far, hx.far⟩, hw3.drewN nq⟩

theorem Drawn1.step {w w1 w2 : World} {g : Nat} {p : Option Addr} {n c : Nat} {xs : List Int} (h : Drawn1 w g p n c xs w1) (k : Drawn1 w1 g p n c xs w2) : Drawn1 w g p n c xs w2 := ⟨k.1, h.2.trans k.2⟩
theorem Drawn1.frame {w0 w w' : World} {g : Nat} {p : Option Addr} {n c : Nat} {xs : List Int} (h : Drawn1 w g p n c xs w') (hb : Below w0.heap.size w0 w) (hg : w0.heap.size ≤ g) : Below w0.heap.size w0 w' := Below.mark hb h.2 hg

theorem l1Below_any (g : Nat) (p : Option Addr) (n c : Nat) (xs : List Int) (m : Int) (w : World) (hn : n ≤ 1048576) (hx : Cur w g p n c xs) (hm1 : 1 ≤ m) (hm2 : m ≤ 2147483648) :
    Calls Try.prog 32 #[.pointer (some ⟨g, 0, none⟩), .int .i64 m] w fun e w' => ∃ x : Int, e = .returned (.int .i64 x) ∧ 0 ≤ x ∧ x < m ∧ Drawn1 w g p n c xs w' := by
  have hd0 : decide (m ≤ 0) = false := by simp; omega
  have hm0 : ¬ (m = 0) := by omega
  have hm0' : (m == 0) = false := by simpa using hm0
  have key : ∀ x : Int, 0 ≤ x → 0 ≤ x.tmod m ∧ x.tmod m < m := fun x h => ⟨Int.tmod_nonneg m h, Int.tmod_lt_of_pos x (by omega)⟩
  by_cases h : m ≤ 256
  · have hd1 : decide (m ≤ 256) = true := by simpa using h
    go_enter Try.func32, Try.ntmps32
    go_wp2_with fail
    refine (l1Byte_any _ _ _ _ _ _ hn hx).mono ?_
    rintro e w1 ⟨x, rfl, hx0, hx1, hD⟩
    have kx := key x hx0
    have hem : x % m = x.tmod m := (Int.tmod_eq_emod_of_nonneg hx0).symm
    have hwr : wrap64 (x.tmod m) = x.tmod m := wrap64_id (by omega) (by omega)
    generalize hR : x.tmod m = R at *
    go_wp2_with fail
    go_ret
    exact ⟨R, rfl, kx.1, kx.2, hD⟩
  · have hd1 : decide (m ≤ 256) = false := by simpa using h
    go_enter Try.func32, Try.ntmps32
    go_wp2_with fail
    refine (l1Byte_any _ _ _ _ _ _ hn hx).mono ?_
    rintro e w1 ⟨x, rfl, hx0, hx1, hD⟩
    go_wp2_with fail
    refine (l1Byte_any _ _ _ _ _ _ hn hD.1).mono ?_
    rintro e w2 ⟨y, rfl, hy0, hy1, hD2⟩
    replace hD := hD.step hD2
    go_wp2_with fail
    refine (l1Byte_any _ _ _ _ _ _ hn hD.1).mono ?_
    rintro e w3 ⟨z, rfl, hz0, hz1, hD3⟩
    replace hD := hD.step hD3
    go_wp2_with fail
    refine (l1Byte_any _ _ _ _ _ _ hn hD.1).mono ?_
    rintro e w4 ⟨u, rfl, hu0, hu1, hD4⟩
    replace hD := hD.step hD4
    have kx := key (x * 16777216 + y * 65536 + z * 256 + u) (by omega)
    have hem : (x * 16777216 + y * 65536 + z * 256 + u) % m = (x * 16777216 + y * 65536 + z * 256 + u).tmod m := (Int.tmod_eq_emod_of_nonneg (by omega)).symm
    have hwr : wrap64 ((x * 16777216 + y * 65536 + z * 256 + u).tmod m) = (x * 16777216 + y * 65536 + z * 256 + u).tmod m := wrap64_id (by omega) (by omega)
    go_wp2_with fail
    go_ret
    exact ⟨_, rfl, Int.emod_nonneg _ (by omega), Int.emod_lt_of_pos _ (by omega), hD⟩

theorem l1Once_any (g : Nat) (p : Option Addr) (n c : Nat) (xs : List Int) (m : Int) (w : World) (hn : n ≤ 1048576) (hx : Cur w g p n c xs) (hm1 : 1 ≤ m) (hm2 : m ≤ 2147483648) :
    Calls Try.prog 34 #[.pointer (some ⟨g, 0, none⟩), .int .i64 m] w fun e w' => ∃ t : Bool, e = .returned (.bool t) ∧ Drawn1 w g p n c xs w' := by
  go_enter Try.func34, Try.ntmps34
  go_wp2_with fail
  refine (l1Below_any _ _ _ _ _ _ _ hn hx hm1 hm2).mono ?_
  rintro e w1 ⟨x, rfl, hx0, hx1, hD⟩
  go_wp2_with fail
  go_ret
  exact ⟨_, rfl, hD⟩

theorem l1PickInt_any (g b : Nat) (p : Option Addr) (n c m c2 : Nat) (xs : List Int) (ys : List Int) (w : World) (hn : n ≤ 1048576) (hx : Cur w g p n c xs) (hm1 : 1 ≤ m) (hm2 : m ≤ 256)
    (hs : Ints w (some ⟨b, 0, none⟩) m ys) (hb : b ≠ g) :
    Calls Try.prog 35 #[.pointer (some ⟨g, 0, none⟩), .slice (some ⟨b, 0, none⟩) m c2] w fun e w' => ∃ k, k < m ∧ e = .returned (.int .i64 (nth ys k)) ∧ Drawn1 w g p n c xs w' := by
  go_enter Try.func35, Try.ntmps35
  go_wp2_with fail
  refine (l1Below_any _ _ _ _ _ _ _ hn hx (by omega) (by omega)).mono ?_
  rintro e w1 ⟨x, rfl, hx0, hx1, hD⟩
  obtain ⟨k, rfl⟩ : ∃ k : Nat, x = (k : Int) := ⟨x.toNat, by omega⟩
  have hk : k < m := by omega
  obtain ⟨b', o', e', hc⟩ := hs.cell k hk
  injection e' with e'; injection e' with ea eb
  subst ea; subst eb
  rw [Nat.zero_add] at hc
  have hc1 : w1.cell? ⟨b, k, none⟩ = some (.int .i64 (nth ys k)) := (World.cell?_of_block (hD.2.block b (World.block_lt_of_cell? w _ hc) (by omega))).trans hc
  have HK : Hid (∃ j, j < m ∧ nth ys j = nth ys k) := ⟨k, hk, rfl⟩
  generalize nth ys k = u at *
  go_wp2_with fail
  go_ret
  obtain ⟨j, hj, e⟩ := HK.out
  exact ⟨j, hj, ret_int e.symm, hD⟩

end Go.Proofs.Ytpfklkmmhdpphac
