/- Contracts: the laws' marks on texts, the reference's FormatInt. Conditions: sizes. -/
import Derived.Test.YtmbdegjombjbiaaDoorStrFns
namespace Go.Proofs.YtmbdegjombjbiaaDoor
open Go.RowKit
set_option linter.unusedVariables false
set_option linter.unusedSimpArgs false

theorem addS (a b : List UInt8) (h : a.length + b.length ≤ 9223372036854775807) (W : World) : (Op.stringOp .add ⟨a.toArray⟩ ⟨b.toArray⟩).run Tryd.prog W = .ok (.string ⟨(a ++ b).toArray⟩) W := by
  rw [run_string_add_sum W _ _ (by simp [ByteArray.size]; omega), ByteArray.mk_append_mk]
/-- A byte out of a number. -/
def byteD (x : Int) : UInt8 := UInt8.ofNat x.toNat
/-- string([]byte{x}) -/
theorem conv1 (x : Int) (h0 : 0 ≤ x) (h1 : x ≤ 255) (w : World) : (convert 29 9 (.slice (some ⟨w.heap.size, 0, none⟩) 1 1)).run Tryd.prog (w.alloc (.cells #[.int .u8 x] 5)) = .ok (.string ⟨#[byteD x]⟩) (w.alloc (.cells #[.int .u8 x] 5)) := by
  refine run_convert_bytes_back _ _ _ _ _ 1 [byteD x] Tryd.underlying29 Tryd.underlying5 Tryd.underlying9 fun j hj => ?_
  obtain rfl : j = 0 := by simpa using hj
  rw [Addr.add_lit, Nat.zero_add, cellNew]
  have : ((byteD x).toNat : Int) = x := by unfold byteD; simp; omega
  show some (Value.int .u8 x) = some (Value.int .u8 ((byteD x).toNat : Int))
  rw [this]
/-- string([]byte{x}) + a text -/
theorem addB (x : Int) (l l' : List UInt8) (hl : l' = byteD x :: l) (h : l.length ≤ 1000000000) (W : World) : (Op.stringOp .add ⟨#[byteD x]⟩ ⟨l.toArray⟩).run Tryd.prog W = .ok (.string ⟨l'.toArray⟩) W := by
  have := addS [byteD x] l (show 1 + l.length ≤ _ by omega) W
  rw [hl]; exact this

/-- A mark. -/
def markT (k : Nat) : List UInt8 := 109 :: Lib.decDigits k
theorem digs_length (u : Nat) (h : u < 18446744073709551616) : (digs u).length ≤ 20 := by
  unfold digs
  split
  · simp
  · rw [decDigits_len]; exact Lib.nDigits_le20 u h

theorem markText_any (k : Nat) (w : World) (h0 : 1 ≤ k) (h1 : k ≤ 9223372036854775807) :
    Calls Tryd.prog 55 #[.int .i64 k] w (NewText w (markT k)) := by
  have hd : Lib.decDigits k = digs k ++ [] := by rw [digs, if_neg (by omega)]; simp
  have hk0 : ¬ (k : Int) ≤ 0 := by omega
  have Hd := Lib.hid hd
  clear hd
  go_enter Tryd.func55, Tryd.ntmps55
  go_wp2
  go_loopw [0, 3] (fun a s wr => ∃ (m : Nat) (l : List UInt8), a = .int .i64 m ∧ s = .string ⟨l.toArray⟩ ∧ m ≤ k ∧ Hid (Lib.decDigits k = digs m ++ l) ∧ Below w.heap.size w wr) (fun a _ _ => (intOf a).toNat)
  case atStart => exact ⟨k, [], rfl, rfl, Nat.le_refl _, Hd, Below.refl _ _⟩
  case round =>
    obtain ⟨m, l, rfl, rfl, hmk, Hm, hb⟩ := hrel
    have hll : l.length ≤ 20 := by
      have := congrArg List.length Hm.out
      rw [List.length_append, decDigits_len] at this
      have h2 := Lib.nDigits_le20 k (by omega)
      omega
    by_cases hm : m = 0
    · subst hm
      have he : Hid (Lib.decDigits k = l) := Lib.hid (by have := Hm.out; rwa [digs, if_pos rfl, List.nil_append] at this)
      obtain ⟨l', hl'⟩ : ∃ l', l' = [109] ++ l := ⟨_, rfl⟩
      have hadd : ∀ W, (Op.stringOp .add ⟨#[109]⟩ ⟨l.toArray⟩).run Tryd.prog W = .ok (.string ⟨l'.toArray⟩) W := fun W => by rw [hl']; exact addS [109] l (show 1 + l.length ≤ _ by omega) W
      have Hl' := Lib.hid hl'
      clear hl'
      go_wp2
      go_ret
      exact ⟨ret_str (by rw [Hl'.out, markT, he.out]; rfl), hb⟩
    · have hm' : 0 < m := by omega
      obtain ⟨l', hl'⟩ : ∃ l', l' = byteD (48 + (m : Int) % 10) :: l := ⟨_, rfl⟩
      have hst : Hid (Lib.decDigits k = digs (m / 10) ++ l') := Lib.hid (by
        rw [Hm.out, digs_step hm, List.append_assoc, hl', byteD]
        have : (48 + (m : Int) % 10).toNat = 48 + m % 10 := by omega
        rw [this]; rfl)
      have hcv := conv1 (48 + (m : Int) % 10) (by omega) (by omega) wr
      have hadd := addB (48 + (m : Int) % 10) l l' hl' (by omega)
      clear hl'
      go_wp2
      go_roundw
      case rel => exact ⟨m / 10, _, by go_num, rfl, by omega, hst, hb.alloc hb.size _⟩
      case measure => simp [intOf]; omega

theorem markText_i (x : Int) (k : Nat) (w : World) (hk : x = (k : Int)) (h0 : 1 ≤ k) (h1 : k ≤ 9223372036854775807) :
    Calls Tryd.prog 55 #[.int .i64 x] w (NewText w (markT k)) := by rw [hk]; exact markText_any k w h0 h1
theorem Within.andBelow {lo hi : Nat} {w w1 w2 : World} (h : Within lo hi w w1) (k : Below w1.heap.size w1 w2) : Within lo hi w w2 :=
  ⟨k.os.trans h.os, k.tape.trans h.tape, k.output.trans h.output, Nat.le_trans h.size k.size, fun j hj hd => (k.block j (Nat.lt_of_lt_of_le hj h.size)).trans (h.block j hj hd)⟩
/-- Marks from k on. -/
def upT (k n : Nat) : List (List UInt8) := (List.range n).map fun i => markT (k + i)
theorem upT_length (k n : Nat) : (upT k n).length = n := by simp [upT]
theorem upT_nth {k n i : Nat} (h : i < n) : nthS (upT k n) i = markT (k + i) := by
  rw [nthS_eq (by rw [upT_length]; exact h)]; simp [upT]
theorem markT_length {k : Nat} (h : k ≤ 9223372036854775807) : (markT k).length ≤ 21 := by
  rw [markT, List.length_cons, decDigits_len]
  have := Lib.nDigits_le20 k (by omega)
  omega

def MarkedT (w : World) (lo hi : Nat) (p : Option Addr) (n c : Nat) (k : Nat) (e : Ending) (w' : World) : Prop :=
  e = .returned (.int .i64 ((k : Int) + n)) ∧ OwnS w' lo hi p n c (upT k n) ∧ Within lo hi w w'

theorem markStringS_any (lo hi : Nat) (p : Option Addr) (n c : Nat) (ss : List (List UInt8)) (k0 : Nat) (w : World) (hx : OwnS w lo hi p n c ss) (hh : hi ≤ w.heap.size) (h0 : 1 ≤ k0) (h1 : k0 + n ≤ 4611686018427387904) :
    Calls Tryd.prog 19 #[.slice p n c, .int .i64 k0] w (MarkedT w lo hi p n c k0) := by
  have hl := Lib.hid hx.len
  go_enter Tryd.func19, Tryd.ntmps19
  go_wp2
  go_loopw [1, 5] (fun m i wr => ∃ k : Nat, k ≤ n ∧ i = .int .i64 k ∧ m = .int .i64 ((k0 + k : Nat) : Int) ∧ OwnS wr lo hi p n c (mixT (upT k0 n) ss k) ∧ Within lo hi w wr) (fun _ i _ => n - (intOf i).toNat)
  case atStart => exact ⟨0, Nat.zero_le _, rfl, by simp, by rw [mixT_zero]; exact hx, Within.refl _ _ _⟩
  case round =>
    obtain ⟨k, hk, rfl, rfl, hown, hw⟩ := hrel
    by_cases hlt : k < n
    · rcases OwnV.form1 hown with ⟨_, rfl, _⟩ | ⟨g, rfl, hg1, hg2, hg3, hgc, _⟩
      · omega
      go_wp2_with fail
      refine (markText_i _ (k0 + k) _ (by omega) (by omega) (by omega)).mono ?_
      rintro e w1 ⟨rfl, hb1⟩
      have hown1 := hown.below hb1
      have hw1 : Within lo hi w w1 := hw.andBelow hb1
      have hc2 := hown1.cell hlt
      have hf2 := OwnV.frozenAt hown1 k
      go_wp2
      go_roundw
      case rel =>
        refine ⟨k + 1, by omega, by go_num, by go_num, ?_, hw1.setCell hg1 hg2 _⟩
        have h2 := hown1.set k (markT (k0 + k))
        rw [← upT_nth (k := k0) hlt, mixT_set (by rw [upT_length]; exact hlt) (by rw [hl.out]; exact hlt)] at h2
        rw [← upT_nth (k := k0) hlt]
        exact h2
      case measure => simp [intOf]; omega
    · go_wp2
      go_ret
      obtain rfl : k = n := by omega
      rw [mixT_all (by rw [upT_length]; exact Nat.le_refl _) (by rw [hl.out]; exact Nat.le_refl _)] at hown
      exact ⟨ret_int (by omega), hown, hw⟩

theorem heldStringS_any (p : Option Addr) (n c : Nat) (k0 : Nat) (w : World) (hx : Strs w p n (upT k0 n)) (h0 : 1 ≤ k0) (h1 : k0 + n ≤ 4611686018427387904) :
    Calls Tryd.prog 20 #[.slice p n c, .int .i64 k0] w fun e w' => e = .returned (.int .i64 ((k0 : Int) + n)) ∧ Below w.heap.size w w' := by
  go_enter Tryd.func20, Tryd.ntmps20
  go_wp2
  go_loopw [1, 5] (fun m i wr => ∃ k : Nat, k ≤ n ∧ i = .int .i64 k ∧ m = .int .i64 ((k0 + k : Nat) : Int) ∧ Below w.heap.size w wr) (fun _ i _ => n - (intOf i).toNat)
  case atStart => exact ⟨0, Nat.zero_le _, rfl, by simp, Below.refl _ _⟩
  case round =>
    obtain ⟨k, hk, rfl, rfl, hb⟩ := hrel
    by_cases hlt : k < n
    · obtain ⟨b, o, rfl, hc0⟩ := hx.cell k hlt
      rw [upT_nth hlt] at hc0
      have hc := (hb.cell (World.block_lt_of_cell? w _ hc0)).trans hc0
      have hcd : wr.drew.cell? ⟨b, o + k, none⟩ = some (.string ⟨(markT (k0 + k)).toArray⟩) := hc
      have hT := hb.drew
      have hlb := World.block_lt_of_cell? w _ hc0
      have hi0 : (0 : Int) ≤ (k : Int) := by omega
      have hi1 : (k : Int) < (n : Int) := by omega
      go_wp2
      go_region_held3 (fun w' => w'.cell? ⟨b, o + k, none⟩ = some (.string ⟨(markT (k0 + k)).toArray⟩)) (exact hcd) ((go_at_call 55; (with_reducible refine (markText_i _ (k0 + k) _ (by omega) (by omega) (by omega)).mono ?_); rintro e w1 ⟨rfl, hb1⟩; replace hcd := (hb1.cell (World.block_lt_of_cell? _ _ hcd)).trans hcd; replace hT := Below.step hT hb1))
      go_wp2
      go_roundw
      case rel => exact ⟨k + 1, by omega, by go_num, by go_num, hT⟩
      case measure => simp [intOf]; omega
    · go_wp2
      go_ret
      obtain rfl : k = n := by omega
      exact ⟨ret_int (by omega), hb⟩

end Go.Proofs.YtmbdegjombjbiaaDoor
