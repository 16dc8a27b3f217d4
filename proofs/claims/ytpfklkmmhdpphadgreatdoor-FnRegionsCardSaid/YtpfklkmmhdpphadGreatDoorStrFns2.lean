/- Contracts: the laws' marks on texts, the reference's FormatInt. Conditions: sizes. -/
import Derived.Test.YtpfklkmmhdpphadGreatDoorJnNum2
namespace Go.Proofs.YtpfklkmmhdpphadGreatDoor
open Go.RowKit
set_option linter.unusedVariables false
set_option linter.unusedSimpArgs false
set_option maxRecDepth 100000

theorem addS (a b : List UInt8) (h : a.length + b.length ≤ 9223372036854775807) (W : World) : (Op.stringOp .add ⟨a.toArray⟩ ⟨b.toArray⟩).run Tryz.prog W = .ok (.string ⟨(a ++ b).toArray⟩) W := by
  rw [run_string_add_sum W _ _ (by simp [ByteArray.size]; omega), ByteArray.mk_append_mk]
/-- A byte out of a number. -/
def byteD (x : Int) : UInt8 := UInt8.ofNat x.toNat
/-- string([]byte{x}) -/
theorem conv1 (x : Int) (h0 : 0 ≤ x) (h1 : x ≤ 255) (w : World) : (convert 22 9 (.slice (some ⟨w.heap.size, 0, none⟩) 1 1)).run Tryz.prog (w.alloc (.cells #[.int .u8 x] 5)) = .ok (.string ⟨#[byteD x]⟩) (w.alloc (.cells #[.int .u8 x] 5)) := by
  refine run_convert_bytes_back _ _ _ _ _ 1 [byteD x] Tryz.underlying22 Tryz.underlying5 Tryz.underlying9 fun j hj => ?_
  obtain rfl : j = 0 := by simpa using hj
  rw [Addr.add_lit, Nat.zero_add, cellNew]
  have : ((byteD x).toNat : Int) = x := by unfold byteD; simp; omega
  show some (Value.int .u8 x) = some (Value.int .u8 ((byteD x).toNat : Int))
  rw [this]
/-- string([]byte{x}) + a text -/
theorem addB (x : Int) (l l' : List UInt8) (hl : l' = byteD x :: l) (h : l.length ≤ 1000000000) (W : World) : (Op.stringOp .add ⟨#[byteD x]⟩ ⟨l.toArray⟩).run Tryz.prog W = .ok (.string ⟨l'.toArray⟩) W := by
  have := addS [byteD x] l (show 1 + l.length ≤ _ by omega) W
  rw [hl]; exact this

/-- A mark. -/
def markT (k : Nat) : List UInt8 := 109 :: Lib.decDigits k
theorem digs_length (u : Nat) (h : u < 18446744073709551616) : (digs u).length ≤ 20 := by
  unfold digs
  split
  · simp
  · rw [decDigits_len]; exact Lib.nDigits_le20 u h

theorem Within.andBelow {lo hi : Nat} {w w1 w2 : World} (h : Within lo hi w w1) (k : Below w1.heap.size w1 w2) : Within lo hi w w2 :=
  ⟨k.os.trans h.os, k.tape.trans h.tape, k.output.trans h.output, Nat.le_trans h.size k.size, fun j hj hd => (k.block j (Nat.lt_of_lt_of_le hj h.size)).trans (h.block j hj hd)⟩
/-- Marks from k on. -/
def upT (k n : Nat) : List (List UInt8) := (List.range n).map fun i => markT (k + i)
theorem upT_length (k n : Nat) : (upT k n).length = n := by simp [upT]
theorem upT_nth {k n i : Nat} (h : i < n) : nthS (upT k n) i = markT (k + i) := by
  rw [nthS_eq (by rw [upT_length]; exact h)]; simp [upT]
theorem markT_length {k : Nat} (h : k ≤ 9223372036854775807) : (markT k).length ≤ 21 := by
  rw [markT, List.length_cons, decDigits_len]
  have := Lib.nDigits_le20 k (by omega)
  omega

def MarkedT (w : World) (lo hi : Nat) (p : Option Addr) (n c : Nat) (k : Nat) (e : Ending) (w' : World) : Prop :=
  e = .returned (.int .i64 ((k : Int) + n)) ∧ OwnS w' lo hi p n c (upT k n) ∧ Within lo hi w w'

end Go.Proofs.YtpfklkmmhdpphadGreatDoor
