/- Contracts of both functions that cut a text at a byte. Conditions: sizes; the library's variable. -/
import Derived.Test.YtpfklkmmhdpphaaGreatDoorJnNum2
import Derived.Test.YtpfklkmmhdpphaaGreatDoorStrFns2
namespace Go.Proofs.YtpfklkmmhdpphaaGreatDoor
open Go.RowKit
set_option linter.unusedVariables false
set_option linter.unusedSimpArgs false
set_option maxRecDepth 100000

theorem splitB_texts (s : ByteArray) (c : UInt8) : (Lib.splitB ⟨#[c]⟩ 0 (Lib.countB s ⟨#[c]⟩) s).map Value.string = (splitW c s.data.toList).map strV := by
  rw [← split_eq]
  have h := Lib.splitB_data ⟨#[c]⟩ 0 (Lib.countB s ⟨#[c]⟩) s
  have e1 : (⟨#[c]⟩ : ByteArray).data.toList = [c] := rfl
  have e2 : Lib.countB s ⟨#[c]⟩ = Lib.count s.data.toList [c] := rfl
  rw [e1] at h
  rw [← e2, ← h, List.map_map]
  refine List.map_congr_left fun a _ => ?_
  simp only [Function.comp, strV, mk_eta]
theorem splitB_count (s : ByteArray) (c : UInt8) : Lib.countB s ⟨#[c]⟩ + 1 = (splitW c s.data.toList).length := by
  have h1 := Lib.splitB_all ⟨#[c]⟩ (Nat.le_refl 1) 0 _ s rfl
  have h2 := congrArg List.length (splitB_texts s c)
  rw [List.length_map, List.length_map, h1] at h2
  exact h2
theorem madeTexts (w : World) (ss : List (List UInt8)) (h : ss.length ≤ maxLen) : OwnS (w.alloc (.cells (ss.map strV).toArray 9)) w.heap.size (w.heap.size + 1) (some ⟨w.heap.size, 0, none⟩) ss.length ss.length ss :=
  ⟨⟨by simp, .inr ⟨w.heap.size, ss.length, (ss.map strV).toArray, rfl, Nat.le_refl _, heap_alloc_new w _, Nat.le_refl _, h, by simp, by rw [Nat.mul_one]; exact List.take_of_length_le (by simp)⟩⟩, fun a ha => by injection ha with ha; subst ha; exact Nat.lt_succ_self _⟩

/-- What has been made new: the pieces of a text. -/
def NewPieces (w : World) (ss : List (List UInt8)) (e : Ending) (w' : World) : Prop :=
  ∃ p n c, e = .returned (.slice p n c) ∧ OwnS w' w.heap.size w'.heap.size p n c ss ∧ Below w.heap.size w w'

def SplitInv (c : UInt8) (l : List UInt8) (out : List (List UInt8)) (f k : Nat) : Prop :=
  if k ≤ l.length then f ≤ k ∧ splitW c l = out ++ splitA c ((l.take k).drop f) (l.drop k) else splitW c l = out
theorem SplitInv.cut {c : UInt8} {l : List UInt8} {out : List (List UInt8)} {f k : Nat} (h : SplitInv c l out f k) (hk : k < l.length) (hb : l[k] = c) : SplitInv c l (out ++ [(l.take k).drop f]) (k + 1) (k + 1) := by
  unfold SplitInv at h ⊢
  rw [if_pos (by omega)] at h ⊢
  refine ⟨Nat.le_refl _, ?_⟩
  rw [h.2, List.drop_eq_getElem_cons hk, splitA, if_pos hb, List.append_assoc]
  congr 1
  simp
theorem SplitInv.last {c : UInt8} {l : List UInt8} {out : List (List UInt8)} {f : Nat} (h : SplitInv c l out f l.length) : SplitInv c l (out ++ [(l.take l.length).drop f]) (l.length + 1) (l.length + 1) := by
  unfold SplitInv at h ⊢
  rw [if_pos (Nat.le_refl _)] at h
  rw [if_neg (by omega), h.2, List.drop_length]
  rfl
theorem SplitInv.on {c : UInt8} {l : List UInt8} {out : List (List UInt8)} {f k : Nat} (h : SplitInv c l out f k) (hk : k < l.length) (hb : l[k] ≠ c) : SplitInv c l out f (k + 1) := by
  unfold SplitInv at h ⊢
  rw [if_pos (by omega)] at h ⊢
  refine ⟨by omega, ?_⟩
  rw [h.2, List.drop_eq_getElem_cons hk, splitA, if_neg hb]
  congr 2
  rw [List.take_succ_eq_append_getElem hk, List.drop_append_of_le_length (by rw [List.length_take]; omega)]
theorem SplitInv.le {c : UInt8} {l : List UInt8} {out : List (List UInt8)} {f k : Nat} (h : SplitInv c l out f k) (hk : k ≤ l.length) : f ≤ k := by
  unfold SplitInv at h
  rw [if_pos hk] at h
  exact h.1
theorem SplitInv.done {c : UInt8} {l : List UInt8} {out : List (List UInt8)} {f k : Nat} (h : SplitInv c l out f k) (hk : l.length < k) : splitW c l = out := by
  unfold SplitInv at h
  rwa [if_neg (by omega)] at h

end Go.Proofs.YtpfklkmmhdpphaaGreatDoor
