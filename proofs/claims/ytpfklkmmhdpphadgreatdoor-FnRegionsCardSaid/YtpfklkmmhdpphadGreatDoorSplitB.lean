/- Contracts of both functions that cut a text at a byte. Conditions: sizes; the library's variable. -/
import Derived.Test.YtpfklkmmhdpphadGreatDoorJnNum2
import Derived.Test.YtpfklkmmhdpphadGreatDoorStrFns2
namespace Go.Proofs.YtpfklkmmhdpphadGreatDoor
open Go.RowKit
set_option linter.unusedVariables false
set_option linter.unusedSimpArgs false
set_option maxRecDepth 100000

theorem splitB_texts (s : ByteArray) (c : UInt8) : (Lib.splitB ⟨#[c]⟩ 0 (Lib.countB s ⟨#[c]⟩) s).map Value.string = (splitW c s.data.toList).map strV := by
  rw [← split_eq]
  have h := Lib.splitB_data ⟨#[c]⟩ 0 (Lib.countB s ⟨#[c]⟩) s
  have e1 : (⟨#[c]⟩ : ByteArray).data.toList = [c] := rfl
  have e2 : Lib.countB s ⟨#[c]⟩ = Lib.count s.data.toList [c] := rfl
  rw [e1] at h
  rw [← e2, ← h, List.map_map]
  refine List.map_congr_left fun a _ => ?_
  simp only [Function.comp, strV, mk_eta]
theorem splitB_count (s : ByteArray) (c : UInt8) : Lib.countB s ⟨#[c]⟩ + 1 = (splitW c s.data.toList).length := by
  have h1 := Lib.splitB_all ⟨#[c]⟩ (Nat.le_refl 1) 0 _ s rfl
  have h2 := congrArg List.length (splitB_texts s c)
  rw [List.length_map, List.length_map, h1] at h2
  exact h2
theorem madeTexts (w : World) (ss : List (List UInt8)) (h : ss.length ≤ maxLen) : OwnS (w.alloc (.cells (ss.map strV).toArray 9)) w.heap.size (w.heap.size + 1) (some ⟨w.heap.size, 0, none⟩) ss.length ss.length ss :=
  ⟨⟨by simp, .inr ⟨w.heap.size, ss.length, (ss.map strV).toArray, rfl, Nat.le_refl _, heap_alloc_new w _, Nat.le_refl _, h, by simp, by rw [Nat.mul_one]; exact List.take_of_length_le (by simp)⟩⟩, fun a ha => by injection ha with ha; subst ha; exact Nat.lt_succ_self _⟩

/-- What has been made new: the pieces of a text. -/
def NewPieces (w : World) (ss : List (List UInt8)) (e : Ending) (w' : World) : Prop :=
  ∃ p n c, e = .returned (.slice p n c) ∧ OwnS w' w.heap.size w'.heap.size p n c ss ∧ Below w.heap.size w w'

theorem implSplit_any (l : List UInt8) (z : Int) (w : World) (hl : l.length ≤ 1048576) (z0 : 0 ≤ z) (z1 : z ≤ 255) (hm : MaxW w) :
    Calls Tryz.prog 48 #[.string ⟨l.toArray⟩, .int .u8 z] w (NewPieces w (splitW (byteD z) l)) := by
  have hsz : (⟨l.toArray⟩ : ByteArray).size = l.length := by simp [ByteArray.size]
  have hcv := conv1 z z0 z1 w
  have hb0 := boxed w (.cells #[.int .u8 z] 5)
  have hsW := sizeNew (Below.refl _ w) (.cells #[.int .u8 z] 5)
  obtain ⟨m, hmm⟩ := hm.below hb0
  have hlen := splitA_length (byteD z) l []
  have con := Tryz.strings_Split ⟨l.toArray⟩ ⟨#[byteD z]⟩ m (w.alloc (.cells #[.int .u8 z] 5)) (by rw [hsz]; omega) hmm (Nat.le_refl 1)
  rw [splitB_texts, splitB_count, show (⟨l.toArray⟩ : ByteArray).data.toList = l by simp] at con
  have Con := Lib.hid con
  clear con hmm hsz
  go_enter Tryz.func48, Tryz.ntmps48
  go_wp2_with fail
  refine Con.out.mono ?_
  rintro e w1 ⟨rfl, rfl⟩
  generalize w.alloc (.cells #[.int .u8 z] 5) = W at *
  have ho := madeTexts W (splitW (byteD z) l) (by unfold maxLen splitW; omega)
  have hb1 := boxed W (.cells ((splitW (byteD z) l).map strV).toArray 9)
  have hT := Below.step hb0 hb1
  generalize splitW (byteD z) l = ss at *
  generalize W.alloc (.cells (ss.map strV).toArray 9) = V at *
  go_wp2_with fail
  go_ret
  exact ⟨_, _, _, rfl, OwnS.widen (OwnV.up ho) hsW (Nat.le_refl _), hT⟩

def SplitInv (c : UInt8) (l : List UInt8) (out : List (List UInt8)) (f k : Nat) : Prop :=
  if k ≤ l.length then f ≤ k ∧ splitW c l = out ++ splitA c ((l.take k).drop f) (l.drop k) else splitW c l = out
theorem SplitInv.cut {c : UInt8} {l : List UInt8} {out : List (List UInt8)} {f k : Nat} (h : SplitInv c l out f k) (hk : k < l.length) (hb : l[k] = c) : SplitInv c l (out ++ [(l.take k).drop f]) (k + 1) (k + 1) := by
  unfold SplitInv at h ⊢
  rw [if_pos (by omega)] at h ⊢
  refine ⟨Nat.le_refl _, ?_⟩
  rw [h.2, List.drop_eq_getElem_cons hk, splitA, if_pos hb, List.append_assoc]
  congr 1
  simp
theorem SplitInv.last {c : UInt8} {l : List UInt8} {out : List (List UInt8)} {f : Nat} (h : SplitInv c l out f l.length) : SplitInv c l (out ++ [(l.take l.length).drop f]) (l.length + 1) (l.length + 1) := by
  unfold SplitInv at h ⊢
  rw [if_pos (Nat.le_refl _)] at h
  rw [if_neg (by omega), h.2, List.drop_length]
  rfl
theorem SplitInv.on {c : UInt8} {l : List UInt8} {out : List (List UInt8)} {f k : Nat} (h : SplitInv c l out f k) (hk : k < l.length) (hb : l[k] ≠ c) : SplitInv c l out f (k + 1) := by
  unfold SplitInv at h ⊢
  rw [if_pos (by omega)] at h ⊢
  refine ⟨by omega, ?_⟩
  rw [h.2, List.drop_eq_getElem_cons hk, splitA, if_neg hb]
  congr 2
  rw [List.take_succ_eq_append_getElem hk, List.drop_append_of_le_length (by rw [List.length_take]; omega)]
theorem SplitInv.le {c : UInt8} {l : List UInt8} {out : List (List UInt8)} {f k : Nat} (h : SplitInv c l out f k) (hk : k ≤ l.length) : f ≤ k := by
  unfold SplitInv at h
  rw [if_pos hk] at h
  exact h.1
theorem SplitInv.done {c : UInt8} {l : List UInt8} {out : List (List UInt8)} {f k : Nat} (h : SplitInv c l out f k) (hk : l.length < k) : splitW c l = out := by
  unfold SplitInv at h
  rwa [if_neg (by omega)] at h

set_option maxHeartbeats 1000000 in
theorem specSplit_any (S : ByteArray) (l : List UInt8) (z : Int) (w : World) (hS : S.data.toList = l) (hl : l.length ≤ 1048576) (z0 : 0 ≤ z) (z1 : z ≤ 255) :
    Calls Tryz.prog 51 #[.string S, .int .u8 z] w (NewPieces w (splitW (byteD z) l)) := by
  have HS := Lib.hid hS
  have hsz : S.size = l.length := by rw [← hS, Array.length_toList]; rfl
  have HSZ := Lib.hid hsz
  have hs1 : S.size ≤ 1048576 := by omega
  clear hS hsz hl
  go_enter Tryz.func51, Tryz.ntmps51
  go_wp2
  go_loopw [5, 6, 7] (fun v f i wr => ∃ (k : Nat) (t : Nat) (p' : Option Addr) (n' c' : Nat) (out : List (List UInt8)), k ≤ S.size + 1 ∧ i = .int .i64 k ∧ f = .int .i64 t ∧ v = .slice p' n' c' ∧ n' ≤ k ∧ OwnS wr w.heap.size wr.heap.size p' n' c' out ∧ Hid (SplitInv (byteD z) l out t k) ∧ Below w.heap.size w wr) (fun _ _ i _ => S.size + 1 - (intOf i).toNat)
  case atStart => exact ⟨0, 0, _, _, _, [], by omega, rfl, rfl, rfl, Nat.le_refl _, OwnV.up (OwnV.emptyV w _), Lib.hid (by unfold SplitInv; rw [if_pos (Nat.zero_le _)]; exact ⟨Nat.le_refl _, rfl⟩), (Below.refl _ _).alloc (Nat.le_refl _) _⟩
  case round =>
    obtain ⟨k, t, p', n', c', out, hk, rfl, rfl, rfl, hn', hown, hinv, hb⟩ := hrel
    by_cases hlt : k < S.size
    · have hkl : k < l.length := by rw [← HSZ.out]; exact hlt
      have htk := hinv.out.le (Nat.le_of_lt hkl)
      have hb1 : l[k] = S[k] := by
        have := HS.out; subst this; rfl
      have Hb1 := Lib.hid hb1
      have hne : ((k : Int) == (S.size : Int)) = false := by simp; omega
      clear hb1
      by_cases hc : (S[k].toNat : Int) = z
      · have hcb : l[k] = byteD z := by rw [Hb1.out, byteD, ← hc]; simp
        have hinv2 := Lib.hid (hinv.out.cut hkl hcb)
        have hpc : (S.extract t k).data.toList = (l.take k).drop t := by rw [Lib.extract_data, HS.out, List.drop_take]
        have Hpc := Lib.hid hpc
        clear hcb hpc
        have hcq : ((S[k].toNat : Int) == z) = true := by simpa using hc
        clear hc
        go_wp2_with (at_builtin; refine append_str rfl _ _ rfl _ w.heap.size _ _ _ _ _ rfl (OwnV.alloc hown _) wr.heap.size (S.extract t k).data.toList rfl ((cellNew _ _ _).trans (by rw [mk_eta])) (by omega) (sizeNew hb _) ?_; intro p2 c2 w2 hown2 hg2)
        have hb2 := hg2.below (sizeNew hb _) fun a ha => (OwnV.lt hown a ha).1
        go_roundw
        case rel =>
          rw [Hpc.out] at hown2
          exact ⟨k + 1, k + 1, _, _, _, _, by omega, by go_num, by go_num, rfl, by omega, hown2, hinv2, Below.new hb _ hb2⟩
        case measure => simp [intOf]; omega
      · have hcb : l[k] ≠ byteD z := fun e => hc (by
          rw [Hb1.out] at e
          rw [e, byteD]; simp; omega)
        have hinv2 := Lib.hid (hinv.out.on hkl hcb)
        clear hcb
        have hcq : ((S[k].toNat : Int) == z) = false := by simpa using hc
        clear hc
        go_wp2
        go_roundw
        case rel => exact ⟨k + 1, t, _, _, _, _, by omega, by go_num, rfl, rfl, by omega, hown, hinv2, hb⟩
        case measure => simp [intOf]; omega
    · by_cases heq : k = S.size
      · have hke : k = l.length := by rw [← HSZ.out]; exact heq
        have htk := hinv.out.le (by omega)
        have hinv2 : Hid (SplitInv (byteD z) l (out ++ [(l.take k).drop t]) (k + 1) (k + 1)) := Lib.hid (by rw [hke]; exact SplitInv.last (by rw [← hke]; exact hinv.out))
        have hpc : (S.extract t k).data.toList = (l.take k).drop t := by rw [Lib.extract_data, HS.out, List.drop_take]
        have Hpc := Lib.hid hpc
        have hqe : ((k : Int) == (S.size : Int)) = true := by simp; omega
        have hkS : k ≤ S.size := by omega
        clear hpc heq hke
        go_wp2_with (at_builtin; refine append_str rfl _ _ rfl _ w.heap.size _ _ _ _ _ rfl (OwnV.alloc hown _) wr.heap.size (S.extract t k).data.toList rfl ((cellNew _ _ _).trans (by rw [mk_eta])) (by omega) (sizeNew hb _) ?_; intro p2 c2 w2 hown2 hg2)
        have hb2 := hg2.below (sizeNew hb _) fun a ha => (OwnV.lt hown a ha).1
        go_roundw
        case rel =>
          rw [Hpc.out] at hown2
          exact ⟨k + 1, k + 1, _, _, _, _, by omega, by go_num, by go_num, rfl, by omega, hown2, hinv2, Below.new hb _ hb2⟩
        case measure => simp [intOf]; omega
      · have hd := hinv.out.done (by rw [← HSZ.out]; omega)
        have Hd := Lib.hid hd
        clear hd
        go_wp2
        go_ret
        exact ⟨_, _, _, rfl, by rw [Hd.out]; exact hown, hb⟩

end Go.Proofs.YtpfklkmmhdpphadGreatDoor
