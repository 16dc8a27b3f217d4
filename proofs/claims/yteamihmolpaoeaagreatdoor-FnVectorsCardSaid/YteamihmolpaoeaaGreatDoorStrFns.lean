/- Contracts of the laws' helpers on lists of texts: size, copy, equality; the reference's Join. Conditions: sizes. -/
import Derived.Test.YteamihmolpaoeaaGreatDoorStr
import Derived.Test.YteamihmolpaoeaaGreatDoorMat
import Derived.Lib.Join
import Derived.Laws.IdiomStrings
import Derived.Laws.BytesArg
namespace Go.Proofs.YteamihmolpaoeaaGreatDoor
open Go.RowKit
set_option linter.unusedVariables false
set_option linter.unusedSimpArgs false
set_option maxRecDepth 100000

def totS (ss : List (List UInt8)) : Nat := (ss.map List.length).sum
theorem totS_take {ss : List (List UInt8)} {k : Nat} (h : k < ss.length) : totS (ss.take (k + 1)) = totS (ss.take k) + (nthS ss k).length := by
  rw [take_nthS h]; simp [totS]
theorem totS_le (ss : List (List UInt8)) (k : Nat) : totS (ss.take k) ≤ totS ss := by
  induction ss generalizing k with
  | nil => simp
  | cons x r ih =>
    cases k with
    | zero => simp [totS]
    | succ k =>
      have := ih k
      simp only [totS, List.take_succ_cons, List.map_cons, List.sum_cons] at *; omega
theorem nthS_le_tot {ss : List (List UInt8)} {k : Nat} (h : k < ss.length) : (nthS ss k).length ≤ totS ss := by
  have h1 := totS_take h
  have h2 := totS_le ss (k + 1)
  omega

theorem made_texts (n : Nat) : (madeCells (Value.string ByteArray.empty).cells (n * 1)).toList = (List.replicate n ([] : List UInt8)).map strV := by
  rw [show (Value.string ByteArray.empty).cells = #[Value.string ByteArray.empty] from rfl, toList_madeCells_one, Nat.mul_one, List.map_replicate]
  rfl

theorem neqS {a b : List UInt8} (h : a = b) : (!((⟨a.toArray⟩ : ByteArray).toList == (⟨b.toArray⟩ : ByteArray).toList)) = false := by rw [h]; simp
/-- string(b) of a row of bytes of the call's own. -/
theorem conv_bytes {w : World} {lo hi : Nat} {p : Option Addr} {n c : Nat} {l : List UInt8} (h : OwnB w lo hi p n c l) :
    (convert 22 9 (.slice p n c)).run Tryz.prog w = .ok (.string ⟨l.toArray⟩) w := by
  have hl : l.length = n := by have := OwnV.len h; simpa using this
  subst hl
  rcases OwnV.form1 h with ⟨rfl, h0, rfl⟩ | ⟨g, rfl, _⟩
  · obtain rfl : l = [] := List.length_eq_zero_iff.1 h0
    exact run_convert_bytes_nil w _ _ Tryz.underlying22 Tryz.underlying5 _ _ _ Tryz.underlying9
  · refine run_convert_bytes_back w _ _ _ _ c l Tryz.underlying22 Tryz.underlying5 Tryz.underlying9 fun j hj => ?_
    rw [Addr.add_lit, Nat.zero_add, (OwnV.cellAt h hj).2, List.getElem?_map, List.getElem?_eq_getElem hj]
    rfl

/-! ### The reference's Join -/
/-- The first k texts joined. -/
def joinTo (ss : List (List UInt8)) (by_ : List UInt8) : Nat → List UInt8
  | 0 => []
  | k + 1 => (if k = 0 then joinTo ss by_ k else joinTo ss by_ k ++ by_) ++ nthS ss k
theorem joinTo_eq (ss : List (List UInt8)) (sep : List UInt8) : ∀ k, k ≤ ss.length → joinTo ss sep k = Lib.join (ss.take k) sep
  | 0, _ => rfl
  | k + 1, h => by
    rw [joinTo, joinTo_eq ss sep k (by omega)]
    cases ss with
    | nil => simp at h
    | cons x r =>
      by_cases hk : k = 0
      · subst hk
        rw [if_pos rfl]
        simp [Lib.join_nil, Lib.join_one, nthS]
      · obtain ⟨j, rfl⟩ : ∃ j, k = j + 1 := ⟨k - 1, by omega⟩
        rw [if_neg hk, List.take_succ_cons, List.take_succ_cons, Lib.join_cons, Lib.join_cons]
        have hj : j < r.length := by simp at h; omega
        rw [Lib.joinTail_take_succ sep r j r[j] (List.getElem?_eq_getElem hj)]
        have e : nthS (x :: r) (j + 1) = r[j] := by rw [nthS_eq (by simp; omega)]; rfl
        rw [e]; simp
theorem joinTo_length (ss : List (List UInt8)) (sep : List UInt8) : ∀ k, k ≤ ss.length → (joinTo ss sep k).length ≤ totS (ss.take k) + k * sep.length
  | 0, _ => by simp [joinTo]
  | k + 1, h => by
    have ih := joinTo_length ss sep k (by omega)
    rw [joinTo, totS_take (by omega), Nat.succ_mul]
    split <;> simp only [List.length_append] <;> omega

theorem specJoin_any (p : Option Addr) (n c : Nat) (ss : List (List UInt8)) (sep : List UInt8) (w : World) (hx : Strs w p n ss) (hn : n ≤ 1048576) (ht : totS ss ≤ 33554432) (hs : sep.length ≤ 1048576) :
    Calls Tryz.prog 71 #[.slice p n c, .string ⟨sep.toArray⟩] w (NewText w (Lib.join ss sep)) := by
  have hl := Lib.hid hx.len
  have hlen : ∀ k, k ≤ n → (joinTo ss sep k).length ≤ 1200000000000 := fun k hk => by
    have h1 := joinTo_length ss sep k (by rw [hl.out]; exact hk)
    have h2 := totS_le ss k
    have h3 : k * sep.length ≤ 1048576 * 1048576 := Nat.mul_le_mul (by omega) hs
    omega
  have Hlen := Lib.hid hlen
  have Ht := Lib.hid ht
  clear hlen ht
  go_enter Tryz.func71, Tryz.ntmps71
  go_wp2
  go_loopw [5, 6] (fun v i wr => ∃ (k : Nat) (p' : Option Addr) (c' : Nat), k ≤ n ∧ i = .int .i64 k ∧ v = .slice p' (joinTo ss sep k).length c' ∧ OwnB wr w.heap.size wr.heap.size p' (joinTo ss sep k).length c' (joinTo ss sep k) ∧ Below w.heap.size w wr) (fun _ i _ => n - (intOf i).toNat)
  case atStart => exact ⟨0, _, _, Nat.zero_le _, rfl, rfl, OwnV.up (OwnV.emptyV w _), (Below.refl _ _).alloc (Nat.le_refl _) _⟩
  case round =>
    obtain ⟨k, p', c', hk, rfl, rfl, hown, hb⟩ := hrel
    by_cases hlt : k < n
    · obtain ⟨b, o, rfl, hc0⟩ := hx.cell k hlt
      have hc := (hb.cell (World.block_lt_of_cell? w _ hc0)).trans hc0
      have hL := Hlen.out k hk
      have hx1 : (nthS ss k).length ≤ 33554432 := Nat.le_trans (nthS_le_tot (by rw [hl.out]; exact hlt)) Ht.out
      have hnx : Hid (joinTo ss sep (k + 1) = (if k = 0 then joinTo ss sep k else joinTo ss sep k ++ sep) ++ nthS ss k) := Lib.hid rfl
      generalize joinTo ss sep k = J at *
      generalize nthS ss k = x at *
      by_cases h0 : k = 0
      · subst h0
        have E : Hid (joinTo ss sep 1 = J ++ x) := Lib.hid hnx.out
        clear hnx
        rw [Nat.add_zero] at hc
        go_wp2_with (at_builtin; refine append_bytes rfl _ _ rfl _ w.heap.size _ _ _ _ _ rfl hown x rfl (by omega) hb.size ?_; intro p2 c2 w2 hown2 hb2)
        go_roundw
        case rel => exact ⟨1, _, _, by omega, by go_num, by rw [E.out, List.length_append], by rw [E.out, List.length_append]; exact hown2, hb.trans hb2⟩
        case measure => simp [intOf]; omega
      · have hk1 : 0 < k := by omega
        have E : Hid (joinTo ss sep (k + 1) = J ++ sep ++ x) := Lib.hid (by have := hnx.out; rwa [if_neg h0] at this)
        clear hnx
        go_wp2_with (at_builtin; refine append_bytes rfl _ _ rfl _ w.heap.size _ _ _ _ _ rfl hown sep rfl (by omega) hb.size ?_; intro p2 c2 w2 hown2 hb2; refine Hid.out ?_)
        refine Lib.hid ?_
        have hb3 := hb.trans hb2
        have hc3 : w2.cell? ⟨b, o + k, none⟩ = some (.string ⟨x.toArray⟩) := (hb2.cell (by have := World.block_lt_of_cell? w _ hc0; exact this)).trans hc
        go_wp2_with (at_builtin; refine append_bytes rfl _ _ rfl _ w.heap.size _ _ _ _ _ rfl hown2 x rfl (by omega) hb3.size ?_; intro p4 c4 w4 hown4 hb4)
        go_roundw
        case rel => exact ⟨k + 1, _, _, by omega, by go_num, by rw [E.out, List.length_append, List.length_append], by rw [E.out, List.length_append, List.length_append]; exact hown4, hb3.trans hb4⟩
        case measure => simp [intOf]; omega
    · obtain rfl : k = n := by omega
      have he := joinTo_eq ss sep k (by rw [hl.out]; exact Nat.le_refl _)
      rw [List.take_of_length_le (by rw [hl.out]; exact Nat.le_refl _)] at he
      have He := Lib.hid he
      clear he
      have hcv := conv_bytes hown
      go_wp2
      go_ret
      exact ⟨ret_str He.out, hb⟩

end Go.Proofs.YteamihmolpaoeaaGreatDoor
