/- Texts joined: Num2 Str Cur OpenB StrFns StrLib LaidKit StrFns2. -/
import Derived.Test.YthdonnkekggbbaaGreatDoorJnVecFns2
import Derived.Lib.SplitLaws
import Derived.Test.YthdonnkekggbbaaGreatDoorJnBase
import Derived.Lib.AppendStr
import Derived.Lib.Join
import Derived.Laws.IdiomStrings
import Derived.Laws.BytesArg
import Derived.Test.YthdonnkekggbbaaGreatDoorShelf
import Derived.Lib.SmallJoins
import Derived.Lib.AtoiAllCases
import Derived.Test.YthdonnkekggbbaaGreatDoorRows
import Derived.ProofKit
import Derived.OpenShut
import Derived.ShutString
import Derived.Deep.DeepHandedRow
import Derived.Deep.DeepWitnessRowRef
import Derived.Deep.DeepLaidRun
import Derived.Lib.LaidTab
import Derived.Stop.LaidErr

/- Plain law of the reference's reader of numbers, and of texts cut at a byte. No program in sight. Conditions: none. -/
namespace Go.Proofs.YthdonnkekggbbaaGreatDoor
set_option linter.unusedVariables false
set_option linter.unusedSimpArgs false
set_option maxRecDepth 100000

/-- What stands behind the sign. -/
def tW (l : List UInt8) : List UInt8 := if l.head? = some 45 then l.tail else l
theorem tW_itoa (n : Int) : tW (Lib.itoa n) = Lib.decDigits n.natAbs := by
  by_cases h : n < 0
  · rw [itoa_neg h, tW, if_pos (by rfl)]; rfl
  · rw [itoa_pos h]
    obtain ⟨c, r, e, hc⟩ := decDigits_head n.toNat
    rw [tW, if_neg (by rw [e]; simpa using dig_ne hc)]
    congr 1; omega
theorem sval_abs (l : List UInt8) : (sval l).natAbs = dvf 0 (tW l) := by
  unfold sval tW
  split <;> omega
theorem pow_le_dig {n : Int} {k : Nat} (h : k < (Lib.decDigits n.natAbs).length) (hk : 1 ≤ k) : 10 ^ k ≤ n.natAbs := by
  by_cases h1 : n.natAbs < 10 ^ k
  · obtain ⟨j, rfl⟩ : ∃ j, k = j + 1 := ⟨k - 1, by omega⟩
    have := nDigits_le h1
    rw [decDigits_len] at h; omega
  · omega
theorem readW_len {most : Nat} {l : List UInt8} (hm : 1 ≤ most) (h : (tW l).length < 1 ∨ most < (tW l).length) : parseW ((10 ^ most : Nat) - 1) l = (0, false) := by
  refine parseW_no fun n hn h1 => ?_
  rw [← hn, tW_itoa] at h
  rcases h with h | h
  · have := List.length_eq_zero_iff.1 (show (Lib.decDigits n.natAbs).length = 0 by omega)
    exact decDigits_ne _ this
  · have := pow_le_dig h hm
    omega
theorem readW_bad {k : Int} {l : List UInt8} (h : ∃ c ∈ tW l, ¬ isDig c) : parseW k l = (0, false) := by
  refine parseW_no fun n hn h1 => ?_
  obtain ⟨c, hc, hd⟩ := h
  rw [← hn, tW_itoa] at hc
  exact hd (decDigits_dig _ c hc)
theorem readW_yes {most : Nat} {l : List UInt8} (h : Lib.itoa (sval l) = l) (hd : ∀ c ∈ tW l, isDig c) (hl : (tW l).length ≤ most) : parseW ((10 ^ most : Nat) - 1) l = (sval l, true) := by
  have h1 := dvf_lt (tW l) 0 hd
  rw [← sval_abs] at h1
  have h2 : 10 ^ (tW l).length ≤ 10 ^ most := Nat.pow_le_pow_right (by omega) hl
  exact parseW_yes h (by omega) (by omega)
theorem readW_no {k : Int} {l : List UInt8} (h : Lib.itoa (sval l) ≠ l) : parseW k l = (0, false) := by
  rw [parseW, if_neg fun ⟨h1, _⟩ => h h1]

/-- What both parsers of numbers that are not negative give. -/
def numW (l : List UInt8) : Int × Bool := if (parseW 999999 l).2 = true ∧ 0 ≤ (parseW 999999 l).1 then ((parseW 999999 l).1, true) else (0, false)
theorem numW_of_int (l : List UInt8) : numW l = if (parseW 999999999999 l).2 = true ∧ 0 ≤ (parseW 999999999999 l).1 ∧ (parseW 999999999999 l).1 ≤ 999999 then ((parseW 999999999999 l).1, true) else (0, false) := by
  rcases parseW_cases 999999 l with ⟨n, h1, h2, h3, h4⟩ | ⟨h1, h4⟩
  · have h5 := parseW_yes (k := 999999999999) h1 (by omega) (by omega)
    rw [numW, h4, h5]
    by_cases h : 0 ≤ n
    · rw [if_pos ⟨rfl, h⟩, if_pos ⟨rfl, h, h3⟩]
    · rw [if_neg fun ⟨_, h'⟩ => h h', if_neg fun ⟨_, h', _⟩ => h h']
  · rw [numW, h4, if_neg (by simp)]
    rcases parseW_cases 999999999999 l with ⟨n, k1, k2, k3, k4⟩ | ⟨k1, k4⟩
    · rw [k4, if_neg fun ⟨_, h2, h3⟩ => h1 n k1 ⟨by omega, h3⟩]
    · rw [k4, if_neg (by simp)]

/-! ### A text cut at each place of a byte -/
def splitA (c : UInt8) (cur : List UInt8) : List UInt8 → List (List UInt8)
  | [] => [cur]
  | b :: l => if b = c then cur :: splitA c [] l else splitA c (cur ++ [b]) l
def splitW (c : UInt8) (l : List UInt8) : List (List UInt8) := splitA c [] l

theorem index_cons_ne {b c : UInt8} (l : List UInt8) (h : b ≠ c) : Lib.index (b :: l) [c] = if Lib.index l [c] == -1 then -1 else Lib.index l [c] + 1 := by
  have hp : ([c] : List UInt8).isPrefixOf (b :: l) = false := by simp [List.isPrefixOf, Ne.symm h]
  rw [Lib.index, hp]; simp
theorem index_cons_eq (c : UInt8) (l : List UInt8) : Lib.index (c :: l) [c] = 0 := by
  rw [Lib.index]; simp [List.isPrefixOf]
theorem splitA_eq (c : UInt8) : ∀ (l cur : List UInt8), ∃ h t, Lib.splitK [c] 0 (Lib.count l [c]) l = h :: t ∧ splitA c cur l = (cur ++ h) :: t
  | [], cur => ⟨[], [], by rw [Lib.count_miss (by simp [Lib.index])]; rfl, by simp [splitA]⟩
  | b :: l, cur => by
    by_cases hb : b = c
    · subst hb
      obtain ⟨h, t, e1, e2⟩ := splitA_eq b l []
      refine ⟨[], h :: t, ?_, ?_⟩
      · rw [Lib.count_cons_eq, Nat.add_comm, Lib.splitK, index_cons_eq]
        simp [e1]
      · rw [splitA, if_pos rfl, e2]; simp
    · obtain ⟨h, t, e1, e2⟩ := splitA_eq c l (cur ++ [b])
      refine ⟨b :: h, t, ?_, ?_⟩
      · rw [Lib.count_cons_ne _ _ _ hb]
        cases hk : Lib.count l [c] with
        | zero =>
          rw [hk] at e1
          simp only [Lib.splitK, List.cons.injEq] at e1
          obtain ⟨rfl, rfl⟩ := e1
          rfl
        | succ k =>
          rw [hk] at e1
          have hne : Lib.index l [c] ≠ -1 := fun he => by
            rw [Lib.count_miss he] at hk; omega
          have hge := Lib.index_ge l [c]
          obtain ⟨j, hj⟩ : ∃ j : Nat, Lib.index l [c] = j := ⟨(Lib.index l [c]).toNat, by omega⟩
          have hix : Lib.index (b :: l) [c] = ((j + 1 : Nat) : Int) := by rw [index_cons_ne l hb, if_neg (by simpa using hne), hj]; omega
          rw [Lib.splitK, hj] at e1
          rw [Lib.splitK, hix]
          have hm : ¬ ((((j + 1 : Nat) : Int) == -1) = true) := by rw [beq_iff_eq]; omega
          have hm' : ¬ (((j : Nat) : Int) == -1) = true := by rw [beq_iff_eq]; omega
          rw [if_neg hm'] at e1
          rw [if_neg hm]
          simp only [Int.toNat_natCast, Nat.add_zero, List.length_singleton, List.take_succ_cons, List.drop_succ_cons, List.cons.injEq] at e1 ⊢
          exact ⟨⟨trivial, e1.1⟩, e1.2⟩
      · rw [splitA, if_neg hb, e2, List.append_assoc]; rfl
theorem split_eq (c : UInt8) (l : List UInt8) : Lib.splitK [c] 0 (Lib.count l [c]) l = splitW c l := by
  obtain ⟨h, t, e1, e2⟩ := splitA_eq c l []
  rw [e1, splitW, e2, List.nil_append]

theorem splitA_ne (c : UInt8) : ∀ (l cur : List UInt8), splitA c cur l ≠ []
  | [], cur => by simp [splitA]
  | b :: l, cur => by
    rw [splitA]; split
    · simp
    · exact splitA_ne c l _
theorem splitW_ne (c : UInt8) (l : List UInt8) : splitW c l ≠ [] := splitA_ne c l []
theorem splitA_length (c : UInt8) : ∀ (l cur : List UInt8), (splitA c cur l).length ≤ l.length + 1
  | [], cur => by simp [splitA]
  | b :: l, cur => by
    rw [splitA]; split
    · have := splitA_length c l []
      simp only [List.length_cons]; omega
    · have := splitA_length c l (cur ++ [b])
      simp only [List.length_cons]; omega
theorem splitA_sum (c : UInt8) : ∀ (l cur : List UInt8), ∀ x ∈ splitA c cur l, x.length ≤ cur.length + l.length
  | [], cur, x, h => by simp [splitA] at h; subst h; simp
  | b :: l, cur, x, h => by
    rw [splitA] at h; split at h
    · rcases List.mem_cons.1 h with rfl | h
      · omega
      · have := splitA_sum c l [] x h
        simp only [List.length_cons, List.length_nil] at *; omega
    · have := splitA_sum c l _ x h
      simp only [List.length_append, List.length_cons, List.length_nil] at *; omega

/-- Joining the pieces restores the text. -/
theorem splitA_join (c : UInt8) : ∀ (l cur : List UInt8), List.intercalate [c] (splitA c cur l) = cur ++ l
  | [], cur => by simp [splitA, List.intercalate]
  | b :: l, cur => by
    rw [splitA]; split
    · rename_i h
      subst h
      have ih := splitA_join b l []
      cases hs : splitA b [] l with
      | nil => exact absurd hs (splitA_ne b l [])
      | cons x r =>
        rw [hs] at ih
        rw [List.intercalate] at ih ⊢
        simp only [List.intersperse, List.flatten_cons] at ih ⊢
        cases r <;> simp_all [List.intersperse]
    · rw [splitA_join c l _]; simp
/-- A piece holds the byte nowhere. -/
theorem splitA_free (c : UInt8) : ∀ (l cur : List UInt8), c ∉ cur → ∀ x ∈ splitA c cur l, c ∉ x
  | [], cur, h, x, hx => by simp [splitA] at hx; subst hx; exact h
  | b :: l, cur, h, x, hx => by
    rw [splitA] at hx; split at hx
    · rcases List.mem_cons.1 hx with rfl | hx
      · exact h
      · exact splitA_free c l [] (by simp) x hx
    · rename_i hb
      exact splitA_free c l _ (by simp; exact ⟨h, fun e => hb e.symm⟩) x hx
theorem splitA_one (c : UInt8) : ∀ (l cur : List UInt8), c ∉ l → splitA c cur l = [cur ++ l]
  | [], cur, _ => by simp [splitA]
  | b :: l, cur, h => by
    rw [splitA, if_neg fun e => h (by simp [e]), splitA_one c l _ fun hc => h (List.mem_cons_of_mem _ hc)]; simp

end Go.Proofs.YthdonnkekggbbaaGreatDoor

/- Words for texts in memory: a slice of texts that is read, rows of texts and of bytes of the call's own. Conditions: none. -/
namespace Go.Proofs.YthdonnkekggbbaaGreatDoor
open Go.RowKit
set_option linter.unusedVariables false
set_option linter.unusedSimpArgs false
set_option maxRecDepth 100000

theorem ret_str {a b : List UInt8} (h : a = b) : Ending.returned (.string ⟨a.toArray⟩) = .returned (.string ⟨b.toArray⟩) := by rw [h]
def strV (l : List UInt8) : Value := .string ⟨l.toArray⟩
def nthS (ss : List (List UInt8)) (k : Nat) : List UInt8 := ss.getD k []
theorem nthS_eq {ss : List (List UInt8)} {k : Nat} (h : k < ss.length) : nthS ss k = ss[k] := by simp [nthS, List.getD, h]
theorem take_nthS {ss : List (List UInt8)} {k : Nat} (h : k < ss.length) : ss.take (k + 1) = ss.take k ++ [nthS ss k] := by
  rw [nthS_eq h]; exact List.take_succ_eq_append_getElem h
theorem nthS_ext {xs ys : List (List UInt8)} (h : xs.length = ys.length) (hk : ∀ k, k < xs.length → nthS xs k = nthS ys k) : xs = ys :=
  List.ext_getElem h fun i h1 h2 => by have := hk i h1; rwa [nthS_eq h1, nthS_eq h2] at this
theorem mk_inj {a b : List UInt8} (h : (⟨a.toArray⟩ : ByteArray) = ⟨b.toArray⟩) : a = b := by
  have := congrArg (fun x : ByteArray => x.data.toList) h
  simpa using this
theorem strV_inj {a b : List UInt8} (h : strV a = strV b) : a = b := by
  unfold strV at h
  injection h with h
  exact mk_inj h
theorem mk_eta (s : ByteArray) : (⟨s.data.toList.toArray⟩ : ByteArray) = s := by
  cases s; simp

/-- The slice (p, n) reads as the texts ss. -/
structure Strs (w : World) (p : Option Addr) (n : Nat) (ss : List (List UInt8)) : Prop where
  len : ss.length = n
  cell : ∀ k, k < n → ∃ b o, p = some ⟨b, o, none⟩ ∧ w.cell? ⟨b, o + k, none⟩ = some (.string ⟨(nthS ss k).toArray⟩)

theorem Strs.keep {w w' : World} {p : Option Addr} {n : Nat} {xs : List (List UInt8)} (h : Strs w p n xs)
    (hk : ∀ a : Addr, a.block < w.heap.size → w'.cell? a = w.cell? a) : Strs w' p n xs :=
  ⟨h.len, fun k hn => by
    obtain ⟨b, o, hp, hc⟩ := h.cell k hn
    exact ⟨b, o, hp, (hk _ (World.block_lt_of_cell? w _ hc)).trans hc⟩⟩
theorem Strs.below {w w' : World} {p : Option Addr} {n : Nat} {xs : List (List UInt8)} (h : Strs w p n xs) (hb : Below w.heap.size w w') : Strs w' p n xs :=
  h.keep fun _ ha => hb.cell ha
theorem Strs.drewN {w : World} {p : Option Addr} {n : Nat} {xs : List (List UInt8)} (h : Strs w p n xs) (q : Nat) : Strs (w.drewN q) p n xs := ⟨h.len, h.cell⟩
theorem Strs.drew {w : World} {p : Option Addr} {n : Nat} {xs : List (List UInt8)} (h : Strs w p n xs) : Strs w.drew p n xs := ⟨h.len, h.cell⟩
theorem Strs.nil (w : World) (p : Option Addr) : Strs w p 0 [] := ⟨rfl, fun _ h => absurd h (by omega)⟩

/-! ### Rows of the call's own whose elements take one cell -/
section
variable {w w' : World} {E : TypeId} {lo hi : Nat} {p : Option Addr} {n c : Nat} {vs : List Value}
theorem OwnV.form1 (h : OwnV w E 1 lo hi p n c vs) :
    (p = none ∧ n = 0 ∧ c = 0) ∨ ∃ g, p = some ⟨g, 0, none⟩ ∧ lo ≤ g ∧ g < hi ∧ g < w.heap.size ∧ n ≤ c ∧ c ≤ maxLen := by
  rcases h.row.2 with ⟨h0, hn⟩ | ⟨g', cap, cur, hv, hl, hg, hc, hm, _⟩
  · injection h0 with a b c
    exact .inl ⟨a, b, c⟩
  · injection hv with a b c
    subst c
    exact .inr ⟨g', a, hl, h.top _ a, (Array.getElem?_eq_some_iff.1 hg).1, hc, hm⟩
theorem OwnV.cellAt {g o : Nat} (h : OwnV w E 1 lo hi (some ⟨g, o, none⟩) n c vs) {k : Nat} (hk : k < n) : o = 0 ∧ w.cell? ⟨g, k, none⟩ = vs[k]? := by
  have hl := h.len
  rcases h.row.2 with ⟨h0, _⟩ | ⟨g', cap, cur, hv, _, hg, _, _, hs, ht⟩
  · cases h0
  · injection hv with hp _ _
    injection hp with hp
    injection hp with e1 e2
    subst e1; subst e2
    refine ⟨rfl, ?_⟩
    have h3 : (cur.toList.take (n * 1))[k]? = vs[k]? := by rw [ht]
    rw [List.getElem?_take, if_pos (by omega)] at h3
    rw [cell_of_row w g k cur E (0, 0) hg, ← h3]
    simp
theorem OwnV.frozenAt {g o : Nat} (h : OwnV w E 1 lo hi (some ⟨g, o, none⟩) n c vs) (k : Nat) : w.frozen? ⟨g, k, none⟩ = false := by
  rcases h.row.2 with ⟨h0, _⟩ | ⟨g', cap, cur, hv, _, hg, _⟩
  · cases h0
  · injection hv with hp _ _
    injection hp with hp
    injection hp with e1 _
    subst e1
    simp [World.frozen?, hg]
theorem OwnV.withinV {lo' hi' : Nat} (h : OwnV w E 1 lo hi p n c vs) (hw : Within lo' hi' w w') (hd : hi ≤ lo' ∨ hi' ≤ lo) : OwnV w' E 1 lo hi p n c vs := by
  refine ⟨⟨h.row.1, ?_⟩, h.top⟩
  rcases h.row.2 with h0 | ⟨g, cap, cur, hv, hl, hg, hr⟩
  · exact .inl h0
  · refine .inr ⟨g, cap, cur, hv, hl, ?_, hr⟩
    have hlt : g < hi := by
      injection hv with hp _ _
      exact h.top _ hp
    rw [hw.block g (Array.getElem?_eq_some_iff.1 hg).1 (by omega)]
    exact hg
theorem OwnV.belowV (h : OwnV w E 1 lo hi p n c vs) (hb : Below w.heap.size w w') : OwnV w' E 1 lo hi p n c vs :=
  h.withinV (lo' := hi) (hi' := hi) (Within.of_below hb) (.inl (Nat.le_refl _))
theorem OwnV.widenV {lo' hi' : Nat} (h : OwnV w E 1 lo hi p n c vs) (hl : lo' ≤ lo) (hh : hi ≤ hi') : OwnV w E 1 lo' hi' p n c vs := by
  refine ⟨⟨h.row.1, ?_⟩, fun a ha => Nat.lt_of_lt_of_le (h.top a ha) hh⟩
  rcases h.row.2 with h0 | ⟨g, cap, cur, hv, hl', hr⟩
  · exact .inl h0
  · exact .inr ⟨g, cap, cur, hv, Nat.le_trans hl hl', hr⟩
theorem OwnV.setV {g : Nat} (h : OwnV w E 1 lo hi (some ⟨g, 0, none⟩) n c vs) (k : Nat) (u : Value) : OwnV (w.setCell ⟨g, k, none⟩ u) E 1 lo hi (some ⟨g, 0, none⟩) n c (vs.set k u) :=
  ⟨(h.row.stored (g := g) (cap := c) k u).1, h.top⟩
theorem OwnV.drewV (z : Nat) (h : OwnV w E 1 lo hi p n c vs) : OwnV (w.drewN z) E 1 lo hi p n c vs := ⟨h.row, h.top⟩
end
theorem OwnV.emptyV (w : World) (E : TypeId) : OwnV (w.alloc (.cells #[] E)) E 1 w.heap.size (w.heap.size + 1) (some ⟨w.heap.size, 0, none⟩) 0 0 [] :=
  ⟨World.ownsRow_made w #[] 0 (Nat.le_refl _) (Nat.zero_le _) rfl, fun a ha => by injection ha with ha; subst ha; exact Nat.lt_succ_self _⟩

/-- A row of texts of the call's own. -/
def OwnS (w : World) (lo hi : Nat) (p : Option Addr) (n c : Nat) (ss : List (List UInt8)) : Prop := OwnV w 9 1 lo hi p n c (ss.map strV)
theorem OwnS.len {w : World} {lo hi : Nat} {p : Option Addr} {n c : Nat} {ss : List (List UInt8)} (h : OwnS w lo hi p n c ss) : ss.length = n := by
  have := OwnV.len h; simpa using this
theorem OwnS.rd {w : World} {lo hi : Nat} {p : Option Addr} {n c : Nat} {ss : List (List UInt8)} (h : OwnS w lo hi p n c ss) : Strs w p n ss := by
  refine ⟨h.len, fun k hk => ?_⟩
  rcases OwnV.form1 h with ⟨_, rfl, _⟩ | ⟨g, rfl, _⟩
  · omega
  · have h1 := (OwnV.cellAt h hk).2
    refine ⟨g, 0, rfl, ?_⟩
    rw [Nat.zero_add, h1, List.getElem?_map, List.getElem?_eq_getElem (by rw [h.len]; exact hk), nthS_eq (by rw [h.len]; exact hk)]
    rfl
theorem OwnS.small {w : World} {lo hi : Nat} {p : Option Addr} {n c : Nat} {ss : List (List UInt8)} (h : OwnS w lo hi p n c ss) : n ≤ 9223372036854775807 := by
  rcases OwnV.form1 h with ⟨_, rfl, _⟩ | ⟨g, _, _, _, _, hc, hm⟩
  · omega
  · unfold maxLen at hm; omega
theorem OwnS.below {w w' : World} {lo hi : Nat} {p : Option Addr} {n c : Nat} {ss : List (List UInt8)} (h : OwnS w lo hi p n c ss) (hb : Below w.heap.size w w') : OwnS w' lo hi p n c ss := OwnV.belowV h hb
theorem OwnS.within {w w' : World} {lo hi lo' hi' : Nat} {p : Option Addr} {n c : Nat} {ss : List (List UInt8)} (h : OwnS w lo hi p n c ss) (hw : Within lo' hi' w w') (hd : hi ≤ lo' ∨ hi' ≤ lo) : OwnS w' lo hi p n c ss := OwnV.withinV h hw hd
theorem OwnS.widen {w : World} {lo hi lo' hi' : Nat} {p : Option Addr} {n c : Nat} {ss : List (List UInt8)} (h : OwnS w lo hi p n c ss) (hl : lo' ≤ lo) (hh : hi ≤ hi') : OwnS w lo' hi' p n c ss := OwnV.widenV h hl hh
theorem OwnS.cell {w : World} {lo hi g o : Nat} {n c : Nat} {ss : List (List UInt8)} (h : OwnS w lo hi (some ⟨g, o, none⟩) n c ss) {k : Nat} (hk : k < n) : w.cell? ⟨g, k, none⟩ = some (.string ⟨(nthS ss k).toArray⟩) := by
  rw [(OwnV.cellAt h hk).2, List.getElem?_map, List.getElem?_eq_getElem (by rw [h.len]; exact hk), nthS_eq (by rw [h.len]; exact hk)]
  rfl
theorem OwnS.set {w : World} {lo hi g : Nat} {n c : Nat} {ss : List (List UInt8)} (h : OwnS w lo hi (some ⟨g, 0, none⟩) n c ss) (k : Nat) (u : List UInt8) :
    OwnS (w.setCell ⟨g, k, none⟩ (.string ⟨u.toArray⟩)) lo hi (some ⟨g, 0, none⟩) n c (ss.set k u) := by
  unfold OwnS
  rw [List.map_set]
  exact OwnV.setV h k _
/-- The first k of ys, then what zs has from k on. -/
def mixT (ys zs : List (List UInt8)) (k : Nat) : List (List UInt8) := ys.take k ++ zs.drop k
theorem mixT_zero (ys zs : List (List UInt8)) : mixT ys zs 0 = zs := by simp [mixT]
theorem mixT_all {ys zs : List (List UInt8)} {k : Nat} (h : ys.length ≤ k) (h' : zs.length ≤ k) : mixT ys zs k = ys := by
  simp [mixT, List.take_of_length_le h, List.drop_eq_nil_of_le h']
theorem mixT_set {ys zs : List (List UInt8)} {k : Nat} (h : k < ys.length) (h' : k < zs.length) : (mixT ys zs k).set k (nthS ys k) = mixT ys zs (k + 1) := by
  unfold mixT
  rw [take_nthS h, List.set_append_right _ _ (by simp; omega)]
  have e : k - (ys.take k).length = 0 := by simp; omega
  rw [e, List.drop_eq_getElem_cons h', List.set_cons_zero]
  simp

theorem Tryz.infoStr : (Tryz.prog.info? 9).map (fun i => (i.zero, i.size, i.bytes)) = some (some (.string ByteArray.empty), 1, 16) := by kernel_rfl
theorem Tryz.infoByte : (Tryz.prog.info? 5).map (fun i => (i.zero, i.size, i.bytes)) = some (some (.int .u8 0), 1, 1) := by kernel_rfl

/-- What has been made new: a row of texts. -/
def NewStrs (w : World) (n : Nat) (ss : List (List UInt8)) (e : Ending) (w' : World) : Prop :=
  ∃ p c, e = .returned (.slice p n c) ∧ OwnS w' w.heap.size w'.heap.size p n c ss ∧ Below w.heap.size w w'
/-- What has been made new: a text. -/
def NewText (w : World) (l : List UInt8) (e : Ending) (w' : World) : Prop := e = .returned (.string ⟨l.toArray⟩) ∧ Below w.heap.size w w'

theorem wp_append_str {o : Oper} {a : Act} {K : Act → World → Prop} {Q : Exit → Act → World → Prop} (s x : Operand)
    (ho : o.op = .call { callee := .builtin .append, args := #[s, x], argTypes := #[56, 56] }) (W : World) (lo hi : Nat) (p : Option Addr) (n c : Nat) (ss : List (List UInt8))
    (hs : a.eval s = .slice p n c) (hown : OwnS W lo hi p n c ss) (g : Nat) (u : List UInt8) (hx : a.eval x = .slice (some ⟨g, 0, none⟩) 1 1) (hc : W.cell? ⟨g, 0, none⟩ = some (.string ⟨u.toArray⟩))
    (hn : n ≤ 4000000000000) (hlo : lo ≤ W.heap.size)
    (h : ∀ p' c' W', OwnS W' lo W'.heap.size p' (n + 1) c' (ss ++ [u]) → Grow W W' p p' → K (a.put o.dst (.slice p' (n + 1) c')) W') :
    o.wp Tryz.prog a W K Q :=
  wp_appendV 9 56 1 16 (.string ByteArray.empty) Tryz.underlying56 Tryz.infoStr rfl (by decide) s x ho W lo hi p n c _ hs hown _ 1 1 [strV u] hx rfl
    (fun _ => ⟨_, rfl, fun j v hv => by match j, hv with | 0, hv => simp at hv; subst hv; simpa [Addr.add, strV] using hc⟩) (fun v hv => by simp at hv; subst hv; rfl) (by omega) (by unfold maxLen; omega) hlo
    fun p' c' W' h2 h3 => h p' c' W' (by unfold OwnS; rw [List.map_append]; exact h2) h3
theorem append_str {ops : Array Oper} {rest : List Oper} {o : Oper} {a : Act} {Q : Exit → Act → World → Prop} (hgd : o.guard = none) (s x : Operand)
    (ho : o.op = .call { callee := .builtin .append, args := #[s, x], argTypes := #[56, 56] }) (W : World) (lo hi : Nat) (p : Option Addr) (n c : Nat) (ss : List (List UInt8))
    (hs : a.eval s = .slice p n c) (hown : OwnS W lo hi p n c ss) (g : Nat) (u : List UInt8) (hx : a.eval x = .slice (some ⟨g, 0, none⟩) 1 1) (hc : W.cell? ⟨g, 0, none⟩ = some (.string ⟨u.toArray⟩))
    (hn : n ≤ 4000000000000) (hlo : lo ≤ W.heap.size)
    (h : ∀ p' c' W', OwnS W' lo W'.heap.size p' (n + 1) c' (ss ++ [u]) → Grow W W' p p' → wpList Tryz.prog ops Q rest (a.put o.dst (.slice p' (n + 1) c')) W') :
    wpList Tryz.prog ops Q (o :: rest) a W :=
  wpList_plain hgd fun _ hK => wp_append_str s x ho W lo hi p n c ss hs hown g u hx hc hn hlo fun p' c' W' h2 h3 => hK _ _ (h p' c' W' h2 h3)

/-- A row of bytes of the call's own. -/
def OwnB (w : World) (lo hi : Nat) (p : Option Addr) (n c : Nat) (l : List UInt8) : Prop := OwnV w 5 1 lo hi p n c (l.map fun b => Value.int .u8 b.toNat)
theorem append_bytes {ops : Array Oper} {rest : List Oper} {o : Oper} {a : Act} {Q : Exit → Act → World → Prop} (hgd : o.guard = none) (s x : Operand)
    (ho : o.op = .call { callee := .builtin .append, args := #[s, x], argTypes := #[22, 9] }) (W : World) (lo hi : Nat) (p : Option Addr) (n c : Nat) (l : List UInt8)
    (hs : a.eval s = .slice p n c) (hown : OwnB W lo hi p n c l) (u : List UInt8) (hx : a.eval x = .string ⟨u.toArray⟩)
    (hn : n + u.length ≤ 140737488355328) (hlo : lo ≤ W.heap.size)
    (h : ∀ p' c' W', OwnB W' lo W'.heap.size p' (n + u.length) c' (l ++ u) → Below lo W W' → wpList Tryz.prog ops Q rest (a.put o.dst (.slice p' (n + u.length) c')) W') :
    wpList Tryz.prog ops Q (o :: rest) a W := by
  obtain ⟨i0, hi0, hz0, hz1, hz2⟩ := info_parts Tryz.infoByte
  have hu : (⟨u.toArray⟩ : ByteArray).size = u.length := by simp [ByteArray.size]
  refine Lib.wpList_append_own_string W hgd s x _ _ ho lo 5 i0 Tryz.underlying22 Tryz.underlying9 hi0 hz0 hz1 hz2 _ n _ hs hown.row ⟨u.toArray⟩ hx (by rw [hu]; unfold maxLen; omega) (by rw [hu]; exact hn) hlo fun v' w' h1 h2 _ => ?_
  rw [hu] at h1
  have hcs : (l.map fun b => Value.int .u8 b.toNat) ++ Lib.strCells ⟨u.toArray⟩ = (l ++ u).map fun b => Value.int .u8 b.toNat := by
    rw [List.map_append]; rfl
  rw [hcs] at h1
  have hb : Below lo W w' := (Below.refl _ _).grown h2 hlo fun k hk => (hown.row.lt k hk).1
  rcases h1.2 with ⟨hv, hn0⟩ | ⟨g, cap, cur, hv, _⟩
  · subst hv
    have := h none 0 w'
    rw [hn0] at this h1
    exact this ⟨h1, fun a ha => by cases ha⟩ hb
  · subst hv
    exact h _ _ w' ⟨h1, fun a ha => (h1.lt a.block (by rw [ha]; rfl)).2⟩ hb

end Go.Proofs.YthdonnkekggbbaaGreatDoor

/- The reference's draws: a cursor over bytes, numbers below a bound, one of a list. Conditions: sizes. -/
namespace Go.Proofs.YthdonnkekggbbaaGreatDoor
open Go.RowKit
set_option linter.unusedVariables false
set_option linter.unusedSimpArgs false
set_option maxRecDepth 100000

/-- Block b is the three cells v0, v1, v2. -/
def Box3 (w : World) (b : Nat) (v0 v1 v2 : Value) (T : TypeId) : Prop := w.heap[b]? = some (.cells #[v0, v1, v2] T (0, 0))
section
variable {w w' : World} {b : Nat} {v0 v1 v2 : Value} {T : TypeId}
theorem Box3.lt (h : Box3 w b v0 v1 v2 T) : b < w.heap.size := (Array.getElem?_eq_some_iff.1 h).1
theorem Box3.c0 (h : Box3 w b v0 v1 v2 T) : w.cell? ⟨b, 0, none⟩ = some v0 := by rw [cell_of_row w b 0 _ T (0, 0) h]; rfl
theorem Box3.c1 (h : Box3 w b v0 v1 v2 T) : w.cell? ⟨b, 1, none⟩ = some v1 := by rw [cell_of_row w b 1 _ T (0, 0) h]; rfl
theorem Box3.c2 (h : Box3 w b v0 v1 v2 T) : w.cell? ⟨b, 2, none⟩ = some v2 := by rw [cell_of_row w b 2 _ T (0, 0) h]; rfl
theorem Box3.fr (h : Box3 w b v0 v1 v2 T) (k : Nat) : w.frozen? ⟨b, k, none⟩ = false := by unfold Box3 at h; simp [World.frozen?, h]
theorem Box3.new (w : World) (v0 v1 v2 : Value) (T : TypeId) : Box3 (w.alloc (.cells #[v0, v1, v2] T)) w.heap.size v0 v1 v2 T := heap_alloc_new w _
theorem Box3.below (h : Box3 w b v0 v1 v2 T) (hb : Below w.heap.size w w') : Box3 w' b v0 v1 v2 T := (hb.block b h.lt).trans h
theorem Box3.set1 (h : Box3 w b v0 v1 v2 T) (u : Value) : Box3 (w.setCell ⟨b, 1, none⟩ u) b v0 u v2 T := by
  have hlt := h.lt
  have h' : w.heap[b] = .cells #[v0, v1, v2] T (0, 0) := by simpa [Box3, Array.getElem?_eq_getElem hlt] using h
  show (w.heap.modify b _)[b]? = _
  rw [Array.getElem?_eq_getElem (by simpa using hlt), Array.getElem_modify_self, h']
  rfl
theorem Box3.set2 (h : Box3 w b v0 v1 v2 T) (u : Value) : Box3 (w.setCell ⟨b, 2, none⟩ u) b v0 v1 u T := by
  have hlt := h.lt
  have h' : w.heap[b] = .cells #[v0, v1, v2] T (0, 0) := by simpa [Box3, Array.getElem?_eq_getElem hlt] using h
  show (w.heap.modify b _)[b]? = _
  rw [Array.getElem?_eq_getElem (by simpa using hlt), Array.getElem_modify_self, h']
  rfl
end

/-- The slice (p, n) reads as bytes. -/
structure BytesZ (w : World) (p : Option Addr) (n : Nat) (xs : List Int) : Prop where
  len : xs.length = n
  cell : ∀ k, k < n → ∃ b o, p = some ⟨b, o, none⟩ ∧ w.cell? ⟨b, o + k, none⟩ = some (.int .u8 (nth xs k)) ∧ 0 ≤ nth xs k ∧ nth xs k ≤ 255
theorem BytesZ.below {w w' : World} {p : Option Addr} {n : Nat} {xs : List Int} (h : BytesZ w p n xs) (hb : Below w.heap.size w w') : BytesZ w' p n xs :=
  ⟨h.len, fun k hk => by
    obtain ⟨b, o, hp, hc, h0, h1⟩ := h.cell k hk
    exact ⟨b, o, hp, (hb.cell (World.block_lt_of_cell? w _ hc)).trans hc, h0, h1⟩⟩

/-- A cursor over what came in. -/
structure Cur (w : World) (g : Nat) (p : Option Addr) (n c : Nat) (xs : List Int) : Prop where
  box : ∃ i h : Int, Box3 w g (.slice p n c) (.int .i64 i) (.int .i64 h) 69 ∧ 0 ≤ i ∧ i ≤ n
  bytes : BytesZ w p n xs
  far : ∀ a, p = some a → 0 < n → a.block < g
theorem Cur.lt {w : World} {g : Nat} {p : Option Addr} {n c : Nat} {xs : List Int} (h : Cur w g p n c xs) : g < w.heap.size := by
  obtain ⟨_, _, h, _⟩ := h.box
  exact h.lt
theorem Cur.below {w w' : World} {g : Nat} {p : Option Addr} {n c : Nat} {xs : List Int} (h : Cur w g p n c xs) (hb : Below w.heap.size w w') : Cur w' g p n c xs := by
  obtain ⟨i, k, h1, h2⟩ := h.box
  exact ⟨⟨i, k, h1.below hb, h2⟩, h.bytes.below hb, h.far⟩
/-- What a draw does: the cursor's block alone is written. -/
def Drawn1 (w : World) (g : Nat) (p : Option Addr) (n c : Nat) (xs : List Int) (w' : World) : Prop := Cur w' g p n c xs ∧ Within g (g + 1) w w'
theorem BytesZ.within {w w' : World} {p : Option Addr} {n g : Nat} {xs : List Int} (h : BytesZ w p n xs) (hw : Within g (g + 1) w w') (hf : ∀ a, p = some a → 0 < n → a.block < g) : BytesZ w' p n xs :=
  ⟨h.len, fun k hk => by
    obtain ⟨b, o, hp, hc, h0, h1⟩ := h.cell k hk
    have := hf _ hp (by omega)
    refine ⟨b, o, hp, ?_, h0, h1⟩
    exact (World.cell?_of_block (hw.block b (World.block_lt_of_cell? w _ hc) (.inl this))).trans hc⟩

/-- A mask keeps a number within it. -/
theorem and_mask (x : Int) (m : Nat) (hm : m < 9223372036854775808) : 0 ≤ bits .and .i64 x m ∧ bits .and .i64 x m ≤ m := by
  have h1 : (BitVec.ofInt 64 (m : Int)).toNat = m := by
    rw [BitVec.ofInt_natCast, BitVec.toNat_ofNat]; exact Nat.mod_eq_of_lt (by omega)
  have h2 : ((BitVec.ofInt 64 x) &&& (BitVec.ofInt 64 (m : Int))).toNat ≤ m := by
    rw [BitVec.toNat_and, h1]; exact Nat.and_le_right
  have h3 : bits .and .i64 x m = wrap64 (((BitVec.ofInt 64 x) &&& (BitVec.ofInt 64 (m : Int))).toNat : Int) := by rw [← wrapEq]; rfl
  rw [h3, wrap64_id (by omega) (by omega)]
  omega

set_option maxHeartbeats 1000000 in
theorem l1New_any (p : Option Addr) (n c : Nat) (xs : List Int) (w : World) (hn : n ≤ 1048576) (hx : BytesZ w p n xs) :
    Calls Tryz.prog 29 #[.slice p n c] w fun e w' => ∃ g, e = .returned (.pointer (some ⟨g, 0, none⟩)) ∧ w.heap.size ≤ g ∧ Cur w' g p n c xs ∧ Below w.heap.size w w' := by
  go_enter Tryz.func29, Tryz.ntmps29
  go_wp2_with fail
  go_loopw [3, 4] (fun v i wr => ∃ (k : Nat) (h : Int), k ≤ n ∧ i = .int .i64 k ∧ v = .int .i64 h ∧ wr = w) (fun _ i _ => n - (intOf i).toNat)
  case atStart => exact ⟨0, _, Nat.zero_le _, rfl, rfl, rfl⟩
  case round =>
    obtain ⟨k, h, hk, rfl, rfl, rfl⟩ := hrel
    by_cases hlt : k < n
    · have hd1 : decide ((k : Int) < (n : Int)) = true := by simp; omega
      by_cases hl2 : k < 4000
      · have hd2 : decide ((k : Int) < 4000) = true := by simp; omega
        obtain ⟨b, o, rfl, hc, hb0, hb1⟩ := hx.cell k hlt
        have hz : (0 : Int) ≤ (k : Int) := by omega
        generalize nth xs k = u at *
        go_wp2_with fail
        go_roundw
        case rel => exact ⟨k + 1, _, by omega, by go_num, rfl, trivial⟩
        case measure => simp [intOf]; omega
      · have hd2 : decide ((k : Int) < 4000) = false := by simp; omega
        go_wp2_with fail
        go_ret
        exact ⟨_, rfl, Nat.le_refl _, ⟨⟨0, h, Box3.new _ _ _ _ _, by omega, by omega⟩, hx.below (boxed _ _), fun a ha h0 => by
          obtain ⟨b, o, hp, hc, _⟩ := hx.cell 0 h0
          rw [hp] at ha; injection ha with ha; subst ha
          exact World.block_lt_of_cell? _ _ hc⟩, boxed _ _⟩
    · have hd1 : decide ((k : Int) < (n : Int)) = false := by simp; omega
      go_wp2_with fail
      go_ret
      exact ⟨_, rfl, Nat.le_refl _, ⟨⟨0, h, Box3.new _ _ _ _ _, by omega, by omega⟩, hx.below (boxed _ _), fun a ha h0 => by
        obtain ⟨b, o, hp, hc, _⟩ := hx.cell 0 h0
        rw [hp] at ha; injection ha with ha; subst ha
        exact World.block_lt_of_cell? _ _ hc⟩, boxed _ _⟩

set_option maxHeartbeats 1000000 in
theorem l1Byte_any (g : Nat) (p : Option Addr) (n c : Nat) (xs : List Int) (w : World) (hn : n ≤ 1048576) (hx : Cur w g p n c xs) :
    Calls Tryz.prog 70 #[.pointer (some ⟨g, 0, none⟩)] w fun e w' => ∃ x : Int, e = .returned (.int .i64 x) ∧ 0 ≤ x ∧ x ≤ 255 ∧ Drawn1 w g p n c xs w' := by
  obtain ⟨i, h, hbx, hi0, hin⟩ := hx.box
  have c2 := hbx.c2
  have f2 := hbx.fr 2
  go_enter Tryz.func70, Tryz.ntmps70
  go_upto_region 2 with fail
  generalize wrap64 (wrap64 (h * 6364136223846793005) + 1442695040888963407) = h2 at *
  have hb2 := hbx.set2 (.int .i64 h2)
  have hw2 : Within g (g + 1) w (w.setCell ⟨g, 2, none⟩ (.int .i64 h2)) := (Within.refl g (g + 1) w).setCell (p := ⟨g, 2, none⟩) (Nat.le_refl _) (Nat.lt_succ_self _) _
  clear c2 f2
  generalize w.setCell ⟨g, 2, none⟩ (.int .i64 h2) = W1 at *
  have c0 := hb2.c0
  have c1 := hb2.c1
  have c2 := hb2.c2
  go_quiet (fail)
  have hm1 := and_mask (bits .xor .i64 (h2 / 8589934592) (h2 / 35184372088832)) 255 (by omega)
  generalize bits .xor .i64 (h2 / 8589934592) (h2 / 35184372088832) = y1 at *
  rw [show ((255 : Nat) : Int) = 255 from rfl] at hm1
  generalize bits .and .i64 y1 255 = x1 at *
  have hb3 : Box3 (W1.drewN nq) g (.slice p n c) (.int .i64 i) (.int .i64 h2) 69 := hb2
  have hw3 : Within g (g + 1) w (W1.drewN nq) := hw2.drewN nq
  clear c0 c1 c2 hb2 hw2
  generalize W1.drewN nq = W2 at *
  have c0 := hb3.c0
  have c1 := hb3.c1
  by_cases hlt : i < (n : Int)
  · have hd1 : decide (i < (n : Int)) = true := by simpa using hlt
    obtain ⟨k, rfl⟩ : ∃ k : Nat, i = (k : Int) := ⟨i.toNat, by omega⟩
    have hkn : k < n := by omega
    obtain ⟨b, o, rfl, hc, hu0, hu1⟩ := (hx.bytes.within hw3 hx.far).cell k hkn
    generalize nth xs k = u at *
    go_wp2_with fail
    go_quiet (fail)
    have hb4 : Box3 (W2.drewN nq) g (.slice (some ⟨b, o, none⟩) n c) (.int .i64 k) (.int .i64 h2) 69 := hb3
    have hw4 : Within g (g + 1) w (W2.drewN nq) := hw3.drewN nq
    have hc4 : (W2.drewN nq).cell? ⟨b, o + k, none⟩ = some (.int .u8 u) := hc
    clear c0 c1 hb3 hw3 hc
    generalize W2.drewN nq = W3 at *
    have c0 := hb4.c0
    have c1 := hb4.c1
    have hz : (0 : Int) ≤ (k : Int) := by omega
    have hm2 := and_mask (x1 + u) 255 (by omega)
    rw [show ((255 : Nat) : Int) = 255 from rfl] at hm2
    obtain ⟨x2, hx2⟩ : ∃ x2, bits .and .i64 (x1 + u) 255 = x2 := ⟨_, rfl⟩
    rw [hx2] at hm2
    go_wp2_with fail
    go_quiet (fail)
    have hb5 : Box3 (W3.drewN nq) g (.slice (some ⟨b, o, none⟩) n c) (.int .i64 k) (.int .i64 h2) 69 := hb4
    have hw5 : Within g (g + 1) w (W3.drewN nq) := hw4.drewN nq
    clear c0 c1 hb4 hw4 hc4
    generalize W3.drewN nq = W4 at *
    have c1 := hb5.c1
    have f1 := hb5.fr 1
    go_wp2_with fail
    go_ret
    exact ⟨x2, rfl, hm2.1, hm2.2, ⟨⟨(k : Int) + 1, h2, hb5.set1 _, by omega, by omega⟩, hx.bytes.within (hw5.setCell (p := ⟨g, 1, none⟩) (Nat.le_refl _) (Nat.lt_succ_self _) _) hx.far, hx.far⟩, hw5.setCell (p := ⟨g, 1, none⟩) (Nat.le_refl _) (Nat.lt_succ_self _) _⟩
  · have hd1 : decide (i < (n : Int)) = false := by simpa using hlt
    go_wp2_with fail
    go_quiet (fail)
    go_wp2_with fail
    go_ret
    exact ⟨x1, rfl, hm1.1, hm1.2, ⟨⟨i, h2, hb3, hi0, hin⟩, hx.bytes.within (hw3.drewN nq) hx.far, hx.far⟩, hw3.drewN nq⟩

theorem Drawn1.step {w w1 w2 : World} {g : Nat} {p : Option Addr} {n c : Nat} {xs : List Int} (h : Drawn1 w g p n c xs w1) (k : Drawn1 w1 g p n c xs w2) : Drawn1 w g p n c xs w2 := ⟨k.1, h.2.trans k.2⟩
theorem Drawn1.frame {w0 w w' : World} {g : Nat} {p : Option Addr} {n c : Nat} {xs : List Int} (h : Drawn1 w g p n c xs w') (hb : Below w0.heap.size w0 w) (hg : w0.heap.size ≤ g) : Below w0.heap.size w0 w' := Below.mark hb h.2 hg

theorem l1Below_any (g : Nat) (p : Option Addr) (n c : Nat) (xs : List Int) (m : Int) (w : World) (hn : n ≤ 1048576) (hx : Cur w g p n c xs) (hm1 : 1 ≤ m) (hm2 : m ≤ 2147483648) :
    Calls Tryz.prog 33 #[.pointer (some ⟨g, 0, none⟩), .int .i64 m] w fun e w' => ∃ x : Int, e = .returned (.int .i64 x) ∧ 0 ≤ x ∧ x < m ∧ Drawn1 w g p n c xs w' := by
  have hd0 : decide (m ≤ 0) = false := by simp; omega
  have hm0 : ¬ (m = 0) := by omega
  have hm0' : (m == 0) = false := by simpa using hm0
  have key : ∀ x : Int, 0 ≤ x → 0 ≤ x.tmod m ∧ x.tmod m < m := fun x h => ⟨Int.tmod_nonneg m h, Int.tmod_lt_of_pos x (by omega)⟩
  by_cases h : m ≤ 256
  · have hd1 : decide (m ≤ 256) = true := by simpa using h
    go_enter Tryz.func33, Tryz.ntmps33
    go_wp2_with fail
    refine (l1Byte_any _ _ _ _ _ _ hn hx).mono ?_
    rintro e w1 ⟨x, rfl, hx0, hx1, hD⟩
    have kx := key x hx0
    have hem : x % m = x.tmod m := (Int.tmod_eq_emod_of_nonneg hx0).symm
    have hwr : wrap64 (x.tmod m) = x.tmod m := wrap64_id (by omega) (by omega)
    generalize hR : x.tmod m = R at *
    go_wp2_with fail
    go_ret
    exact ⟨R, rfl, kx.1, kx.2, hD⟩
  · have hd1 : decide (m ≤ 256) = false := by simpa using h
    go_enter Tryz.func33, Tryz.ntmps33
    go_wp2_with fail
    refine (l1Byte_any _ _ _ _ _ _ hn hx).mono ?_
    rintro e w1 ⟨x, rfl, hx0, hx1, hD⟩
    go_wp2_with fail
    refine (l1Byte_any _ _ _ _ _ _ hn hD.1).mono ?_
    rintro e w2 ⟨y, rfl, hy0, hy1, hD2⟩
    replace hD := hD.step hD2
    go_wp2_with fail
    refine (l1Byte_any _ _ _ _ _ _ hn hD.1).mono ?_
    rintro e w3 ⟨z, rfl, hz0, hz1, hD3⟩
    replace hD := hD.step hD3
    go_wp2_with fail
    refine (l1Byte_any _ _ _ _ _ _ hn hD.1).mono ?_
    rintro e w4 ⟨u, rfl, hu0, hu1, hD4⟩
    replace hD := hD.step hD4
    have kx := key (x * 16777216 + y * 65536 + z * 256 + u) (by omega)
    have hem : (x * 16777216 + y * 65536 + z * 256 + u) % m = (x * 16777216 + y * 65536 + z * 256 + u).tmod m := (Int.tmod_eq_emod_of_nonneg (by omega)).symm
    have hwr : wrap64 ((x * 16777216 + y * 65536 + z * 256 + u).tmod m) = (x * 16777216 + y * 65536 + z * 256 + u).tmod m := wrap64_id (by omega) (by omega)
    go_wp2_with fail
    go_ret
    exact ⟨_, rfl, Int.emod_nonneg _ (by omega), Int.emod_lt_of_pos _ (by omega), hD⟩

theorem l1Once_any (g : Nat) (p : Option Addr) (n c : Nat) (xs : List Int) (m : Int) (w : World) (hn : n ≤ 1048576) (hx : Cur w g p n c xs) (hm1 : 1 ≤ m) (hm2 : m ≤ 2147483648) :
    Calls Tryz.prog 35 #[.pointer (some ⟨g, 0, none⟩), .int .i64 m] w fun e w' => ∃ t : Bool, e = .returned (.bool t) ∧ Drawn1 w g p n c xs w' := by
  go_enter Tryz.func35, Tryz.ntmps35
  go_wp2_with fail
  refine (l1Below_any _ _ _ _ _ _ _ hn hx hm1 hm2).mono ?_
  rintro e w1 ⟨x, rfl, hx0, hx1, hD⟩
  go_wp2_with fail
  go_ret
  exact ⟨_, rfl, hD⟩

theorem l1Pick_any (g b : Nat) (p : Option Addr) (n c m c2 : Nat) (xs : List Int) (ss : List (List UInt8)) (w : World) (hn : n ≤ 1048576) (hx : Cur w g p n c xs) (hm1 : 1 ≤ m) (hm2 : m ≤ 256)
    (hs : ∀ k, k < m → w.cell? ⟨b, k, none⟩ = some (.string ⟨(nthS ss k).toArray⟩)) (hb : b ≠ g) :
    Calls Tryz.prog 80 #[.pointer (some ⟨g, 0, none⟩), .slice (some ⟨b, 0, none⟩) m c2] w fun e w' => ∃ k, k < m ∧ e = .returned (.string ⟨(nthS ss k).toArray⟩) ∧ Drawn1 w g p n c xs w' := by
  go_enter Tryz.func80, Tryz.ntmps80
  go_wp2_with fail
  refine (l1Below_any _ _ _ _ _ _ _ hn hx (by omega) (by omega)).mono ?_
  rintro e w1 ⟨x, rfl, hx0, hx1, hD⟩
  obtain ⟨k, rfl⟩ : ∃ k : Nat, x = (k : Int) := ⟨x.toNat, by omega⟩
  have hk : k < m := by omega
  have hc := hs k hk
  have hc1 : w1.cell? ⟨b, k, none⟩ = some (.string ⟨(nthS ss k).toArray⟩) := (World.cell?_of_block (hD.2.block b (World.block_lt_of_cell? w _ hc) (by omega))).trans hc
  have HK : Hid (∃ j, j < m ∧ nthS ss j = nthS ss k) := ⟨k, hk, rfl⟩
  generalize nthS ss k = t at *
  go_wp2_with fail
  go_ret
  obtain ⟨j, hj, e⟩ := HK.out
  exact ⟨j, hj, ret_str e.symm, hD⟩

end Go.Proofs.YthdonnkekggbbaaGreatDoor

/- The argument of a law, opened: bytes that came in. Conditions: none. -/
namespace Go.Proofs.YthdonnkekggbbaaGreatDoor
open Go.ChangeShapes Go.WideShapes Go.ChangeAt Go.RowKit Go.Deep Go.Joins
set_option linter.unusedVariables false
set_option linter.unusedSimpArgs false
set_option maxRecDepth 100000

section
variable {H : Type} {enc : TypeId × Value → H} {W : World} {v : Value} {d : DataW H} {p : List MemPlace}
theorem bytes_of_cells {w : World} {a : Addr} {zs : List Int} {len : Nat} (hl : len ≤ zs.length) (hc : ∀ i, i < zs.length → w.cell? (a.add i) = some (.int .u8 (zs.getD i 0))) (hw : ∀ n ∈ zs, 0 ≤ n ∧ n ≤ 255) :
    BytesZ w (some a) len (zs.take len) := by
  refine ⟨by simp [Nat.min_eq_left hl], fun k hk => ?_⟩
  obtain ⟨b, o, spot⟩ := a
  have h0 := hc 0 (by omega)
  have hs : spot = none := by simpa [Addr.add] using World.cell?_spot h0
  subst hs
  have hk' := hc k (by omega)
  rw [Addr.add_lit] at hk'
  have e : nth (zs.take len) k = zs.getD k 0 := by
    unfold nth
    rw [List.getD_eq_getElem?_getD, List.getElem?_take, if_pos hk, List.getD_eq_getElem?_getD]
  have hm : zs.getD k 0 ∈ zs := by
    rw [List.getD_eq_getElem?_getD, List.getElem?_eq_getElem (by omega)]
    exact List.getElem_mem _
  have hb := hw _ hm
  exact ⟨b, o, rfl, by rw [e]; exact hk', by rw [e]; exact hb.1, by rw [e]; exact hb.2⟩
set_option maxRecDepth 100000 in
theorem openBytes {base : Nat} (hv : Value.okWide Tryz.prog W .any base 22 v) (h : DataW.Trod enc Tryz.prog W 0 (fun _ => true) true 22 v d p) :
    ∃ q n c xs, v = .slice q n c ∧ n ≤ 9223372036854775807 ∧ BytesZ W q n xs := by
  obtain ⟨q, n, c, rfl⟩ := okWide_slice Tryz.underlying22 hv
  obtain ⟨fuel, hf⟩ := h
  rcases open_ints Tryz.underlying22 Tryz.underlying5 (by kernel_rfl) hf with ⟨hcs, _⟩ | ⟨x, l, c', zs, hcs, _, hl, hm, hz, _, hcell, hwz⟩
  · simp [Value.cells] at hcs
    obtain ⟨rfl, rfl, rfl⟩ := hcs
    exact ⟨none, 0, 0, [], rfl, by omega, rfl, fun k hk => by omega⟩
  · simp [Value.cells] at hcs
    obtain ⟨rfl, rfl, rfl⟩ := hcs
    unfold maxLen at hm
    refine ⟨_, n, c, zs.take n, rfl, by omega, bytes_of_cells (by simp at hz; omega) hcell fun m hm2 => ?_⟩
    have wn := hwz m hm2
    simp only [Lit.wf, Bool.and_eq_true, decide_eq_true_eq] at wn
    have e1 : IntKind.u8.min = 0 := rfl
    have e2 : IntKind.u8.max = 255 := rfl
    rw [e1, e2] at wn
    exact wn
end

end Go.Proofs.YthdonnkekggbbaaGreatDoor

/- Contracts of the laws' helpers on lists of texts: size, copy, equality; the reference's Join. Conditions: sizes. -/
namespace Go.Proofs.YthdonnkekggbbaaGreatDoor
open Go.RowKit
set_option linter.unusedVariables false
set_option linter.unusedSimpArgs false
set_option maxRecDepth 100000

def totS (ss : List (List UInt8)) : Nat := (ss.map List.length).sum
theorem totS_take {ss : List (List UInt8)} {k : Nat} (h : k < ss.length) : totS (ss.take (k + 1)) = totS (ss.take k) + (nthS ss k).length := by
  rw [take_nthS h]; simp [totS]
theorem totS_le (ss : List (List UInt8)) (k : Nat) : totS (ss.take k) ≤ totS ss := by
  induction ss generalizing k with
  | nil => simp
  | cons x r ih =>
    cases k with
    | zero => simp [totS]
    | succ k =>
      have := ih k
      simp only [totS, List.take_succ_cons, List.map_cons, List.sum_cons] at *; omega
theorem nthS_le_tot {ss : List (List UInt8)} {k : Nat} (h : k < ss.length) : (nthS ss k).length ≤ totS ss := by
  have h1 := totS_take h
  have h2 := totS_le ss (k + 1)
  omega

theorem made_texts (n : Nat) : (madeCells (Value.string ByteArray.empty).cells (n * 1)).toList = (List.replicate n ([] : List UInt8)).map strV := by
  rw [show (Value.string ByteArray.empty).cells = #[Value.string ByteArray.empty] from rfl, toList_madeCells_one, Nat.mul_one, List.map_replicate]
  rfl

theorem neqS {a b : List UInt8} (h : a = b) : (!((⟨a.toArray⟩ : ByteArray).toList == (⟨b.toArray⟩ : ByteArray).toList)) = false := by rw [h]; simp
/-- string(b) of a row of bytes of the call's own. -/
theorem conv_bytes {w : World} {lo hi : Nat} {p : Option Addr} {n c : Nat} {l : List UInt8} (h : OwnB w lo hi p n c l) :
    (convert 22 9 (.slice p n c)).run Tryz.prog w = .ok (.string ⟨l.toArray⟩) w := by
  have hl : l.length = n := by have := OwnV.len h; simpa using this
  subst hl
  rcases OwnV.form1 h with ⟨rfl, h0, rfl⟩ | ⟨g, rfl, _⟩
  · obtain rfl : l = [] := List.length_eq_zero_iff.1 h0
    exact run_convert_bytes_nil w _ _ Tryz.underlying22 Tryz.underlying5 _ _ _ Tryz.underlying9
  · refine run_convert_bytes_back w _ _ _ _ c l Tryz.underlying22 Tryz.underlying5 Tryz.underlying9 fun j hj => ?_
    rw [Addr.add_lit, Nat.zero_add, (OwnV.cellAt h hj).2, List.getElem?_map, List.getElem?_eq_getElem hj]
    rfl

/-! ### The reference's Join -/
/-- The first k texts joined. -/
def joinTo (ss : List (List UInt8)) (by_ : List UInt8) : Nat → List UInt8
  | 0 => []
  | k + 1 => (if k = 0 then joinTo ss by_ k else joinTo ss by_ k ++ by_) ++ nthS ss k
theorem joinTo_eq (ss : List (List UInt8)) (sep : List UInt8) : ∀ k, k ≤ ss.length → joinTo ss sep k = Lib.join (ss.take k) sep
  | 0, _ => rfl
  | k + 1, h => by
    rw [joinTo, joinTo_eq ss sep k (by omega)]
    cases ss with
    | nil => simp at h
    | cons x r =>
      by_cases hk : k = 0
      · subst hk
        rw [if_pos rfl]
        simp [Lib.join_nil, Lib.join_one, nthS]
      · obtain ⟨j, rfl⟩ : ∃ j, k = j + 1 := ⟨k - 1, by omega⟩
        rw [if_neg hk, List.take_succ_cons, List.take_succ_cons, Lib.join_cons, Lib.join_cons]
        have hj : j < r.length := by simp at h; omega
        rw [Lib.joinTail_take_succ sep r j r[j] (List.getElem?_eq_getElem hj)]
        have e : nthS (x :: r) (j + 1) = r[j] := by rw [nthS_eq (by simp; omega)]; rfl
        rw [e]; simp
theorem joinTo_length (ss : List (List UInt8)) (sep : List UInt8) : ∀ k, k ≤ ss.length → (joinTo ss sep k).length ≤ totS (ss.take k) + k * sep.length
  | 0, _ => by simp [joinTo]
  | k + 1, h => by
    have ih := joinTo_length ss sep k (by omega)
    rw [joinTo, totS_take (by omega), Nat.succ_mul]
    split <;> simp only [List.length_append] <;> omega

theorem specJoin_any (p : Option Addr) (n c : Nat) (ss : List (List UInt8)) (sep : List UInt8) (w : World) (hx : Strs w p n ss) (hn : n ≤ 1048576) (ht : totS ss ≤ 33554432) (hs : sep.length ≤ 1048576) :
    Calls Tryz.prog 69 #[.slice p n c, .string ⟨sep.toArray⟩] w (NewText w (Lib.join ss sep)) := by
  have hl := Lib.hid hx.len
  have hlen : ∀ k, k ≤ n → (joinTo ss sep k).length ≤ 1200000000000 := fun k hk => by
    have h1 := joinTo_length ss sep k (by rw [hl.out]; exact hk)
    have h2 := totS_le ss k
    have h3 : k * sep.length ≤ 1048576 * 1048576 := Nat.mul_le_mul (by omega) hs
    omega
  have Hlen := Lib.hid hlen
  have Ht := Lib.hid ht
  clear hlen ht
  go_enter Tryz.func69, Tryz.ntmps69
  go_wp2
  go_loopw [5, 6] (fun v i wr => ∃ (k : Nat) (p' : Option Addr) (c' : Nat), k ≤ n ∧ i = .int .i64 k ∧ v = .slice p' (joinTo ss sep k).length c' ∧ OwnB wr w.heap.size wr.heap.size p' (joinTo ss sep k).length c' (joinTo ss sep k) ∧ Below w.heap.size w wr) (fun _ i _ => n - (intOf i).toNat)
  case atStart => exact ⟨0, _, _, Nat.zero_le _, rfl, rfl, OwnV.up (OwnV.emptyV w _), (Below.refl _ _).alloc (Nat.le_refl _) _⟩
  case round =>
    obtain ⟨k, p', c', hk, rfl, rfl, hown, hb⟩ := hrel
    by_cases hlt : k < n
    · obtain ⟨b, o, rfl, hc0⟩ := hx.cell k hlt
      have hc := (hb.cell (World.block_lt_of_cell? w _ hc0)).trans hc0
      have hL := Hlen.out k hk
      have hx1 : (nthS ss k).length ≤ 33554432 := Nat.le_trans (nthS_le_tot (by rw [hl.out]; exact hlt)) Ht.out
      have hnx : Hid (joinTo ss sep (k + 1) = (if k = 0 then joinTo ss sep k else joinTo ss sep k ++ sep) ++ nthS ss k) := Lib.hid rfl
      generalize joinTo ss sep k = J at *
      generalize nthS ss k = x at *
      by_cases h0 : k = 0
      · subst h0
        have E : Hid (joinTo ss sep 1 = J ++ x) := Lib.hid hnx.out
        clear hnx
        rw [Nat.add_zero] at hc
        go_wp2_with (at_builtin; refine append_bytes rfl _ _ rfl _ w.heap.size _ _ _ _ _ rfl hown x rfl (by omega) hb.size ?_; intro p2 c2 w2 hown2 hb2)
        go_roundw
        case rel => exact ⟨1, _, _, by omega, by go_num, by rw [E.out, List.length_append], by rw [E.out, List.length_append]; exact hown2, hb.trans hb2⟩
        case measure => simp [intOf]; omega
      · have hk1 : 0 < k := by omega
        have E : Hid (joinTo ss sep (k + 1) = J ++ sep ++ x) := Lib.hid (by have := hnx.out; rwa [if_neg h0] at this)
        clear hnx
        go_wp2_with (at_builtin; refine append_bytes rfl _ _ rfl _ w.heap.size _ _ _ _ _ rfl hown sep rfl (by omega) hb.size ?_; intro p2 c2 w2 hown2 hb2; refine Hid.out ?_)
        refine Lib.hid ?_
        have hb3 := hb.trans hb2
        have hc3 : w2.cell? ⟨b, o + k, none⟩ = some (.string ⟨x.toArray⟩) := (hb2.cell (by have := World.block_lt_of_cell? w _ hc0; exact this)).trans hc
        go_wp2_with (at_builtin; refine append_bytes rfl _ _ rfl _ w.heap.size _ _ _ _ _ rfl hown2 x rfl (by omega) hb3.size ?_; intro p4 c4 w4 hown4 hb4)
        go_roundw
        case rel => exact ⟨k + 1, _, _, by omega, by go_num, by rw [E.out, List.length_append, List.length_append], by rw [E.out, List.length_append, List.length_append]; exact hown4, hb3.trans hb4⟩
        case measure => simp [intOf]; omega
    · obtain rfl : k = n := by omega
      have he := joinTo_eq ss sep k (by rw [hl.out]; exact Nat.le_refl _)
      rw [List.take_of_length_le (by rw [hl.out]; exact Nat.le_refl _)] at he
      have He := Lib.hid he
      clear he
      have hcv := conv_bytes hown
      go_wp2
      go_ret
      exact ⟨ret_str He.out, hb⟩

end Go.Proofs.YthdonnkekggbbaaGreatDoor

/- Contracts of the program's functions on texts that call the library: FormatInt, ParseInt, SplitByte, Join. Conditions: the library's variables hold what their initialisers lay; sizes. -/
namespace Go.Proofs.YthdonnkekggbbaaGreatDoor
open Go.RowKit
set_option linter.unusedVariables false
set_option linter.unusedSimpArgs false
set_option maxRecDepth 100000

/-- The library's table of powers of ten. -/
def TabW (w : World) : Prop := Lib.TabIs Tryz.prog w "internal/strconv.uint64pow10" .u64 Lib.pow10Tab
/-- The library's two errors. -/
def ErrW (w : World) : Prop := (∃ tp q, w.var? Tryz.prog "strconv.ErrSyntax" = some #[.iface tp q]) ∧ ∃ tp q, w.var? Tryz.prog "strconv.ErrRange" = some #[.iface tp q]
/-- A number of the library's. -/
def MaxW (w : World) : Prop := ∃ m, w.cell? ⟨0, 0, none⟩ = some (.int .i64 m)
theorem Tryz.gTab : Tryz.prog.globalNamed "internal/strconv.uint64pow10" = some 5 := by kernel_rfl
theorem Tryz.gES : Tryz.prog.globalNamed "strconv.ErrSyntax" = some 1 := by kernel_rfl
theorem Tryz.gER : Tryz.prog.globalNamed "strconv.ErrRange" = some 2 := by kernel_rfl
theorem TabW.below {w w' : World} (h : TabW w) (hb : Below w.heap.size w w') : TabW w' := Joins.var_stays Tryz.gTab h hb (Nat.le_refl _)
theorem ErrW.below {w w' : World} (h : ErrW w) (hb : Below w.heap.size w w') : ErrW w' := by
  obtain ⟨⟨t1, q1, h1⟩, t2, q2, h2⟩ := h
  exact ⟨⟨t1, q1, Joins.var_stays Tryz.gES h1 hb (Nat.le_refl _)⟩, t2, q2, Joins.var_stays Tryz.gER h2 hb (Nat.le_refl _)⟩
theorem MaxW.below {w w' : World} (h : MaxW w) (hb : Below w.heap.size w w') : MaxW w' := by
  obtain ⟨m, h⟩ := h
  exact ⟨m, (hb.cell (World.block_lt_of_cell? w _ h)).trans h⟩
theorem belowGrow (w : World) (k : Nat) (os : Array Obj) : Below w.heap.size w (Sort.grow (w.drewN k) os) :=
  ⟨rfl, rfl, rfl, by simp [Sort.grow, World.drewN], fun j hj => by simp [Sort.grow, World.drewN, Array.getElem?_append, hj]⟩

theorem implFormat_any (n : Int) (w : World) (h0 : -9223372036854775808 ≤ n) (h1 : n ≤ 9223372036854775807) (ht : TabW w) :
    Calls Tryz.prog 107 #[.int .i64 n] w (NewText w (Lib.itoa n)) := by
  go_enter Tryz.func107, Tryz.ntmps107
  go_wp2_with fail
  refine (Tryz.strconv_Itoa n h0 h1 _ ht).mono ?_
  rintro e w1 ⟨rfl, k, os, rfl⟩
  have hb := belowGrow w k os
  generalize Sort.grow (w.drewN k) os = w1 at *
  go_wp2_with fail
  go_ret
  exact ⟨rfl, hb⟩

theorem implJoin_any (p : Option Addr) (n c : Nat) (ss : List (List UInt8)) (sep : List UInt8) (w : World) (hx : Strs w p n ss) (hc : n ≤ c) (hn : n ≤ 1048576) (ht : totS ss ≤ 33554432) (hs : sep.length ≤ 1048576) :
    Calls Tryz.prog 67 #[.slice p n c, .string ⟨sep.toArray⟩] w (NewText w (Lib.join ss sep)) := by
  have hl := hx.len
  by_cases hz : n = 0
  · subst hz
    obtain rfl : ss = [] := List.length_eq_zero_iff.1 hl
    go_enter Tryz.func67, Tryz.ntmps67
    go_wp2_with fail
    refine (Tryz.strings_Join_none _ _ _ _).mono ?_
    rintro e w1 ⟨rfl, rfl⟩
    go_wp2_with fail
    go_ret
    exact ⟨rfl, Below.refl _ _⟩
  · obtain ⟨b, o, rfl, hc0⟩ := hx.cell 0 (by omega)
    have hlen : (Lib.join ss sep).length ≤ 1200000000000 := by
      have h1 := joinTo_length ss sep ss.length (Nat.le_refl _)
      rw [joinTo_eq ss sep _ (Nat.le_refl _), List.take_length] at h1
      have h3 : ss.length * sep.length ≤ 1048576 * 1048576 := Nat.mul_le_mul (by omega) hs
      omega
    have hmap : (ss.map fun l => (⟨l.toArray⟩ : ByteArray)).map (·.data.toList) = ss := by
      rw [List.map_map]
      conv => rhs; rw [← List.map_id ss]
      exact List.map_congr_left fun a _ => by simp
    have hml : (ss.map fun l => (⟨l.toArray⟩ : ByteArray)).length = n := by simpa using hl
    have con := Tryz.strings_Join b o c (ss.map fun l => (⟨l.toArray⟩ : ByteArray)) ⟨sep.toArray⟩ w (fun j x hj => by
        rw [List.getElem?_map, Option.map_eq_some_iff] at hj
        obtain ⟨y, hy, rfl⟩ := hj
        have hjl : j < ss.length := (List.getElem?_eq_some_iff.1 hy).1
        obtain ⟨b', o', e', hc'⟩ := hx.cell j (by omega)
        injection e' with e'
        injection e' with e1 e2
        subst e1; subst e2
        rw [hc', nthS_eq hjl]
        rw [List.getElem?_eq_getElem hjl] at hy
        injection hy with hy
        rw [hy]) (World.block_lt_of_cell? w _ hc0) (by rw [hml]; omega) (by rw [hml]; exact hc) (by rw [hmap]; simp only; omega)
    rw [hmap, hml] at con
    have Con := Lib.hid con
    clear con hmap hml hlen hl
    go_enter Tryz.func67, Tryz.ntmps67
    go_wp2_with fail
    refine Con.out.mono ?_
    rintro e w1 ⟨rfl, hb⟩
    go_wp2_with fail
    go_ret
    exact ⟨rfl, hb⟩

/-- A pair of results: a number and whether it is one. -/
def RetNB (w : World) (r : Int × Bool) (e : Ending) (w' : World) : Prop := e = .returned (.tuple #[.int .i64 r.1, .bool r.2]) ∧ Below w.heap.size w w'

theorem parse_none {k : Int} {l : List UInt8} (hk : k ≤ 9223372036854775807) (h : ∀ v, Lib.atoiAll l ≠ .ok v) : parseW k l = (0, false) :=
  parseW_no fun n hn hb => h n (by rw [← hn]; exact atoi_itoa (by omega) (by omega))
theorem parse_off {k : Int} {l : List UInt8} {v : Int} (h : Lib.atoiAll l = .ok v) (hk : k ≤ 9223372036854775807) (hv : Lib.itoa v ≠ l ∨ inR v (-k) k = false) : parseW k l = (0, false) :=
  parseW_no fun n hn hb => by
    have h1 := atoi_itoa (n := n) (by omega) (by omega)
    rw [hn, h] at h1
    injection h1 with h1
    subst h1
    rcases hv with hv | hv
    · exact hv hn
    · have := inR_false hv; omega
theorem retNB {w w' : World} {r : Int × Bool} {n : Int} {b : Bool} (h : r = (n, b)) (hb : Below w.heap.size w w') : RetNB w r (.returned (.tuple #[.int .i64 n, .bool b])) w' := ⟨by rw [h], hb⟩
theorem ret_nb {a b : Int × Bool} (h : a = b) : Ending.returned (.tuple #[.int .i64 a.1, .bool a.2]) = .returned (.tuple #[.int .i64 b.1, .bool b.2]) := by rw [h]

theorem notOk {l : List UInt8} (h : ∀ v, Lib.atoiAll l ≠ .ok v) : Lib.atoiAll l = Lib.NumEnd.syntax ∨ Lib.atoiAll l = .range := by
  revert h
  generalize Lib.atoiAll l = x
  intro h
  cases x
  · exact absurd rfl (h _)
  · exact .inl rfl
  · exact .inr rfl

theorem implParseInt_any (l : List UInt8) (w : World) (hl : l.length ≤ 1048576) (ht : TabW w) (he : ErrW w) :
    Calls Tryz.prog 82 #[.string ⟨l.toArray⟩] w (RetNB w (parseW 999999999999 l)) := by
  have hsz : (⟨l.toArray⟩ : ByteArray).size = l.length := by simp [ByteArray.size]
  have hdl : (⟨l.toArray⟩ : ByteArray).data.toList = l := by simp
  by_cases hok : ∃ v, Lib.atoiAll l = .ok v
  · obtain ⟨v, hA⟩ := hok
    have hbd := Lib.atoiAll_bounds hA
    obtain ⟨hb0, hb1'⟩ := hbd
    have con := Tryz.strconv_Atoi_ok ⟨l.toArray⟩ (by rw [hsz]; omega) v (by rw [hdl]; exact hA) w
    have Con := Lib.hid con
    have HA := Lib.hid hA
    clear con hA hsz hdl
    cases hr : inR v (-999999999999) 999999999999
    all_goals
      by_cases hi : Lib.itoa v = l
      all_goals
        first
          | (have hq : (Lib.itoa v == l) = true := by rw [hi]; exact beq_self_eq_true l)
          | (have hq : (Lib.itoa v == l) = false := by simpa using hi)
        first
          | (have hp : parseW 999999999999 l = (0, false) := parse_off HA.out (by omega) (.inl hi))
          | (have hp : parseW 999999999999 l = (0, false) := parse_off HA.out (by omega) (.inr hr))
          | (have hp : parseW 999999999999 l = (v, true) := parseW_yes hi (inR_true hr).1 (inR_true hr).2)
        have HP := Lib.hid hp
        clear hp hi
        generalize hL : Lib.itoa v = L at *
        have HL := Lib.hid hL
        clear hL
        go_enter Tryz.func82, Tryz.ntmps82
        go_wp2_with fail
        refine Con.out.mono ?_
        rintro e w1 ⟨rfl, hw1⟩
        have hb1 : Below w.heap.size w w1 := by
          rcases hw1 with rfl | ⟨t, rfl⟩
          · exact Below.refl _ _
          · exact Lib.bytesWorld_below _ _ _
        clear hw1
        go_wp2_with fail
        refine (implFormat_any _ _ hb0 hb1' (ht.below hb1)).mono ?_
        rw [HL.out]
        rintro e w2 ⟨rfl, hb2⟩
        have hb3 := Below.step hb1 hb2
        go_wp2_with (go_at_call 63; (with_reducible refine (within_any _ _ _ _).mono ?_); rintro e w' ⟨rfl, rfl⟩)
        go_ret2
        exact retNB HP.out hb3
  · have hno : ∀ v, Lib.atoiAll l ≠ .ok v := fun v h => hok ⟨v, h⟩
    have HP := Lib.hid (parse_none (k := 999999999999) (l := l) (by omega) hno)
    rcases notOk hno with hA | hA
    · obtain ⟨⟨tp, q, hv⟩, _⟩ := he
      have con := Tryz.strconv_Atoi_syntax_var ⟨l.toArray⟩ (by rw [hsz]; omega) (by rw [hdl]; exact hA) tp q w hv
      have Con := Lib.hid con
      clear con hA hsz hdl hv hno hok
      go_enter Tryz.func82, Tryz.ntmps82
      go_wp2_with fail
      refine Con.out.mono ?_
      rintro e w1 ⟨N, rfl, _, _, hb⟩
      go_wp2_with fail
      go_ret2
      exact retNB HP.out hb
    · obtain ⟨_, tp, q, hv⟩ := he
      have con := Tryz.strconv_Atoi_range_var ⟨l.toArray⟩ (by rw [hsz]; omega) (by rw [hdl]; exact hA) tp q w hv
      have Con := Lib.hid con
      clear con hA hsz hdl hv hno hok
      go_enter Tryz.func82, Tryz.ntmps82
      go_wp2_with fail
      refine Con.out.mono ?_
      rintro e w1 ⟨N, rfl, _, _, hb⟩
      go_wp2_with fail
      go_ret2
      exact retNB HP.out hb

end Go.Proofs.YthdonnkekggbbaaGreatDoor

/- What the rows that list the library's variables share: a world in which all of them are laid; from the rows' lists to what the walks ask. Conditions: none. -/
namespace Go.Proofs.YthdonnkekggbbaaGreatDoor
open Go.ChangeShapes Go.WideShapes Go.ChangeAt Go.RowKit
set_option linter.unusedVariables false
set_option linter.unusedSimpArgs false
set_option maxRecDepth 100000

theorem Tryz.tTab : (Tryz.prog.globals[5]?).map (·.type) = some 154 := by kernel_rfl
theorem Tryz.cTab : Tryz.prog.cellsOf 154 = 20 := by kernel_rfl
theorem Tryz.cU64 : Tryz.prog.cellsOf 92 = 1 := by kernel_rfl
theorem Tryz.tES : (Tryz.prog.globals[1]?).map (·.type) = some 96 := by kernel_rfl
theorem Tryz.tER : (Tryz.prog.globals[2]?).map (·.type) = some 96 := by kernel_rfl
theorem Tryz.cErr : Tryz.prog.cellsOf 149 = 1 := by kernel_rfl
theorem Tryz.cStr : Tryz.prog.cellsOf 9 = 1 := by kernel_rfl
theorem Tryz.star : "*" ++ "errors.errorString" = "*errors.errorString" := by decide
theorem Tryz.rowErr (u : TypeId) (h : Tryz.prog.typeName? 3 u = some "*errors.errorString") : u = 147 :=
  typeName_ptr_named (nm := "errors.errorString") (by rw [Tryz.star]; kernel_rfl) (by kernel_rfl) (by decide) u (by rw [Tryz.star]; exact h)

theorem tab_of {W : World} {rest : List (String × DataW Unit)} (h : laidMet Tryz.prog (("internal/strconv.uint64pow10", Rows.laid_internal_strconv_uint64pow10) :: rest) W) : TabW W :=
  Lib.tabIs_of_head (k := .u64) (zs := Lib.pow10Tab) (rest := rest) Tryz.gTab Tryz.tTab Tryz.underlying154 Tryz.underlying92 Tryz.cU64 Tryz.cTab h
theorem err_of {W : World} {rest : List (String × DataW Unit)} (h : laidMet Tryz.prog (("strconv.ErrRange", Rows.laid_strconv_ErrRange) :: ("strconv.ErrSyntax", Rows.laid_strconv_ErrSyntax) :: rest) W) : ErrW W := by
  obtain ⟨a1, s1, hv1, _⟩ := laid_sentinel h Tryz.gER Tryz.tER Tryz.underlying96 Tryz.rowErr Tryz.underlying147 Tryz.underlying149 rfl rfl Tryz.underlying9 Tryz.cErr Tryz.cStr
  obtain ⟨a2, s2, hv2, _⟩ := laid_sentinel h.tail Tryz.gES Tryz.tES Tryz.underlying96 Tryz.rowErr Tryz.underlying147 Tryz.underlying149 rfl rfl Tryz.underlying9 Tryz.cErr Tryz.cStr
  exact ⟨⟨_, _, hv2⟩, _, _, hv1⟩

theorem max_of {W : World} (h : W.ShapedOpen Tryz.prog) : MaxW W := Tryz.laysM146.s1_3 W h

/-- The cells of a datum made of numbers. -/
def cells0 : DataW Unit → List Value
  | .lit (.int k z) => [.int k z]
  | _ => []
def cells1 : DataW Unit → List Value
  | .agg ps => ps.flatMap cells0
  | d => cells0 d
def cells2 : DataW Unit → List Value
  | .agg ps => ps.flatMap cells1
  | d => cells1 d
def setBlock (cs : Array Value) : Obj → Obj
  | .cells _ t frozen => .cells cs t frozen
  | o => o
abbrev synS : ByteArray := ⟨#[105, 110, 118, 97, 108, 105, 100, 32, 115, 121, 110, 116, 97, 120]⟩
abbrev rngS : ByteArray := ⟨#[118, 97, 108, 117, 101, 32, 111, 117, 116, 32, 111, 102, 32, 114, 97, 110, 103, 101]⟩
noncomputable def low : Nat := (World.holding Tryz.prog default ⟨#[], #[], []⟩).heap.size
/-- The settled world, the library's variables laid. -/
noncomputable def laidWorld (os : Os) : World :=
  let w0 := World.holding Tryz.prog os ⟨#[.cells #[.string synS] 149, .cells #[.string rngS] 149], #[], []⟩
  { w0 with heap := ((((((w0.heap.modify 1 (setBlock #[.iface 147 (.pointer (some ⟨low, 0, none⟩))])).modify 2 (setBlock #[.iface 147 (.pointer (some ⟨low + 1, 0, none⟩))])).modify
      5 (setBlock (cells2 Rows.laid_internal_strconv_uint64pow10).toArray)).modify 3 (setBlock (cells2 Rows.laid_unicode_utf8_first).toArray)).modify
      4 (setBlock (cells2 Rows.laid_unicode_utf8_acceptRanges).toArray)).modify 6 (setBlock (cells2 Rows.laid_math_bits_deBruijn32tab).toArray)).modify 7 (setBlock (cells2 Rows.laid_math_bits_deBruijn64tab).toArray) }

end Go.Proofs.YthdonnkekggbbaaGreatDoor

/- Contracts: the laws' marks on texts, the reference's FormatInt. Conditions: sizes. -/
namespace Go.Proofs.YthdonnkekggbbaaGreatDoor
open Go.RowKit
set_option linter.unusedVariables false
set_option linter.unusedSimpArgs false
set_option maxRecDepth 100000

theorem addS (a b : List UInt8) (h : a.length + b.length ≤ 9223372036854775807) (W : World) : (Op.stringOp .add ⟨a.toArray⟩ ⟨b.toArray⟩).run Tryz.prog W = .ok (.string ⟨(a ++ b).toArray⟩) W := by
  rw [run_string_add_sum W _ _ (by simp [ByteArray.size]; omega), ByteArray.mk_append_mk]
/-- A byte out of a number. -/
def byteD (x : Int) : UInt8 := UInt8.ofNat x.toNat
/-- string([]byte{x}) -/
theorem conv1 (x : Int) (h0 : 0 ≤ x) (h1 : x ≤ 255) (w : World) : (convert 22 9 (.slice (some ⟨w.heap.size, 0, none⟩) 1 1)).run Tryz.prog (w.alloc (.cells #[.int .u8 x] 5)) = .ok (.string ⟨#[byteD x]⟩) (w.alloc (.cells #[.int .u8 x] 5)) := by
  refine run_convert_bytes_back _ _ _ _ _ 1 [byteD x] Tryz.underlying22 Tryz.underlying5 Tryz.underlying9 fun j hj => ?_
  obtain rfl : j = 0 := by simpa using hj
  rw [Addr.add_lit, Nat.zero_add, cellNew]
  have : ((byteD x).toNat : Int) = x := by unfold byteD; simp; omega
  show some (Value.int .u8 x) = some (Value.int .u8 ((byteD x).toNat : Int))
  rw [this]
/-- string([]byte{x}) + a text -/
theorem addB (x : Int) (l l' : List UInt8) (hl : l' = byteD x :: l) (h : l.length ≤ 1000000000) (W : World) : (Op.stringOp .add ⟨#[byteD x]⟩ ⟨l.toArray⟩).run Tryz.prog W = .ok (.string ⟨l'.toArray⟩) W := by
  have := addS [byteD x] l (show 1 + l.length ≤ _ by omega) W
  rw [hl]; exact this

/-- A mark. -/
def markT (k : Nat) : List UInt8 := 109 :: Lib.decDigits k
theorem digs_length (u : Nat) (h : u < 18446744073709551616) : (digs u).length ≤ 20 := by
  unfold digs
  split
  · simp
  · rw [decDigits_len]; exact Lib.nDigits_le20 u h

theorem Within.andBelow {lo hi : Nat} {w w1 w2 : World} (h : Within lo hi w w1) (k : Below w1.heap.size w1 w2) : Within lo hi w w2 :=
  ⟨k.os.trans h.os, k.tape.trans h.tape, k.output.trans h.output, Nat.le_trans h.size k.size, fun j hj hd => (k.block j (Nat.lt_of_lt_of_le hj h.size)).trans (h.block j hj hd)⟩
/-- Marks from k on. -/
def upT (k n : Nat) : List (List UInt8) := (List.range n).map fun i => markT (k + i)
theorem upT_length (k n : Nat) : (upT k n).length = n := by simp [upT]
theorem upT_nth {k n i : Nat} (h : i < n) : nthS (upT k n) i = markT (k + i) := by
  rw [nthS_eq (by rw [upT_length]; exact h)]; simp [upT]
theorem markT_length {k : Nat} (h : k ≤ 9223372036854775807) : (markT k).length ≤ 21 := by
  rw [markT, List.length_cons, decDigits_len]
  have := Lib.nDigits_le20 k (by omega)
  omega

def MarkedT (w : World) (lo hi : Nat) (p : Option Addr) (n c : Nat) (k : Nat) (e : Ending) (w' : World) : Prop :=
  e = .returned (.int .i64 ((k : Int) + n)) ∧ OwnS w' lo hi p n c (upT k n) ∧ Within lo hi w w'

end Go.Proofs.YthdonnkekggbbaaGreatDoor
