/- Texts joined: VecFns2 VecFns3 LawKit Rows2 Mat Mark2 Wrap Num1. -/
import Derived.Test.YthdonnkekggbbaaGreatDoorJnBase
import Derived.Lib.ItoaLen
import Derived.Lib.AtoiAll

/- Contracts of the reference's AddVectors, of both ScaleVector, DotOf, GcdOf. Conditions: sizes. -/
namespace Go.Proofs.YthdonnkekggbbaaGreatDoor
open Go.RowKit
set_option linter.unusedVariables false
set_option linter.unusedSimpArgs false
set_option maxRecDepth 100000

theorem NewIB.empty {w w1 : World} (hb : Below w.heap.size w w1) : NewIB w ([], false) (.returned (.tuple #[.slice (some ⟨w1.heap.size, 0, none⟩) 0 0, .bool false])) (w1.alloc (.cells #[] 3)) :=
  ⟨_, _, _, rfl, ((Own.empty w1).up).widen hb.size (Nat.le_refl _), hb.alloc hb.size _⟩

theorem Own.into {w w1 : World} {p : Option Addr} {n c : Nat} {xs : List Int} (ho : Own w1 w.heap.size w1.heap.size p n c xs) (hb : Below w.heap.size w w1) : NewIB w (xs, true) (.returned (.tuple #[.slice p n c, .bool true])) w1 :=
  ⟨_, _, _, rfl, ho, hb⟩

def scaleV (xs : List Int) (u : Int) : List Int × Bool := if isVec xs = true ∧ inR u (-1000) 1000 = true then vecIf (scaleW xs u) else ([], false)

/-- A function that hands back one value and may have made memory. -/
def Ret (v : Value) (w : World) (e : Ending) (w' : World) : Prop := e = .returned v ∧ Below w.heap.size w w'
theorem Ret.same {v : Value} {w : World} : Ret v w (.returned v) w := ⟨rfl, Below.refl _ _⟩
theorem ret_of_same {P : Program} {f : FuncId} {a : Array Value} {w : World} {v : Value} (h : Calls P f a w fun e w' => e = .returned v ∧ w = w') : Calls P f a w (Ret v w) :=
  h.mono fun e w' ⟨he, hw⟩ => by subst he; subst hw; exact Ret.same
theorem ret_of_drew {P : Program} {f : FuncId} {a : Array Value} {w : World} {v : Value} (h : Calls P f a w fun e w' => e = .returned v ∧ ∃ z, w' = w.drewN z) : Calls P f a w (Ret v w) :=
  h.mono fun e w' ⟨he, z, hw⟩ => by subst he; subst hw; exact ⟨rfl, Below.drawn (Below.refl _ _) z⟩

def dotV (xs ys : List Int) : Int := if isVec xs = true ∧ isVec ys = true ∧ xs.length = ys.length then dotW xs ys else 0

theorem allR_nth {xs : List Int} {lo hi : Int} (h : allR xs lo hi = true) : ∀ k, k < xs.length → lo ≤ nth xs k ∧ nth xs k ≤ hi := by
  intro k hk
  simp only [allR, List.all_eq_true] at h
  rw [nth_eq hk]
  exact inR_true (h _ (List.getElem_mem hk))
theorem isVec_all {xs : List Int} (h : isVec xs = true) : ∀ k, k < xs.length → -1000 ≤ nth xs k ∧ nth xs k ≤ 1000 := by
  simp only [isVec, Bool.and_eq_true] at h
  exact allR_nth h.2
theorem isVec_len {xs : List Int} (h : isVec xs = true) : 1 ≤ xs.length ∧ xs.length ≤ 3 := by
  simp only [isVec, Bool.and_eq_true] at h
  have := inR_true h.1
  omega
theorem isVec_in62 {xs : List Int} (h : isVec xs = true) : ∀ k, k < xs.length → In62 (nth xs k) := fun k hk => by
  have := isVec_all h k hk
  unfold In62; omega

def gcdV (xs : List Int) : Int := if isVec xs = true then gcdL xs else -1

end Go.Proofs.YthdonnkekggbbaaGreatDoor

/- Contracts of both PrimitiveOf and BeforeVector. Conditions: sizes. -/
namespace Go.Proofs.YthdonnkekggbbaaGreatDoor
open Go.RowKit
set_option linter.unusedVariables false
set_option linter.unusedSimpArgs false
set_option maxRecDepth 100000

/-- The numbers divided by g, cut towards nought. -/
def quoW (xs : List Int) (g : Int) : List Int := xs.map fun x => x.tdiv g
theorem quoW_length (xs : List Int) (g : Int) : (quoW xs g).length = xs.length := by simp [quoW]
theorem quoW_nth {xs : List Int} {g : Int} {k : Nat} (h : k < xs.length) : nth (quoW xs g) k = (nth xs k).tdiv g := by
  rw [nth_eq h, nth_eq (by rw [quoW_length]; exact h)]; simp [quoW]

theorem tdiv_in {a g : Int} (h : -1000 ≤ a ∧ a ≤ 1000) : -1000 ≤ a.tdiv g ∧ a.tdiv g ≤ 1000 := by
  have : (a.tdiv g).natAbs ≤ a.natAbs := by rw [Int.natAbs_tdiv]; exact Nat.div_le_self _ _
  omega

def primV (xs : List Int) : List Int × Bool := if isVec xs = true ∧ 1 ≤ gcdL xs then (quoW xs (gcdL xs), true) else ([], false)
theorem primV_len (xs : List Int) : (primV xs).1.length ≤ 3 := by
  unfold primV
  split
  · rename_i h; simp only [quoW_length]; exact (isVec_len h.1).2
  · simp

/-- The order of numbers, as the library tells it. -/
def cmpI (a b : Int) : Int := if a < b then -1 else if b < a then 1 else 0

theorem isNaN_any (a : Int) (w : World) : Calls Tryz.prog 104 #[.int .i64 a] w fun e w' => e = .returned (.bool false) ∧ w = w' := by
  go_enter Tryz.func104, Tryz.ntmps104
  go_wp2
  go_ret
  exact ⟨ret_bool (by simp), rfl⟩

theorem cmpCompare_any (a b : Int) (w : World) : Calls Tryz.prog 74 #[.int .i64 a, .int .i64 b] w fun e w' => e = .returned (.int .i64 (cmpI a b)) ∧ w = w' := by
  by_cases h1 : a < b
  · go_enter Tryz.func74, Tryz.ntmps74
    go_wp2_with (go_at_call 104; (with_reducible refine (isNaN_any _ _).mono ?_); rintro e w' ⟨rfl, rfl⟩)
    go_ret
    exact ⟨ret_int (by simp [cmpI, h1]), rfl⟩
  · by_cases h2 : b < a
    · go_enter Tryz.func74, Tryz.ntmps74
      go_wp2_with (go_at_call 104; (with_reducible refine (isNaN_any _ _).mono ?_); rintro e w' ⟨rfl, rfl⟩)
      go_ret
      exact ⟨ret_int (by simp [cmpI, h1, h2]), rfl⟩
    · go_enter Tryz.func74, Tryz.ntmps74
      go_wp2_with (go_at_call 104; (with_reducible refine (isNaN_any _ _).mono ?_); rintro e w' ⟨rfl, rfl⟩)
      go_ret
      exact ⟨ret_int (by unfold cmpI; rw [if_neg (by omega), if_neg (by omega)]), rfl⟩

/-- The order of lists of numbers. -/
def cmpL : List Int → List Int → Int
  | x :: xs, y :: ys => if cmpI x y = 0 then cmpL xs ys else cmpI x y
  | [], _ :: _ => -1
  | _ :: _, [] => 1
  | [], [] => 0

theorem cmpI_self (a : Int) : cmpI a a = 0 := by unfold cmpI; rw [if_neg (by omega), if_neg (by omega)]
theorem cmpI_ne {a b : Int} (h : cmpI a b = 0) : a = b := by
  unfold cmpI at h
  split at h
  · omega
  · split at h <;> omega
theorem cmpL_step {xs ys : List Int} {k : Nat} (h : k < xs.length) (h' : k < ys.length) (he : cmpI (nth xs k) (nth ys k) = 0) : cmpL (xs.drop k) (ys.drop k) = cmpL (xs.drop (k + 1)) (ys.drop (k + 1)) := by
  rw [drop_nth h, drop_nth h', cmpL, if_pos he]
theorem cmpL_stop {xs ys : List Int} {k : Nat} (h : k < xs.length) (h' : k < ys.length) (he : ¬ cmpI (nth xs k) (nth ys k) = 0) : cmpL (xs.drop k) (ys.drop k) = cmpI (nth xs k) (nth ys k) := by
  rw [drop_nth h, drop_nth h', cmpL, if_neg he]

theorem slicesCompare_any (p q : Option Addr) (n c d : Nat) (xs ys : List Int) (w : World) (hn : n ≤ 9223372036854775807) (hx : Ints w p n xs) (hy : Ints w q n ys) :
    Calls Tryz.prog 39 #[.slice p n c, .slice q n d] w fun e w' => e = .returned (.int .i64 (cmpL xs ys)) ∧ w = w' := by
  have hl := Lib.hid hx.len
  have hl2 := Lib.hid hy.len
  go_enter Tryz.func39, Tryz.ntmps39
  go_wp2
  go_loop [11] (fun i => ∃ k : Nat, k ≤ n ∧ i = .int .i64 k ∧ Hid (cmpL (xs.drop k) (ys.drop k) = cmpL xs ys)) (fun i => n - (intOf i).toNat)
  case atStart => exact ⟨0, Nat.zero_le _, rfl, rfl⟩
  case round =>
    obtain ⟨k, hk, rfl, hcm⟩ := hrel
    by_cases hlt : k < n
    · obtain ⟨b, o, rfl, hc⟩ := hx.cell k hlt
      obtain ⟨b2, o2, rfl, hc2⟩ := hy.cell k hlt
      by_cases h0 : cmpI (nth xs k) (nth ys k) = 0
      · have h0' : (cmpI (nth xs k) (nth ys k) != 0) = false := by simp [h0]
        have H0 := Lib.hid h0
        clear h0
        go_wp2_with (go_at_call 74; (with_reducible refine (cmpCompare_any _ _ _).mono ?_); rintro e w' ⟨rfl, rfl⟩)
        go_round
        case rel => exact ⟨k + 1, by omega, by go_num, (cmpL_step (by rw [hl.out]; exact hlt) (by rw [hl2.out]; exact hlt) H0.out).symm.trans hcm.out⟩
        case measure => simp [intOf]; omega
      · have h0' : (cmpI (nth xs k) (nth ys k) != 0) = true := by simp [h0]
        have H0 := Lib.hid h0
        clear h0
        go_wp2_with (go_at_call 74; (with_reducible refine (cmpCompare_any _ _ _).mono ?_); rintro e w' ⟨rfl, rfl⟩)
        go_ret
        exact ⟨ret_int ((cmpL_stop (by rw [hl.out]; exact hlt) (by rw [hl2.out]; exact hlt) H0.out).symm.trans hcm.out), rfl⟩
    · go_wp2
      go_ret
      refine ⟨ret_int ?_, rfl⟩
      have := hcm.out
      rw [List.drop_eq_nil_of_le (by have := hl.out; omega), List.drop_eq_nil_of_le (by have := hl2.out; omega)] at this
      exact this

/-- The first list comes before the second. -/
def befL (xs ys : List Int) : Bool := decide (cmpL xs ys < 0)

theorem l2Before_any (p q : Option Addr) (n c d : Nat) (xs ys : List Int) (w : World) (hn : n ≤ 9223372036854775807) (hx : Ints w p n xs) (hy : Ints w q n ys) :
    Calls Tryz.prog 77 #[.slice p n c, .slice q n d] w fun e w' => e = .returned (.bool (befL xs ys)) ∧ ∃ z, w' = w.drewN z := by
  have hl := Lib.hid hx.len
  have hl2 := Lib.hid hy.len
  go_enter Tryz.func77, Tryz.ntmps77
  go_wp2
  go_loopw [5] (fun i wr => ∃ k : Nat, k ≤ n ∧ i = .int .i64 k ∧ Hid (cmpL (xs.drop k) (ys.drop k) = cmpL xs ys) ∧ ∃ z, wr = w.drewN z) (fun i _ => n - (intOf i).toNat)
  case atStart => exact ⟨0, Nat.zero_le _, rfl, rfl, 0, rfl⟩
  case round =>
    obtain ⟨k, hk, rfl, hcm, z, rfl⟩ := hrel
    by_cases hlt : k < n
    · obtain ⟨b, o, rfl, hc⟩ := hx.cell k hlt
      obtain ⟨b2, o2, rfl, hc2⟩ := hy.cell k hlt
      by_cases h0 : cmpI (nth xs k) (nth ys k) = 0
      · have h0' : (nth xs k != nth ys k) = false := by simp [cmpI_ne h0]
        have H0 := Lib.hid h0
        clear h0
        go_wp2
        go_quiet (fail)
        go_wp2
        go_roundw
        case rel => exact ⟨k + 1, by omega, by go_num, (cmpL_step (by rw [hl.out]; exact hlt) (by rw [hl2.out]; exact hlt) H0.out).symm.trans hcm.out, by first | exact ⟨_, rfl⟩ | exact drew2 _ _ _ | exact drew3 _ _ _ _⟩
        case measure => simp [intOf]; omega
      · have h0' : (nth xs k != nth ys k) = true := by
          simp only [bne_iff_ne, ne_eq]
          intro h; rw [h, cmpI_self] at h0; exact h0 rfl
        have H0 := Lib.hid h0
        clear h0
        go_wp2
        go_quiet (fail)
        go_wp2
        go_quiet (fail)
        go_wp2
        go_ret
        refine ⟨ret_bool ?_, by first | exact ⟨_, rfl⟩ | exact drew2 _ _ _ | exact drew3 _ _ _ _⟩
        unfold befL
        rw [← hcm.out, cmpL_stop (by rw [hl.out]; exact hlt) (by rw [hl2.out]; exact hlt) H0.out]
        have := H0.out
        unfold cmpI at this ⊢
        split <;> simp_all <;> omega
    · go_wp2
      go_ret
      refine ⟨ret_bool ?_, _, rfl⟩
      have := hcm.out
      rw [List.drop_eq_nil_of_le (by have := hl.out; omega), List.drop_eq_nil_of_le (by have := hl2.out; omega)] at this
      unfold befL
      rw [← this]
      rfl

def befV (xs ys : List Int) : Bool := isVec xs && (isVec ys && (decide (xs.length = ys.length) && befL xs ys))

end Go.Proofs.YthdonnkekggbbaaGreatDoor

/- What the laws' walks share: how long results are, frames over marks. Conditions: none. -/
namespace Go.Proofs.YthdonnkekggbbaaGreatDoor
open Go.RowKit
set_option linter.unusedVariables false
set_option linter.unusedSimpArgs false
set_option maxRecDepth 100000

theorem Own.rd {w : World} {lo hi : Nat} {p : Option Addr} {n c : Nat} {xs : List Int} (h : Own w lo hi p n c xs) : Ints w p n xs := h.ints

theorem Below.mark {w w1 w2 : World} {lo hi : Nat} (h : Below w.heap.size w w1) (k : Within lo hi w1 w2) (hl : w.heap.size ≤ lo) : Below w.heap.size w w2 :=
  h.trans (k.below hl h.size)

theorem box1c (w : World) (v0 v1 : Value) (T : TypeId) : (w.alloc (.cells #[v0, v1] T)).cell? ⟨w.heap.size, 0, none⟩ = some v0 ∧ (w.alloc (.cells #[v0, v1] T)).cell? ⟨w.heap.size, 1, none⟩ = some v1 := by
  refine ⟨?_, ?_⟩ <;> simp [go_sem]
theorem Within.cells {lo hi : Nat} {w w1 : World} (hw : Within lo hi w w1) {a : Addr} {v : Value} (h : w.cell? a = some v) (ha : a.block < lo) : w1.cell? a = some v :=
  (World.cell?_of_block (hw.block a.block (World.block_lt_of_cell? w a h) (.inl ha))).trans h

theorem drewBelow (w : World) : Below w.heap.size w w.drew := (Below.refl _ _).drew
theorem vecIf_len (xs : List Int) : (vecIf xs).1.length ≤ 3 := by
  unfold vecIf
  split
  · rename_i h; exact (isVec_len h).2
  · simp
theorem addV_len (xs ys : List Int) : (addV xs ys).1.length ≤ 3 := by
  unfold addV
  split
  · exact vecIf_len _
  · simp
theorem scaleV_len (xs : List Int) (u : Int) : (scaleV xs u).1.length ≤ 3 := by
  unfold scaleV
  split
  · exact vecIf_len _
  · simp

end Go.Proofs.YthdonnkekggbbaaGreatDoor

/- Words for slices of slices of numbers: read, or of the call's own. Conditions: none. -/
namespace Go.Proofs.YthdonnkekggbbaaGreatDoor
open Go.RowKit
set_option linter.unusedVariables false
set_option linter.unusedSimpArgs false
set_option maxRecDepth 100000

theorem Ints.alloc {w : World} {p : Option Addr} {n : Nat} {xs : List Int} (h : Ints w p n xs) (o : Obj) : Ints (w.alloc o) p n xs :=
  h.below ((Below.refl _ _).alloc (Nat.le_refl _) _)
theorem Ints.drew {w : World} {p : Option Addr} {n : Nat} {xs : List Int} (h : Ints w p n xs) : Ints w.drew p n xs := ⟨h.len, h.cell⟩
theorem Own.setBelow {w : World} {lo hi : Nat} {p : Option Addr} {n c : Nat} {xs : List Int} (h : Own w lo hi p n c xs) {a : Addr} (ha : a.block < lo) (u : Value) : Own (w.setCell a u) lo hi p n c xs :=
  ⟨ownsRow_setCell_below h.row ha u, h.top⟩
theorem bcell {W w1 : World} (hb : Below W.heap.size W w1) : (∀ b o, b < W.heap.size → w1.cell? ⟨b, o, none⟩ = W.cell? ⟨b, o, none⟩) ∧ (∀ b o, b < W.heap.size → w1.frozen? ⟨b, o, none⟩ = W.frozen? ⟨b, o, none⟩) :=
  ⟨fun b o h => hb.cell (p := ⟨b, o, none⟩) h, fun b o h => hb.frozen (p := ⟨b, o, none⟩) h⟩
theorem boxed (w : World) (o : Obj) : Below w.heap.size w (w.alloc o) := (Below.refl _ _).alloc (Nat.le_refl _) _

theorem boxed2 (w : World) (o o' : Obj) : Below w.heap.size w ((w.alloc o).alloc o') := (boxed w o).alloc (boxed w o).size _
theorem boxed3 (w : World) (o o' o'' : Obj) : Below w.heap.size w (((w.alloc o).alloc o').alloc o'') := (boxed2 w o o').alloc (boxed2 w o o').size _

def nthR (xss : List (List Int)) (k : Nat) : List Int := xss.getD k []
theorem nthR_eq {xss : List (List Int)} {k : Nat} (h : k < xss.length) : nthR xss k = xss[k] := by simp [nthR, List.getD, h]
theorem take_nthR {xss : List (List Int)} {k : Nat} (h : k < xss.length) : xss.take (k + 1) = xss.take k ++ [nthR xss k] := by
  rw [nthR_eq h]; exact List.take_succ_eq_append_getElem h
theorem nthR_mem {xss : List (List Int)} {k : Nat} (h : k < xss.length) : nthR xss k ∈ xss := by rw [nthR_eq h]; exact List.getElem_mem h

/-- The slice (p, n) reads as the rows xss. -/
structure Intss (w : World) (p : Option Addr) (n : Nat) (xss : List (List Int)) : Prop where
  len : xss.length = n
  cellc : ∀ k, k < n → ∃ b o q m d, p = some ⟨b, o, none⟩ ∧ w.cell? ⟨b, o + k, none⟩ = some (.slice q m d) ∧ m ≤ d ∧ d ≤ 9223372036854775807 ∧ Ints w q m (nthR xss k)
theorem Intss.cell {w : World} {p : Option Addr} {n : Nat} {xss : List (List Int)} (h : Intss w p n xss) : ∀ k, k < n → ∃ b o q m d, p = some ⟨b, o, none⟩ ∧ w.cell? ⟨b, o + k, none⟩ = some (.slice q m d) ∧ m ≤ 9223372036854775807 ∧ Ints w q m (nthR xss k) := fun k hk => by
  obtain ⟨b, o, q, m, d, hp, hc, hmd, hd, hi⟩ := h.cellc k hk
  exact ⟨b, o, q, m, d, hp, hc, by omega, hi⟩

theorem Intss.below {w w' : World} {p : Option Addr} {n : Nat} {xss : List (List Int)} (h : Intss w p n xss) (hb : Below w.heap.size w w') : Intss w' p n xss :=
  ⟨h.len, fun k hk => by
    obtain ⟨b, o, q, m, d, hp, hc, hm, hd, hi⟩ := h.cellc k hk
    exact ⟨b, o, q, m, d, hp, (hb.cell (World.block_lt_of_cell? w _ hc)).trans hc, hm, hd, hi.below hb⟩⟩
theorem Intss.drewN {w : World} {p : Option Addr} {n : Nat} {xss : List (List Int)} (h : Intss w p n xss) (z : Nat) : Intss (w.drewN z) p n xss :=
  ⟨h.len, fun k hk => by
    obtain ⟨b, o, q, m, d, hp, hc, hm, hd, hi⟩ := h.cellc k hk
    exact ⟨b, o, q, m, d, hp, hc, hm, hd, hi.drewN z⟩⟩
theorem Intss.nil (w : World) (p : Option Addr) : Intss w p 0 [] := ⟨rfl, fun _ h => absurd h (by omega)⟩

abbrev Row := Option Addr × Nat × Nat
def Row.val (r : Row) : Value := .slice r.1 r.2.1 r.2.2

/-- The rows of a slice of slices of the call's own: each a row of its own, no two in one block. -/
structure Own2 (w : World) (lo hi : Nat) (p : Option Addr) (n c : Nat) (rows : List Row) (xss : List (List Int)) : Prop where
  outer : OwnV w 29 1 lo hi p n c (rows.map Row.val)
  len : rows.length = xss.length
  inner : ∀ k (h : k < rows.length), Own w lo hi rows[k].1 rows[k].2.1 rows[k].2.2 (nthR xss k)
  apart : rows.Pairwise fun r s => blk r.1 ≠ blk s.1 ∨ r.1 = none
/-- A slice of slices of numbers of the call's own. -/
def OwnM (w : World) (lo hi : Nat) (p : Option Addr) (n c : Nat) (xss : List (List Int)) : Prop := ∃ rows, Own2 w lo hi p n c rows xss

theorem Own2.count {w : World} {lo hi : Nat} {p : Option Addr} {n c : Nat} {rows : List Row} {xss : List (List Int)} (h : Own2 w lo hi p n c rows xss) : rows.length = n := by
  have := h.outer.len; simpa using this

theorem OwnV.form {w : World} {E : TypeId} {size lo hi : Nat} {p : Option Addr} {n c : Nat} {vs : List Value} (h : OwnV w E size lo hi p n c vs) :
    (p = none ∧ n = 0 ∧ c = 0) ∨ ∃ g, p = some ⟨g, 0, none⟩ ∧ lo ≤ g ∧ g < hi ∧ g < w.heap.size ∧ n ≤ c ∧ c ≤ maxLen := by
  rcases h.row.2 with ⟨h0, hn⟩ | ⟨g', cap, cur, hv, hl, hg, hc, hm, _⟩
  · injection h0 with a b c
    exact .inl ⟨a, b, c⟩
  · injection hv with a b c
    subst c
    exact .inr ⟨g', a, hl, h.top _ a, (Array.getElem?_eq_some_iff.1 hg).1, hc, hm⟩
theorem OwnV.cell {w : World} {E : TypeId} {lo hi g size : Nat} {n c : Nat} {vs : List Value} (h : OwnV w E size lo hi (some ⟨g, 0, none⟩) n c vs) {k : Nat} (hk : k < n * size) : w.cell? ⟨g, k, none⟩ = vs[k]? :=
  h.row.cellAt k hk
theorem OwnV.frozen {w : World} {E : TypeId} {lo hi g size : Nat} {n c : Nat} {vs : List Value} (h : OwnV w E size lo hi (some ⟨g, 0, none⟩) n c vs) (k : Nat) : w.frozen? ⟨g, k, none⟩ = false := h.row.frozenAt k
theorem OwnV.elem {w : World} {E : TypeId} {lo hi g size : Nat} {n c : Nat} {vs : List Value} (h : OwnV w E size lo hi (some ⟨g, 0, none⟩) n c vs) : ∃ cur, w.heap[g]? = some (.cells cur E (0, 0)) := by
  rcases h.row.2 with ⟨h0, _⟩ | ⟨g', cap, cur, hv, _, hg, _⟩
  · cases h0
  · injection hv with a
    injection a with a
    injection a with a
    subst a
    exact ⟨cur, hg⟩

/-- Rows of different element types lie in different blocks. -/
theorem OwnV.ne {w : World} {E E' : TypeId} {lo hi lo' hi' size size' : Nat} {p p' : Option Addr} {n c n' c' : Nat} {vs vs' : List Value} (h : OwnV w E size lo hi p n c vs) (h' : OwnV w E' size' lo' hi' p' n' c' vs') (hE : E ≠ E') :
    blk p ≠ blk p' ∨ p' = none := by
  rcases h'.form with ⟨rfl, _⟩ | ⟨g', rfl, _⟩
  · exact .inr rfl
  · rcases h.form with ⟨rfl, _⟩ | ⟨g, rfl, _⟩
    · exact .inl (by simp [blk])
    · refine .inl fun e => hE ?_
      obtain ⟨cur, e1⟩ := h.elem
      obtain ⟨cur', e2⟩ := h'.elem
      simp only [blk, Option.map_some, Option.some.injEq] at e
      subst e
      rw [e1] at e2
      injection e2 with e2
      injection e2

theorem OwnV.small {w : World} {E : TypeId} {size lo hi : Nat} {p : Option Addr} {n c : Nat} {vs : List Value} (h : OwnV w E size lo hi p n c vs) : n ≤ 9223372036854775807 := by
  rcases h.form with ⟨_, rfl, _⟩ | ⟨g, _, _, _, _, hc, hm⟩
  · omega
  · unfold maxLen at hm; omega

/-- The frame of a write into one row: all blocks but the row's are as they were. -/
theorem OwnV.kept {w w' : World} {E : TypeId} {size lo hi : Nat} {p q : Option Addr} {n c : Nat} {vs : List Value} (h : OwnV w E size lo hi p n c vs) (hg : w.grownBy w' (blk q)) (hne : blk q ≠ blk p ∨ p = none) : OwnV w' E size lo hi p n c vs := by
  refine ⟨h.row.kept hg ?_, h.top⟩
  cases p with
  | none => exact .inl rfl
  | some a =>
    rcases hne with hne | hne
    · exact .inr fun e => hne (by rw [show (Value.slice (some a) n c).ownBlock = blk (some a) from rfl] at e; exact e.symm)
    · cases hne
theorem Own.kept {w w' : World} {lo hi : Nat} {p q : Option Addr} {n c : Nat} {xs : List Int} (h : Own w lo hi p n c xs) (hg : w.grownBy w' (blk q)) (hne : blk q ≠ blk p ∨ p = none) : Own w' lo hi p n c xs := (h.v.kept hg hne).own

theorem OwnV.within {w w' : World} {E : TypeId} {size lo hi lo' hi' : Nat} {p : Option Addr} {n c : Nat} {vs : List Value} (h : OwnV w E size lo hi p n c vs)
    (hw : Within lo' hi' w w') (hd : hi ≤ lo' ∨ hi' ≤ lo) : OwnV w' E size lo hi p n c vs := by
  refine ⟨⟨h.row.1, ?_⟩, h.top⟩
  rcases h.row.2 with h0 | ⟨g, cap, cur, hv, hl, hg, hr⟩
  · exact .inl h0
  · refine .inr ⟨g, cap, cur, hv, hl, ?_, hr⟩
    have hlt : g < hi := by
      injection hv with hp _ _
      exact h.top _ hp
    rw [hw.block g (Array.getElem?_eq_some_iff.1 hg).1 (by omega)]
    exact hg
theorem OwnV.below {w w' : World} {E : TypeId} {size lo hi : Nat} {p : Option Addr} {n c : Nat} {vs : List Value} (h : OwnV w E size lo hi p n c vs) (hb : Below w.heap.size w w') : OwnV w' E size lo hi p n c vs :=
  h.within (lo' := hi) (hi' := hi) (Within.of_below hb) (.inl (Nat.le_refl _))
theorem OwnV.widen {w : World} {E : TypeId} {size lo hi lo' hi' : Nat} {p : Option Addr} {n c : Nat} {vs : List Value} (h : OwnV w E size lo hi p n c vs)
    (hl : lo' ≤ lo) (hh : hi ≤ hi') : OwnV w E size lo' hi' p n c vs := by
  refine ⟨⟨h.row.1, ?_⟩, fun a ha => Nat.lt_of_lt_of_le (h.top a ha) hh⟩
  rcases h.row.2 with h0 | ⟨g, cap, cur, hv, hl', hr⟩
  · exact .inl h0
  · exact .inr ⟨g, cap, cur, hv, Nat.le_trans hl hl', hr⟩

section
variable {w w' : World} {lo hi lo' hi' : Nat} {p : Option Addr} {n c : Nat} {rows : List Row} {xss : List (List Int)}
theorem Own2.within (h : Own2 w lo hi p n c rows xss) (hw : Within lo' hi' w w') (hd : hi ≤ lo' ∨ hi' ≤ lo) : Own2 w' lo hi p n c rows xss :=
  ⟨h.outer.within hw hd, h.len, fun k hk => (h.inner k hk).within hw hd, h.apart⟩
theorem Own2.below (h : Own2 w lo hi p n c rows xss) (hb : Below w.heap.size w w') : Own2 w' lo hi p n c rows xss :=
  ⟨h.outer.below hb, h.len, fun k hk => (h.inner k hk).below hb, h.apart⟩
theorem Own2.widen (h : Own2 w lo hi p n c rows xss) (hl : lo' ≤ lo) (hh : hi ≤ hi') : Own2 w lo' hi' p n c rows xss :=
  ⟨h.outer.widen hl hh, h.len, fun k hk => (h.inner k hk).widen hl hh, h.apart⟩
theorem Own2.up (h : Own2 w lo hi p n c rows xss) : Own2 w lo w.heap.size p n c rows xss :=
  ⟨h.outer.up, h.len, fun k hk => (h.inner k hk).up, h.apart⟩
theorem Own2.rd (h : Own2 w lo hi p n c rows xss) : Intss w p n xss := by
  have hc := h.count
  have hl := h.len
  refine ⟨by omega, fun k hk => ?_⟩
  rcases h.outer.form with ⟨_, rfl, _⟩ | ⟨g, rfl, _⟩
  · omega
  · have hi := h.inner k (by omega)
    have hcell := h.outer.cell (k := k) (by omega)
    rw [List.getElem?_map, List.getElem?_eq_getElem (by omega)] at hcell
    have hcap : (rows[k]'(by omega)).2.1 ≤ (rows[k]'(by omega)).2.2 ∧ (rows[k]'(by omega)).2.2 ≤ 9223372036854775807 := by
      rcases hi.form with ⟨_, h1, h2⟩ | ⟨_, _, _, _, _, h1, h2⟩
      · omega
      · unfold maxLen at h2; omega
    refine ⟨g, 0, _, _, _, rfl, by rw [Nat.zero_add]; exact hcell, hcap.1, hcap.2, hi.ints⟩
end
theorem OwnM.within {w w' : World} {lo hi lo' hi' : Nat} {p : Option Addr} {n c : Nat} {xss : List (List Int)} (h : OwnM w lo hi p n c xss) (hw : Within lo' hi' w w') (hd : hi ≤ lo' ∨ hi' ≤ lo) : OwnM w' lo hi p n c xss := by
  obtain ⟨rows, h⟩ := h; exact ⟨rows, h.within hw hd⟩
theorem OwnM.below {w w' : World} {lo hi : Nat} {p : Option Addr} {n c : Nat} {xss : List (List Int)} (h : OwnM w lo hi p n c xss) (hb : Below w.heap.size w w') : OwnM w' lo hi p n c xss := by
  obtain ⟨rows, h⟩ := h; exact ⟨rows, h.below hb⟩
theorem OwnM.widen {w : World} {lo hi lo' hi' : Nat} {p : Option Addr} {n c : Nat} {xss : List (List Int)} (h : OwnM w lo hi p n c xss) (hl : lo' ≤ lo) (hh : hi ≤ hi') : OwnM w lo' hi' p n c xss := by
  obtain ⟨rows, h⟩ := h; exact ⟨rows, h.widen hl hh⟩
theorem OwnM.up {w : World} {lo hi : Nat} {p : Option Addr} {n c : Nat} {xss : List (List Int)} (h : OwnM w lo hi p n c xss) : OwnM w lo w.heap.size p n c xss := by
  obtain ⟨rows, h⟩ := h; exact ⟨rows, h.up⟩
theorem OwnM.rd {w : World} {lo hi : Nat} {p : Option Addr} {n c : Nat} {xss : List (List Int)} (h : OwnM w lo hi p n c xss) : Intss w p n xss := by
  obtain ⟨rows, h⟩ := h; exact h.rd
theorem OwnM.len {w : World} {lo hi : Nat} {p : Option Addr} {n c : Nat} {xss : List (List Int)} (h : OwnM w lo hi p n c xss) : xss.length = n := h.rd.len
theorem OwnM.small {w : World} {lo hi : Nat} {p : Option Addr} {n c : Nat} {xss : List (List Int)} (h : OwnM w lo hi p n c xss) : n ≤ 9223372036854775807 := by
  obtain ⟨rows, h⟩ := h; exact h.outer.small
theorem OwnM.nil (w : World) (lo hi : Nat) : OwnM w lo hi none 0 0 [] := ⟨[], OwnV.nil _ _ _ _ _, rfl, fun k h => absurd h (by simp), List.Pairwise.nil⟩

theorem pairwise_set {α : Type} {R : α → α → Prop} (hsym : ∀ a b, R a b → R b a) {l : List α} (h : l.Pairwise R) (k : Nat) (a : α) (ha : ∀ j (hj : j < l.length), j ≠ k → R a l[j]) : (l.set k a).Pairwise R := by
  rw [List.pairwise_iff_getElem] at h ⊢
  intro i j hi hj hij
  simp only [List.length_set] at hi hj
  rw [List.getElem_set, List.getElem_set]
  by_cases h1 : k = i
  · subst h1
    rw [if_pos rfl, if_neg (by omega)]
    exact ha j hj (by omega)
  · rw [if_neg h1]
    by_cases h2 : k = j
    · subst h2
      rw [if_pos rfl]
      exact hsym _ _ (ha i hi (by omega))
    · rw [if_neg h2]
      exact h i j hi hj hij

/-- Rows that lie in different intervals of blocks are apart. -/
theorem Own.apart {w : World} {lo hi lo' hi' : Nat} {p q : Option Addr} {n c m d : Nat} {xs ys : List Int} (h : Own w lo hi p n c xs) (h' : Own w lo' hi' q m d ys) (hd : hi ≤ lo' ∨ hi' ≤ lo) : blk p ≠ blk q ∨ p = none := by
  cases p with
  | none => exact .inr rfl
  | some a =>
    refine .inl fun e => ?_
    cases q with
    | none => simp [blk] at e
    | some b =>
      simp only [blk, Option.map_some, Option.some.injEq] at e
      have h1 := h.lt a rfl
      have h2 := h'.lt b rfl
      omega

theorem set_grown (w : World) (g k : Nat) (u : Value) : w.grownBy (w.setCell ⟨g, k, none⟩ u) (some g) :=
  ⟨rfl, rfl, rfl, by simp [World.setCell], fun i hi hne => Below.heap_setCell _ _ _ _ (by rintro rfl; exact hne rfl)⟩

/-- A new row is stored into the k-th cell. -/
theorem Own2.store {w : World} {lo mid hi g : Nat} {n c : Nat} {rows : List Row} {xss : List (List Int)} (h : Own2 w lo mid (some ⟨g, 0, none⟩) n c rows xss) {q : Option Addr} {m d : Nat} {ys : List Int}
    (hr : Own w mid hi q m d ys) (hlm : lo ≤ mid) (hmh : mid ≤ hi) (k : Nat) (hk : k < n) : Own2 (w.setCell ⟨g, k, none⟩ (.slice q m d)) lo hi (some ⟨g, 0, none⟩) n c (rows.set k (q, m, d)) (xss.set k ys) := by
  have hc := h.count
  have hl := h.len
  have hT : 29 ≠ 3 := by decide
  have keep : ∀ {lo' hi' : Nat} {p' : Option Addr} {n' c' : Nat} {zs : List Int}, Own w lo' hi' p' n' c' zs → Own (w.setCell ⟨g, k, none⟩ (.slice q m d)) lo' hi' p' n' c' zs := fun hz =>
    hz.kept (q := some ⟨g, 0, none⟩) (set_grown w g k _) (h.outer.ne hz.v hT)
  refine ⟨⟨?_, fun a ha => Nat.lt_of_lt_of_le (h.outer.top a ha) hmh⟩, by simpa using hl, fun j hj => ?_, ?_⟩
  · rw [List.map_set]
    exact (h.outer.row.stored (g := g) (cap := c) k (.slice q m d)).1
  · simp only [List.length_set] at hj
    by_cases hjk : k = j
    · subst hjk
      have e : nthR (xss.set k ys) k = ys := by rw [nthR_eq (by simp; omega)]; simp
      rw [e]
      simp only [List.getElem_set_self]
      exact (keep hr).widen hlm (Nat.le_refl _)
    · have e : nthR (xss.set k ys) j = nthR xss j := by
        rw [nthR_eq (by simp; omega), nthR_eq (by omega), List.getElem_set_ne hjk]
      rw [e]
      simp only [List.getElem_set_ne hjk]
      exact (keep (h.inner j hj)).widen (Nat.le_refl _) hmh
  · refine pairwise_set (fun a b hab => ?_) h.apart k (q, m, d) fun j hj hjk => ?_
    · rcases hab with hab | hab
      · exact .inl fun e => hab e.symm
      · by_cases hb : b.1 = none
        · exact .inr hb
        · refine .inl fun e => ?_
          rw [hab] at e
          cases hbb : b.1 with
          | none => exact hb hbb
          | some x => rw [hbb] at e; simp [blk] at e
    · exact hr.apart (h.inner j hj) (.inr (Nat.le_refl _))

end Go.Proofs.YthdonnkekggbbaaGreatDoor

/- Contracts of the laws' helpers on slices of slices of numbers. Conditions: sizes. -/
namespace Go.Proofs.YthdonnkekggbbaaGreatDoor
open Go.RowKit
set_option linter.unusedVariables false
set_option linter.unusedSimpArgs false
set_option maxRecDepth 100000

def mixR (ys zs : List (List Int)) (k : Nat) : List (List Int) := ys.take k ++ zs.drop k
theorem mixR_zero (ys zs : List (List Int)) : mixR ys zs 0 = zs := by simp [mixR]
theorem mixR_all {ys zs : List (List Int)} {k : Nat} (h : ys.length ≤ k) (h' : zs.length ≤ k) : mixR ys zs k = ys := by
  simp [mixR, List.take_of_length_le h, List.drop_eq_nil_of_le h']
theorem mixR_set {ys zs : List (List Int)} {k : Nat} (h : k < ys.length) (h' : k < zs.length) : (mixR ys zs k).set k (nthR ys k) = mixR ys zs (k + 1) := by
  unfold mixR
  rw [take_nthR h, List.set_append_right _ _ (by simp; omega)]
  have e : k - (ys.take k).length = 0 := by simp; omega
  rw [e, List.drop_eq_getElem_cons h', List.set_cons_zero]
  simp
theorem mixR_nth {ys zs : List (List Int)} {k : Nat} (h2 : k ≤ ys.length) : nthR (mixR ys zs k) k = nthR zs k := by
  have hl : (ys.take k).length = k := by simp; omega
  unfold mixR nthR
  simp [List.getD, List.getElem?_append_right, hl]

/-- How many numbers the rows hold. -/
def tot (xss : List (List Int)) : Nat := (xss.map List.length).sum
theorem tot_take {xss : List (List Int)} {k : Nat} (h : k < xss.length) : tot (xss.take (k + 1)) = tot (xss.take k) + (nthR xss k).length := by
  rw [take_nthR h]; simp [tot]
theorem tot_le (xss : List (List Int)) (k : Nat) : tot (xss.take k) ≤ tot xss := by
  have : tot xss = tot (xss.take k) + tot (xss.drop k) := by
    unfold tot
    rw [← List.sum_append, ← List.map_append, List.take_append_drop]
  omega
theorem len_le_tot {xss : List (List Int)} {k : Nat} (h : k < xss.length) : (nthR xss k).length ≤ tot xss := by
  have := tot_le xss (k + 1)
  rw [tot_take h] at this
  omega

theorem Tryz.infoInts : (Tryz.prog.info? 29).map (fun i => (i.zero, i.size, i.bytes)) = some (some (.slice none 0 0), 1, 24) := by kernel_rfl

def NewM (w : World) (n : Nat) (xss : List (List Int)) (e : Ending) (w' : World) : Prop :=
  ∃ p c, e = .returned (.slice p n c) ∧ OwnM w' w.heap.size w'.heap.size p n c xss ∧ Below w.heap.size w w'

theorem made_rows (n : Nat) : (madeCells (Value.slice none 0 0).cells (n * 1)).toList = (List.replicate n ((none, 0, 0) : Row)).map Row.val := by
  rw [show (Value.slice none 0 0).cells = #[Value.slice none 0 0] from rfl, toList_madeCells_one, Nat.mul_one, List.map_replicate]
  rfl

theorem made_own2 {w w1 : World} {n : Nat} (hown : w1.ownsRow w.heap.size 29 1 (.slice (some ⟨w.heap.size, 0, none⟩) n n) n (madeCells (Value.slice none 0 0).cells (n * 1)).toList) :
    Own2 w1 w.heap.size w1.heap.size (some ⟨w.heap.size, 0, none⟩) n n (List.replicate n (none, 0, 0)) (List.replicate n []) := by
  rw [made_rows] at hown
  refine ⟨⟨hown, fun a ha => by have := hown.lt a.block (by rw [ha]; rfl); exact this.2⟩, by simp, fun k hk => ?_, ?_⟩
  · simp only [List.getElem_replicate]
    rw [show nthR (List.replicate n ([] : List Int)) k = [] by simp only [List.length_replicate] at hk; rw [nthR_eq (by simpa using hk)]; simp]
    exact Own.nil _ _ _
  · rw [List.pairwise_iff_getElem]
    intro i j _ _ _
    exact .inr (by simp)

/-- What is left of a size, or -1. -/
def leftOf (t : Nat) (left : Int) : Int := if (t : Int) ≤ left then left - t else -1

theorem leftOf_yes {t : Nat} {left : Int} (h : (t : Int) ≤ left) : leftOf t left = left - t := by unfold leftOf; rw [if_pos h]
theorem leftOf_no {t : Nat} {left : Int} (h : ¬ (t : Int) ≤ left) : leftOf t left = -1 := by unfold leftOf; rw [if_neg h]

/-- The world is as it was but for draws. -/
def Drawn (w wr : World) : Prop := ∃ z, wr = w.drewN z
theorem Drawn.refl (w : World) : Drawn w w := ⟨0, rfl⟩
theorem Drawn.more {w wr : World} (h : Drawn w wr) (q : Nat) : Drawn w (wr.drewN q) := by
  obtain ⟨z, rfl⟩ := h; exact drew2 _ _ _
theorem Drawn.intss {w wr : World} (h : Drawn w wr) {p : Option Addr} {n : Nat} {xss : List (List Int)} (hx : Intss w p n xss) : Intss wr p n xss := by
  obtain ⟨z, rfl⟩ := h; exact hx.drewN z
theorem Drawn.ints {w wr : World} (h : Drawn w wr) {p : Option Addr} {n : Nat} {xs : List Int} (hx : Ints w p n xs) : Ints wr p n xs := by
  obtain ⟨z, rfl⟩ := h; exact hx.drewN z
theorem Drawn.cell {w wr : World} (h : Drawn w wr) (a : Addr) : wr.cell? a = w.cell? a := by obtain ⟨z, rfl⟩ := h; rfl
theorem Drawn.below {w wr : World} (h : Drawn w wr) : Below w.heap.size w wr := by
  obtain ⟨z, rfl⟩ := h; exact Below.drawn (Below.refl _ _) z
theorem Drawn.trans {a b c : World} (h : Drawn a b) (k : Drawn b c) : Drawn a c := by
  obtain ⟨z, rfl⟩ := h; obtain ⟨y, rfl⟩ := k; exact drew2 _ _ _

end Go.Proofs.YthdonnkekggbbaaGreatDoor

/- Contracts of markIntSS and heldIntSS. Conditions: sizes. -/
namespace Go.Proofs.YthdonnkekggbbaaGreatDoor
open Go.RowKit
set_option linter.unusedVariables false
set_option linter.unusedSimpArgs false
set_option maxRecDepth 100000

/-- The numbers from k on, in rows as long as those of xss. -/
def upR : Int → List (List Int) → List (List Int)
  | _, [] => []
  | k, xs :: r => upFrom k xs.length :: upR (k + (xs.length : Int)) r
theorem upR_length (xss : List (List Int)) : ∀ k, (upR k xss).length = xss.length := by
  induction xss with
  | nil => intro k; rfl
  | cons x r ih => intro k; simp [upR, ih]
theorem upR_nth (xss : List (List Int)) : ∀ (k0 : Int) (k : Nat), k < xss.length → nthR (upR k0 xss) k = upFrom (k0 + (tot (xss.take k) : Nat)) (nthR xss k).length := by
  induction xss with
  | nil => intro k0 k h; simp at h
  | cons x r ih =>
    intro k0 k h
    cases k with
    | zero => simp [nthR, upR, tot]
    | succ k =>
      have h' : k < r.length := by simpa using h
      have := ih (k0 + (x.length : Int)) k h'
      rw [show nthR (upR k0 (x :: r)) (k + 1) = nthR (upR (k0 + (x.length : Int)) r) k by simp [nthR, upR], this,
        show nthR (x :: r) (k + 1) = nthR r k by simp [nthR]]
      congr 1
      simp only [List.take_succ_cons, tot, List.map_cons, List.sum_cons]
      omega

theorem Within.grownAt {w w' : World} {g : Nat} (h : Within g (g + 1) w w') : w.grownBy w' (some g) :=
  ⟨h.os, h.tape, h.output, h.size, fun i hi hne => h.block i hi (by
    have : i ≠ g := fun e => hne (by rw [e])
    omega)⟩
theorem Within.wide {w w' : World} {lo hi lo' hi' : Nat} (h : Within lo' hi' w w') (h1 : lo ≤ lo') (h2 : hi' ≤ hi) : Within lo hi w w' :=
  ⟨h.os, h.tape, h.output, h.size, fun i hi hd => h.block i hi (by omega)⟩
theorem Own.tight {w : World} {lo hi g n c : Nat} {xs : List Int} (h : Own w lo hi (some ⟨g, 0, none⟩) n c xs) : Own w g (g + 1) (some ⟨g, 0, none⟩) n c xs := by
  refine ⟨⟨h.row.1, ?_⟩, fun a ha => by injection ha with ha; subst ha; exact Nat.lt_succ_self _⟩
  rcases h.row.2 with ⟨h0, _⟩ | ⟨g', cap, cur, hv, hl, hr⟩
  · cases h0
  · refine .inr ⟨g', cap, cur, hv, ?_, hr⟩
    injection hv with a
    injection a with a
    injection a with a
    omega

/-- One row of the call's own is written anew. -/
theorem Own2.mark {w : World} {lo hi : Nat} {p : Option Addr} {n c : Nat} {rows : List Row} {xss : List (List Int)} (h : Own2 w lo hi p n c rows xss) (k : Nat) (hk : k < rows.length) :
    ∃ lo' hi', Own w lo' hi' rows[k].1 rows[k].2.1 rows[k].2.2 (nthR xss k) ∧ ∀ (w' : World) (ys : List Int), Own w' lo' hi' rows[k].1 rows[k].2.1 rows[k].2.2 ys → Within lo' hi' w w' → Own2 w' lo hi p n c rows (xss.set k ys) ∧ Within lo hi w w' := by
  have hT : 3 ≠ 29 := by decide
  have hc := h.count
  have hl := h.len
  have hin := h.inner k hk
  rcases hin.form with ⟨hp, hn, hcc⟩ | ⟨g, hp, hg1, hg2, hg3, _⟩
  · have hlh : lo ≤ hi := by
      rcases h.outer.form with ⟨_, hn0, _⟩ | ⟨g, _, h1, h2, _⟩
      · omega
      · omega
    have e0 : nthR xss k = [] := by
      have := hin.len
      rw [hn] at this
      exact List.length_eq_zero_iff.1 this
    refine ⟨lo, lo, ?_, fun w' ys ho hw => ?_⟩
    · rw [hp, hn, hcc, e0]; exact Own.nil _ _ _
    · have e1 : ys = [] := by
        have := ho.len
        rw [hn] at this
        exact List.length_eq_zero_iff.1 this
      subst e1
      have e2 : xss.set k [] = xss := by
        rw [← e0, nthR_eq (by omega)]; exact List.set_getElem_self _
      rw [e2]
      exact ⟨h.within hw (.inr (Nat.le_refl _)), hw.wide (Nat.le_refl _) hlh⟩
  · refine ⟨g, g + 1, ?_, fun w' ys ho hw => ⟨⟨?_, by simpa using hl, fun j hj => ?_, h.apart⟩, hw.wide hg1 hg2⟩⟩
    · rw [hp] at hin ⊢; exact hin.tight
    · exact h.outer.kept (q := rows[k].1) (by rw [hp]; exact hw.grownAt) (hin.v.ne h.outer hT)
    · by_cases hjk : k = j
      · subst hjk
        rw [show nthR (xss.set k ys) k = ys by rw [nthR_eq (by simp; omega)]; simp]
        exact ho.widen hg1 hg2
      · rw [show nthR (xss.set k ys) j = nthR xss j by rw [nthR_eq (by simp; omega), nthR_eq (by omega), List.getElem_set_ne hjk]]
        have hap : blk rows[k].1 ≠ blk rows[j].1 ∨ rows[j].1 = none := by
          have h2 := List.pairwise_iff_getElem.1 h.apart
          by_cases hlt : k < j
          · rcases h2 k j hk hj hlt with h3 | h3
            · exact .inl h3
            · rw [hp] at h3; cases h3
          · rcases h2 j k hj hk (by omega) with h3 | h3
            · exact .inl fun e => h3 e.symm
            · exact .inr h3
        exact (h.inner j hj).kept (q := rows[k].1) (by rw [hp]; exact hw.grownAt) hap

theorem Own2.rowAt {w : World} {lo hi : Nat} {p : Option Addr} {n c : Nat} {rows : List Row} {xss : List (List Int)} (h : Own2 w lo hi p n c rows xss) (k : Nat) (hlt : k < n) (hk : k < rows.length) :
    ∃ g, p = some ⟨g, 0, none⟩ ∧ w.cell? ⟨g, k, none⟩ = some (.slice rows[k].1 rows[k].2.1 rows[k].2.2) := by
  rcases h.outer.form with ⟨_, rfl, _⟩ | ⟨g, rfl, _⟩
  · omega
  · have hcell := h.outer.cell (k := k) (by omega)
    rw [List.getElem?_map, List.getElem?_eq_getElem hk] at hcell
    exact ⟨g, rfl, hcell⟩

theorem Within.trans {lo hi : Nat} {a b d : World} (h : Within lo hi a b) (h' : Within lo hi b d) : Within lo hi a d :=
  ⟨h'.os.trans h.os, h'.tape.trans h.tape, h'.output.trans h.output, Nat.le_trans h.size h'.size, fun i hi hd => (h'.block i (Nat.lt_of_lt_of_le hi h.size) hd).trans (h.block i hi hd)⟩

end Go.Proofs.YthdonnkekggbbaaGreatDoor

/- Plain laws of numbers that wrap at 64 bits. Conditions: none. -/
namespace Go.Proofs.YthdonnkekggbbaaGreatDoor
open Go.RowKit
set_option linter.unusedVariables false
set_option linter.unusedSimpArgs false
set_option maxRecDepth 100000

theorem wrap64_dvd (a : Int) : (18446744073709551616 : Int) ∣ wrap64 a - a := by unfold wrap64; omega
theorem wrap64_congr {a b : Int} (h : (18446744073709551616 : Int) ∣ a - b) : wrap64 a = wrap64 b := by unfold wrap64; omega
theorem wrap64_wrap (a : Int) : wrap64 (wrap64 a) = wrap64 a := wrap64_congr (wrap64_dvd a)
theorem wrap64_add_l (a b : Int) : wrap64 (wrap64 a + b) = wrap64 (a + b) := wrap64_congr (by have := wrap64_dvd a; omega)
theorem wrap64_add_r (a b : Int) : wrap64 (a + wrap64 b) = wrap64 (a + b) := wrap64_congr (by have := wrap64_dvd b; omega)
theorem wrap64_sub_l (a b : Int) : wrap64 (wrap64 a - b) = wrap64 (a - b) := wrap64_congr (by have := wrap64_dvd a; omega)
theorem wrap64_sub_r (a b : Int) : wrap64 (a - wrap64 b) = wrap64 (a - b) := wrap64_congr (by have := wrap64_dvd b; omega)
theorem wrap64_neg (a : Int) : wrap64 (-wrap64 a) = wrap64 (-a) := wrap64_congr (by have := wrap64_dvd a; omega)
theorem wrap64_mul_l (a b : Int) : wrap64 (wrap64 a * b) = wrap64 (a * b) := wrap64_congr (by
  have h := Int.dvd_trans (wrap64_dvd a) (Int.dvd_mul_right _ b)
  rwa [Int.sub_mul] at h)
theorem wrap64_mul_r (a b : Int) : wrap64 (a * wrap64 b) = wrap64 (a * b) := by
  rw [Int.mul_comm, wrap64_mul_l, Int.mul_comm]
theorem wrap64_id {a : Int} (h : -9223372036854775808 ≤ a) (h' : a ≤ 9223372036854775807) : wrap64 a = a := IntWalk.wrap64_in a ⟨h, h'⟩
theorem wrap64_range (a : Int) : -9223372036854775808 ≤ wrap64 a ∧ wrap64 a ≤ 9223372036854775807 := by unfold wrap64; omega

/-- At most B in size. -/
def Abs (B a : Int) : Prop := -B ≤ a ∧ a ≤ B
theorem Abs.mul {A B a b : Int} (ha : Abs A a) (hb : Abs B b) : Abs (A * B) (a * b) := by
  obtain ⟨a1, a2⟩ := ha
  obtain ⟨b1, b2⟩ := hb
  have hA : 0 ≤ A := by omega
  have hB : 0 ≤ B := by omega
  have h : (a * b).natAbs ≤ (A * B).natAbs := by
    rw [Int.natAbs_mul, Int.natAbs_mul]
    exact Nat.mul_le_mul (by omega) (by omega)
  have h2 : 0 ≤ A * B := Int.mul_nonneg hA hB
  unfold Abs
  omega
theorem Abs.add {A B a b : Int} (ha : Abs A a) (hb : Abs B b) : Abs (A + B) (a + b) := by unfold Abs at *; omega
theorem Abs.sub {A B a b : Int} (ha : Abs A a) (hb : Abs B b) : Abs (A + B) (a - b) := by unfold Abs at *; omega
theorem Abs.neg {A a : Int} (ha : Abs A a) : Abs A (-a) := by unfold Abs at *; omega
theorem Abs.mono {A B a : Int} (ha : Abs A a) (h : A ≤ B) : Abs B a := by unfold Abs at *; omega
theorem Abs.wrap {A a : Int} (ha : Abs A a) (h : A ≤ 9223372036854775807) : wrap64 a = a := wrap64_id (by unfold Abs at ha; omega) (by unfold Abs at ha; omega)

end Go.Proofs.YthdonnkekggbbaaGreatDoor

/- Plain law of decimal numerals: what the program and the reference print and read. No program in sight. Conditions: none. -/
namespace Go.Proofs.YthdonnkekggbbaaGreatDoor
set_option linter.unusedVariables false
set_option linter.unusedSimpArgs false
set_option maxRecDepth 100000

def isDig (c : UInt8) : Prop := 48 ≤ c.toNat ∧ c.toNat ≤ 57
/-- What a digit stands for. -/
def dgv (c : UInt8) : Nat := c.toNat - 48
theorem isDig.lt {c : UInt8} (h : isDig c) : dgv c < 10 := by unfold isDig at h; unfold dgv; omega
/-- The number that digits spell behind a number. -/
def dstep (a : Nat) (c : UInt8) : Nat := a * 10 + dgv c
def dvf (a : Nat) (l : List UInt8) : Nat := l.foldl dstep a
theorem dvf_nil (a : Nat) : dvf a [] = a := rfl
theorem dvf_cons' (a : Nat) (c : UInt8) (r : List UInt8) : dvf a (c :: r) = dvf (dstep a c) r := List.foldl_cons ..
theorem dvf_cons (a : Nat) (c : UInt8) (r : List UInt8) : dvf a (c :: r) = dvf (a * 10 + dgv c) r := by rw [dvf_cons', dstep]
theorem dvf_append (l r : List UInt8) (a : Nat) : dvf a (l ++ r) = dvf (dvf a l) r := List.foldl_append ..
theorem dvf_ge (l : List UInt8) : ∀ (a : Nat), a ≤ dvf a l := by
  induction l with
  | nil => intro a; exact Nat.le_refl _
  | cons c r ih =>
    intro a
    have h1 := ih (a * 10 + dgv c)
    rw [dvf_cons]
    omega
theorem dvf_lt (l : List UInt8) : ∀ (a : Nat), (∀ c ∈ l, isDig c) → dvf a l < (a + 1) * 10 ^ l.length := by
  induction l with
  | nil => intro a _; rw [dvf_nil, List.length_nil, Nat.pow_zero]; omega
  | cons c r ih =>
    intro a h
    have h1 := ih (a * 10 + dgv c) fun x hx => h x (List.mem_cons_of_mem _ hx)
    have h2 := (h c List.mem_cons_self).lt
    rw [dvf_cons, List.length_cons, Nat.pow_succ]
    generalize 10 ^ r.length = p at *
    generalize dvf (a * 10 + dgv c) r = q at *
    generalize dgv c = d at *
    have h3 : (a * 10 + d + 1) * p ≤ ((a + 1) * 10) * p := Nat.mul_le_mul_right _ (by omega)
    have h4 : (a + 1) * (p * 10) = ((a + 1) * 10) * p := by rw [Nat.mul_comm p 10, ← Nat.mul_assoc]
    rw [h4]
    exact Nat.lt_of_lt_of_le h1 h3

theorem dig_toNat {d : Nat} (h : d < 10) : (UInt8.ofNat (48 + d)).toNat = 48 + d := by
  simp; omega
theorem decDigits_small {u : Nat} (h : u < 10) : Lib.decDigits u = [UInt8.ofNat (48 + u)] := by rw [Lib.decDigits, dif_pos h]
theorem decDigits_big {u : Nat} (h : ¬ u < 10) : Lib.decDigits u = Lib.decDigits (u / 10) ++ [UInt8.ofNat (48 + u % 10)] := by rw [Lib.decDigits, dif_neg h]
theorem decDigits_dig (u : Nat) : ∀ c ∈ Lib.decDigits u, isDig c := by
  induction u using Nat.strongRecOn with
  | _ u ih =>
    by_cases h : u < 10
    · rw [decDigits_small h]
      intro c hc
      rw [List.mem_singleton] at hc
      subst hc
      unfold isDig
      rw [dig_toNat h]; omega
    · rw [decDigits_big h]
      intro c hc
      rcases List.mem_append.1 hc with hc | hc
      · exact ih (u / 10) (by omega) c hc
      · rw [List.mem_singleton] at hc
        subst hc
        unfold isDig
        rw [dig_toNat (by omega)]; omega
theorem decDigits_val (u : Nat) : dvf 0 (Lib.decDigits u) = u := by
  induction u using Nat.strongRecOn with
  | _ u ih =>
    by_cases h : u < 10
    · rw [decDigits_small h]
      rw [dvf_cons, dvf_nil, dgv, dig_toNat h]; omega
    · rw [decDigits_big h, dvf_append, ih (u / 10) (by omega)]
      rw [dvf_cons, dvf_nil, dgv, dig_toNat (by omega)]; omega
theorem decDigits_len (u : Nat) : (Lib.decDigits u).length = Lib.nDigits u := by rw [Lib.decDigits_eq]; simp
theorem nDigits_le {u k : Nat} (h : u < 10 ^ (k + 1)) : Lib.nDigits u ≤ k + 1 := by
  induction k generalizing u with
  | zero => rw [Lib.nDigits_small (by simpa using h)]; omega
  | succ k ih =>
    by_cases hu : u < 10
    · rw [Lib.nDigits_small hu]; omega
    · rw [Lib.nDigits_big hu]
      have := ih (u := u / 10) (by rw [Nat.pow_succ] at h; omega)
      omega
theorem decDigits_ne (u : Nat) : Lib.decDigits u ≠ [] := fun h => by
  have h1 := decDigits_len u
  have h2 := Lib.nDigits_pos u
  rw [h] at h1; simp at h1; omega
theorem decDigits_head (u : Nat) : ∃ c r, Lib.decDigits u = c :: r ∧ isDig c := by
  cases h : Lib.decDigits u with
  | nil => exact absurd h (decDigits_ne u)
  | cons c r => exact ⟨c, r, rfl, decDigits_dig u c (by rw [h]; simp)⟩

/-- The digits of a number, none for nought. -/
def digs (u : Nat) : List UInt8 := if u = 0 then [] else Lib.decDigits u
theorem digs_step {u : Nat} (h : u ≠ 0) : digs u = digs (u / 10) ++ [UInt8.ofNat (48 + u % 10)] := by
  unfold digs
  rw [if_neg h]
  by_cases h1 : u < 10
  · rw [decDigits_small h1, if_pos (by omega), List.nil_append, Nat.mod_eq_of_lt h1]
  · rw [decDigits_big h1, if_neg (by omega)]

/-- The number that a text spells, a sign ahead. -/
def sval (l : List UInt8) : Int := if l.head? = some 45 then -(dvf 0 l.tail : Int) else (dvf 0 l : Int)
theorem itoa_neg {n : Int} (h : n < 0) : Lib.itoa n = 45 :: Lib.decDigits n.natAbs := by rw [Lib.itoa, if_pos h]
theorem itoa_pos {n : Int} (h : ¬ n < 0) : Lib.itoa n = Lib.decDigits n.toNat := by rw [Lib.itoa, if_neg h]
theorem dig_ne {c : UInt8} (h : isDig c) : c ≠ 45 := fun e => by rw [e] at h; unfold isDig at h; simp at h
theorem sval_itoa (n : Int) : sval (Lib.itoa n) = n := by
  by_cases h : n < 0
  · rw [itoa_neg h, sval, if_pos (by rfl), List.tail_cons, decDigits_val]; omega
  · rw [itoa_pos h]
    obtain ⟨c, r, e, hc⟩ := decDigits_head n.toNat
    have h1 := decDigits_val n.toNat
    rw [sval, if_neg (by rw [e]; simpa using dig_ne hc), h1]; omega
theorem itoa_inj {n m : Int} (h : Lib.itoa n = Lib.itoa m) : n = m := by rw [← sval_itoa n, h, sval_itoa]

/-- What both parsers of numbers give. -/
def parseW (k : Int) (l : List UInt8) : Int × Bool := if Lib.itoa (sval l) = l ∧ -k ≤ sval l ∧ sval l ≤ k then (sval l, true) else (0, false)
theorem parseW_yes {k : Int} {l : List UInt8} {n : Int} (h : Lib.itoa n = l) (h1 : -k ≤ n) (h2 : n ≤ k) : parseW k l = (n, true) := by
  have e : sval l = n := by rw [← h, sval_itoa]
  rw [parseW, e, if_pos ⟨h, h1, h2⟩]
theorem parseW_no {k : Int} {l : List UInt8} (h : ∀ n, Lib.itoa n = l → ¬ (-k ≤ n ∧ n ≤ k)) : parseW k l = (0, false) := by
  rw [parseW, if_neg fun ⟨h1, h2⟩ => h _ h1 h2]
theorem parseW_true {k : Int} {l : List UInt8} (h : (parseW k l).2 = true) : Lib.itoa (parseW k l).1 = l ∧ -k ≤ (parseW k l).1 ∧ (parseW k l).1 ≤ k := by
  unfold parseW at h ⊢
  split at h
  · rename_i h1; rw [if_pos h1]; exact h1
  · cases h
theorem parseW_cases (k : Int) (l : List UInt8) : (∃ n, Lib.itoa n = l ∧ -k ≤ n ∧ n ≤ k ∧ parseW k l = (n, true)) ∨ ((∀ n, Lib.itoa n = l → ¬ (-k ≤ n ∧ n ≤ k)) ∧ parseW k l = (0, false)) := by
  by_cases h : ∃ n, Lib.itoa n = l ∧ -k ≤ n ∧ n ≤ k
  · obtain ⟨n, h1, h2, h3⟩ := h
    exact .inl ⟨n, h1, h2, h3, parseW_yes h1 h2 h3⟩
  · have h' : ∀ n, Lib.itoa n = l → ¬ (-k ≤ n ∧ n ≤ k) := fun n h1 h2 => h ⟨n, h1, h2⟩
    exact .inr ⟨h', parseW_no h'⟩

/-! ### The library's parser -/
theorem parseUint10_ok : ∀ (l : List UInt8) (a : Nat), (∀ c ∈ l, isDig c) → dvf a l < 18446744073709551616 → Lib.parseUint10 a l = .ok (dvf a l)
  | [], a, _, _ => rfl
  | c :: r, a, h, hl => by
    have hc := h c (by simp)
    have hge := dvf_ge r (a * 10 + dgv c)
    rw [dvf_cons] at hl ⊢
    unfold dgv at hl hge ⊢
    rw [Lib.parseUint10, if_pos (show 48 ≤ c.toNat ∧ c.toNat ≤ 57 from hc), if_neg (by omega), if_neg (by omega)]
    exact parseUint10_ok r _ (fun x hx => h x (List.mem_cons_of_mem _ hx)) hl
theorem atoi_itoa {n : Int} (h0 : -9223372036854775808 ≤ n) (h1 : n ≤ 9223372036854775807) : Lib.atoiAll (Lib.itoa n) = .ok n := by
  by_cases h : n < 0
  · have hp : Lib.parseMag (Lib.decDigits n.natAbs) = .ok n.natAbs := by
      have := parseUint10_ok _ 0 (decDigits_dig n.natAbs) (by rw [decDigits_val]; omega)
      rw [decDigits_val] at this
      rw [Lib.parseMag, if_neg (decDigits_ne _), this]
    rw [itoa_neg h, Lib.atoiAll]
    simp only [show (45 : UInt8).toNat = 45 from rfl, or_true, if_true, hp, not_true_eq_false, false_and, if_false, true_and]
    rw [if_neg (by omega)]
    congr 1; omega
  · have hp : Lib.parseMag (Lib.decDigits n.toNat) = .ok n.toNat := by
      have := parseUint10_ok _ 0 (decDigits_dig n.toNat) (by rw [decDigits_val]; omega)
      rw [decDigits_val] at this
      rw [Lib.parseMag, if_neg (decDigits_ne _), this]
    rw [itoa_pos h]
    obtain ⟨c, r, e, hc⟩ := decDigits_head n.toNat
    rw [e] at hp ⊢
    unfold isDig at hc
    have e1 : ¬ (c.toNat = 43 ∨ c.toNat = 45) := by omega
    have e2 : ¬ c.toNat = 45 := by omega
    have e3 : ¬ 9223372036854775808 ≤ n.toNat := by omega
    have e4 : ((n.toNat : Nat) : Int) = n := by omega
    rw [Lib.atoiAll]
    rw [if_neg e1, hp]
    simp [e2, e3, e4]

/-! ### The reference's reader: at most so many digits -/
theorem natAbs_lt_pow {n : Int} {k : Nat} (h : (Lib.decDigits n.natAbs).length ≤ k) : n.natAbs < 10 ^ k := by
  have h1 := Lib.lt_pow_nDigits n.natAbs
  rw [decDigits_len] at h
  exact Nat.lt_of_lt_of_le h1 (Nat.pow_le_pow_right (by omega) h)

end Go.Proofs.YthdonnkekggbbaaGreatDoor
