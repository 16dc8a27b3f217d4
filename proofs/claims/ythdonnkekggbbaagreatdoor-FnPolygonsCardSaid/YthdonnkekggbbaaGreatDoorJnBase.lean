/- Texts joined: Base Open Vec Ops Mark VecOps VecFns Gcd. -/
import Derived.WalkKit
import Derived.Deep.QuietTactic
import Derived.BigQuiet
import Derived.Deep.RegionWith
import Derived.Deep.RegionHeld3
import Derived.Deep.DeepCutAuto
import Derived.IntWalk
import Derived.Lib.Hide
import Derived.WalkSpells
import Derived.WalkLawsBesides
import Derived.Outline
import Derived.Deep.DeepFit
import Derived.Test.YthdonnkekggbbaaGreatDoorRows
import Derived.ProofKit
import Derived.OpenShut
import Derived.ShutString
import Derived.ChangeOld
import Derived.Deep.SlicePairs
import Derived.Deep.Matrix
import Derived.Lib.SmallJoins
import Derived.Maps.AppendAt
import Derived.Deep.RegionLaw
import Derived.BigRegion

/- Words for memory that the walks of this seat share: a slice of numbers that is read, a slice of numbers that the call owns, a frame that leaves all but an interval of blocks alone. Conditions: none. -/
namespace Go.Proofs.YthdonnkekggbbaaGreatDoor
open Go.RowKit
set_option linter.unusedVariables false
set_option linter.unusedSimpArgs false
set_option maxRecDepth 100000

theorem ret_bool {a b : Bool} (h : a = b) : Ending.returned (.bool a) = .returned (.bool b) := by rw [h]
theorem ret_int {k : IntKind} {a b : Int} (h : a = b) : Ending.returned (.int k a) = .returned (.int k b) := by rw [h]

/-- Element k of a list of numbers, behind a name that the walk leaves alone. -/
def nth (xs : List Int) (k : Nat) : Int := xs.getD k 0

theorem nth_eq {xs : List Int} {k : Nat} (h : k < xs.length) : nth xs k = xs[k] := by simp [nth, List.getD, h]

theorem drop_nth {xs : List Int} {k : Nat} (h : k < xs.length) : xs.drop k = nth xs k :: xs.drop (k + 1) := by
  rw [nth_eq h]; exact List.drop_eq_getElem_cons h

theorem take_nth {xs : List Int} {k : Nat} (h : k < xs.length) : xs.take (k + 1) = xs.take k ++ [nth xs k] := by
  rw [nth_eq h]; exact List.take_succ_eq_append_getElem h

/-- The slice (p, n) reads as the numbers xs. -/
structure Ints (w : World) (p : Option Addr) (n : Nat) (xs : List Int) : Prop where
  len : xs.length = n
  cell : ∀ k, k < n → ∃ b o, p = some ⟨b, o, none⟩ ∧ w.cell? ⟨b, o + k, none⟩ = some (.int .i64 (nth xs k))

theorem Ints.keep {w w' : World} {p : Option Addr} {n : Nat} {xs : List Int} (h : Ints w p n xs)
    (hk : ∀ a : Addr, a.block < w.heap.size → w'.cell? a = w.cell? a) : Ints w' p n xs :=
  ⟨h.len, fun k hn => by
    obtain ⟨b, o, hp, hc⟩ := h.cell k hn
    exact ⟨b, o, hp, (hk _ (World.block_lt_of_cell? w _ hc)).trans hc⟩⟩

theorem Ints.below {w w' : World} {p : Option Addr} {n : Nat} {xs : List Int} (h : Ints w p n xs) (hb : Below w.heap.size w w') : Ints w' p n xs :=
  h.keep fun _ ha => hb.cell ha

theorem Ints.drewN {w : World} {p : Option Addr} {n : Nat} {xs : List Int} (h : Ints w p n xs) (q : Nat) : Ints (w.drewN q) p n xs := ⟨h.len, h.cell⟩

theorem Ints.nil (w : World) (p : Option Addr) : Ints w p 0 [] := ⟨rfl, fun _ h => absurd h (by omega)⟩

theorem Ints.eq {w : World} {p : Option Addr} {n : Nat} {xs ys : List Int} (h : Ints w p n xs) (h' : Ints w p n ys) : xs = ys := by
  refine List.ext_getElem (h.len.trans h'.len.symm) fun i h1 h2 => ?_
  obtain ⟨b, o, hp, hc⟩ := h.cell i (by rw [← h.len]; exact h1)
  obtain ⟨b', o', hp', hc'⟩ := h'.cell i (by rw [← h'.len]; exact h2)
  rw [hp] at hp'
  injection hp' with hp'
  injection hp' with e1 e2
  subst e1; subst e2
  rw [hc] at hc'
  injection hc' with hc'
  injection hc' with _ e
  rw [nth_eq h1, nth_eq h2] at e
  exact e

/-- Outside the blocks lo .. hi - 1 the world w' is as w was. -/
structure Within (lo hi : Nat) (w w' : World) : Prop where
  os : w'.os = w.os
  tape : w'.tape = w.tape
  output : w'.output = w.output
  size : w.heap.size ≤ w'.heap.size
  block : ∀ k, k < w.heap.size → (k < lo ∨ hi ≤ k) → w'.heap[k]? = w.heap[k]?

theorem Within.of_below {w w' : World} {lo hi : Nat} (h : Below w.heap.size w w') : Within lo hi w w' :=
  ⟨h.os, h.tape, h.output, h.size, fun k hk _ => h.block k hk⟩

theorem Within.below {w w' : World} {lo hi B : Nat} (h : Within lo hi w w') (hB : B ≤ lo) (hs : B ≤ w.heap.size) : Below B w w' :=
  ⟨h.os, h.tape, h.output, h.size, fun k hk => h.block k (by omega) (.inl (by omega))⟩

/-- The slice (p, n, c) is a row of numbers of the call's own, in a block from lo to hi - 1. -/
structure Own (w : World) (lo hi : Nat) (p : Option Addr) (n c : Nat) (xs : List Int) : Prop where
  row : w.ownsRow lo 3 1 (.slice p n c) n (xs.map (Value.int .i64))
  top : ∀ a, p = some a → a.block < hi

theorem Own.len {w : World} {lo hi : Nat} {p : Option Addr} {n c : Nat} {xs : List Int} (h : Own w lo hi p n c xs) : xs.length = n := by
  have := h.row.1; simpa using this

theorem Own.ints {w : World} {lo hi : Nat} {p : Option Addr} {n c : Nat} {xs : List Int} (h : Own w lo hi p n c xs) : Ints w p n xs := by
  refine ⟨h.len, fun k hk => ?_⟩
  have hl := h.len
  rcases h.row.2 with ⟨_, h0⟩ | ⟨g, cap, cur, hv, _, hg, _, _, hs, ht⟩
  · omega
  · injection hv with hp _ _
    subst hp
    refine ⟨g, 0, rfl, ?_⟩
    have h2 : cur.toList[k]? = some (.int .i64 (nth xs k)) := by
      have h3 : (cur.toList.take (n * 1))[k]? = (xs.map (Value.int .i64))[k]? := by rw [ht]
      rw [List.getElem?_take, if_pos (by omega)] at h3
      rw [h3, List.getElem?_map, List.getElem?_eq_getElem (by omega), nth_eq (by omega)]
      rfl
    simp only [Nat.zero_add]
    rw [cell_of_row w g k cur 3 (0, 0) hg]
    simpa using h2

theorem Own.lt {w : World} {lo hi : Nat} {p : Option Addr} {n c : Nat} {xs : List Int} (h : Own w lo hi p n c xs) :
    ∀ a, p = some a → lo ≤ a.block ∧ a.block < hi ∧ a.block < w.heap.size := by
  intro a ha
  have := h.row.lt a.block (by rw [ha]; rfl)
  exact ⟨this.1, h.top a ha, this.2⟩

theorem Own.within {w w' : World} {lo hi lo' hi' : Nat} {p : Option Addr} {n c : Nat} {xs : List Int} (h : Own w lo hi p n c xs)
    (hw : Within lo' hi' w w') (hd : hi ≤ lo' ∨ hi' ≤ lo) : Own w' lo hi p n c xs := by
  refine ⟨⟨h.row.1, ?_⟩, h.top⟩
  rcases h.row.2 with h0 | ⟨g, cap, cur, hv, hl, hg, hr⟩
  · exact .inl h0
  · refine .inr ⟨g, cap, cur, hv, hl, ?_, hr⟩
    have hlt : g < hi := by
      injection hv with hp _ _
      exact h.top _ hp
    rw [hw.block g (Array.getElem?_eq_some_iff.1 hg).1 (by omega)]
    exact hg

theorem Own.below {w w' : World} {lo hi : Nat} {p : Option Addr} {n c : Nat} {xs : List Int} (h : Own w lo hi p n c xs)
    (hb : Below w.heap.size w w') : Own w' lo hi p n c xs :=
  h.within (lo' := hi) (hi' := hi) (Within.of_below hb) (.inl (Nat.le_refl _))

theorem Own.widen {w : World} {lo hi lo' hi' : Nat} {p : Option Addr} {n c : Nat} {xs : List Int} (h : Own w lo hi p n c xs)
    (hl : lo' ≤ lo) (hh : hi ≤ hi') : Own w lo' hi' p n c xs := by
  refine ⟨⟨h.row.1, ?_⟩, fun a ha => Nat.lt_of_lt_of_le (h.top a ha) hh⟩
  rcases h.row.2 with h0 | ⟨g, cap, cur, hv, hl', hr⟩
  · exact .inl h0
  · exact .inr ⟨g, cap, cur, hv, Nat.le_trans hl hl', hr⟩

theorem Own.frozen {w : World} {lo hi g o : Nat} {n c : Nat} {xs : List Int} (h : Own w lo hi (some ⟨g, o, none⟩) n c xs) (k : Nat) : w.frozen? ⟨g, k, none⟩ = false := by
  rcases h.row.2 with ⟨h0, _⟩ | ⟨g', cap, cur, hv, _, hg, _⟩
  · cases h0
  · injection hv with hp _ _
    injection hp with hp
    injection hp with e1 _
    subst e1
    simp [World.frozen?, hg]

theorem Own.cell {w : World} {lo hi g o : Nat} {n c : Nat} {xs : List Int} (h : Own w lo hi (some ⟨g, o, none⟩) n c xs) {k : Nat} (hk : k < n) :
    w.cell? ⟨g, k, none⟩ = some (.int .i64 (nth xs k)) := by
  obtain ⟨b, o', hp, hc⟩ := h.ints.cell k hk
  rcases h.row.2 with ⟨h0, _⟩ | ⟨g', cap, cur, hv, _, hg, _⟩
  · cases h0
  · injection hv with hp' _ _
    injection hp' with hp'
    injection hp' with e1 e2
    subst e1; subst e2
    injection hp with hp
    injection hp with e1 e2
    subst e1; subst e2
    simpa using hc

/-- A row of the call's own is nil, or begins at the head of a block. -/
theorem Own.form {w : World} {lo hi : Nat} {p : Option Addr} {n c : Nat} {xs : List Int} (h : Own w lo hi p n c xs) :
    (p = none ∧ n = 0 ∧ c = 0) ∨ ∃ g, p = some ⟨g, 0, none⟩ ∧ lo ≤ g ∧ g < hi ∧ g < w.heap.size ∧ n ≤ c ∧ c ≤ maxLen := by
  rcases h.row.2 with ⟨h0, hn⟩ | ⟨g', cap, cur, hv, hl, hg, hc, hm, _⟩
  · injection h0 with a b c
    exact .inl ⟨a, b, c⟩
  · injection hv with a b c
    subst c
    exact .inr ⟨g', a, hl, h.top _ a, (Array.getElem?_eq_some_iff.1 hg).1, hc, hm⟩

theorem Own.set {w : World} {lo hi g : Nat} {n c : Nat} {xs : List Int} (h : Own w lo hi (some ⟨g, 0, none⟩) n c xs) (k : Nat) (u : Int) :
    Own (w.setCell ⟨g, k, none⟩ (.int .i64 u)) lo hi (some ⟨g, 0, none⟩) n c (xs.set k u) := by
  refine ⟨?_, h.top⟩
  rw [List.map_set]
  exact (h.row.stored (g := g) (cap := c) k (.int .i64 u)).1

/-- The first k of ys, then what zs has from k on. -/
def mix (ys zs : List Int) (k : Nat) : List Int := ys.take k ++ zs.drop k

theorem mix_zero (ys zs : List Int) : mix ys zs 0 = zs := by simp [mix]
theorem mix_all {ys zs : List Int} {k : Nat} (h : ys.length ≤ k) (h' : zs.length ≤ k) : mix ys zs k = ys := by
  simp [mix, List.take_of_length_le h, List.drop_eq_nil_of_le h']
theorem mix_set {ys zs : List Int} {k : Nat} (h : k < ys.length) (h' : k < zs.length) : (mix ys zs k).set k (nth ys k) = mix ys zs (k + 1) := by
  unfold mix
  rw [take_nth h, List.set_append_right _ _ (by simp; omega)]
  have e : k - (ys.take k).length = 0 := by simp; omega
  rw [e, List.drop_eq_getElem_cons h', List.set_cons_zero]
  simp
theorem mix_nth {ys zs : List Int} {k : Nat} (h2 : k ≤ ys.length) : nth (mix ys zs k) k = nth zs k := by
  have hl : (ys.take k).length = k := by simp; omega
  unfold mix nth
  simp [List.getD, List.getElem?_append_right, hl]

/-- A slice that is no longer than it can be, with room behind it: what every walk may ask of a length. -/
theorem Own.small {w : World} {lo hi : Nat} {p : Option Addr} {n c : Nat} {xs : List Int} (h : Own w lo hi p n c xs) : n ≤ 9223372036854775807 := by
  rcases h.form with ⟨_, rfl, _⟩ | ⟨g, _, _, _, _, hc, hm⟩
  · omega
  · unfold maxLen at hm; omega

/-- The numbers k, k + 1, .. -/
def upFrom (k : Int) : Nat → List Int
  | 0 => []
  | n + 1 => k :: upFrom (k + 1) n
theorem upFrom_length (k : Int) (n : Nat) : (upFrom k n).length = n := by
  induction n generalizing k with
  | zero => rfl
  | succ n ih => simp [upFrom, ih]
theorem upFrom_nth (k : Int) (n i : Nat) (h : i < n) : nth (upFrom k n) i = k + i := by
  induction n generalizing k i with
  | zero => omega
  | succ n ih =>
    cases i with
    | zero => simp [upFrom, nth, List.getD]
    | succ i =>
      have := ih (k + 1) i (by omega)
      simp only [upFrom, nth, List.getD_cons_succ] at this ⊢
      rw [this]; omega

end Go.Proofs.YthdonnkekggbbaaGreatDoor

/- The arguments of a law, opened: what a slice of numbers that came in reads as. Conditions: none. -/
namespace Go.Proofs.YthdonnkekggbbaaGreatDoor
open Go.ChangeShapes Go.WideShapes Go.ChangeAt Go.RowKit Go.Deep
set_option linter.unusedVariables false
set_option linter.unusedSimpArgs false
set_option maxRecDepth 100000

theorem own : ownKnob Tryz.prog.godebug = none := by kernel_rfl
theorem laidOut : laidOutB Tryz.prog = true := by kernel_rfl

theorem ints_of_cells {w : World} {a : Addr} {zs : List Int} {len : Nat} (hl : len ≤ zs.length) (hc : ∀ i, i < zs.length → w.cell? (a.add i) = some (.int .i64 (zs.getD i 0))) :
    Ints w (some a) len (zs.take len) := by
  refine ⟨by simp [Nat.min_eq_left hl], fun k hk => ?_⟩
  obtain ⟨b, o, spot⟩ := a
  have h0 := hc 0 (by omega)
  have hs : spot = none := by simpa [Addr.add] using World.cell?_spot h0
  subst hs
  refine ⟨b, o, rfl, ?_⟩
  have h1 := hc k (by omega)
  rw [Addr.add_lit] at h1
  rw [h1]
  simp [nth, List.getD, hk]

section
variable {H : Type} {enc : TypeId × Value → H} {W : World} {v : Value} {d : DataW H} {p : List MemPlace}
set_option maxRecDepth 100000 in
theorem openInts {base : Nat} (hv : Value.okWide Tryz.prog W .any base 29 v) (h : DataW.Trod enc Tryz.prog W 0 (fun _ => true) true 29 v d p) :
    ∃ q n c xs, v = .slice q n c ∧ n ≤ 9223372036854775807 ∧ Ints W q n xs := by
  obtain ⟨q, n, c, rfl⟩ := okWide_slice Tryz.underlying29 hv
  obtain ⟨fuel, hf⟩ := h
  rcases open_ints Tryz.underlying29 Tryz.underlying3 (by kernel_rfl) hf with ⟨hcs, _⟩ | ⟨x, l, c', zs, hcs, _, hl, hm, hz, _, hcell, hwz⟩
  · simp [Value.cells] at hcs
    obtain ⟨rfl, rfl, rfl⟩ := hcs
    exact ⟨none, 0, 0, [], rfl, by omega, Ints.nil _ _⟩
  · simp [Value.cells] at hcs
    obtain ⟨rfl, rfl, rfl⟩ := hcs
    unfold maxLen at hm
    refine ⟨_, n, c, zs.take n, rfl, by omega, ints_of_cells (by simp at hz; omega) hcell⟩

set_option maxRecDepth 100000 in
theorem openInt {base : Nat} (hv : Value.okWide Tryz.prog W .any base 3 v) (h : DataW.Trod enc Tryz.prog W 0 (fun _ => true) true 3 v d p) :
    ∃ n, v = .int .i64 n ∧ -9223372036854775808 ≤ n ∧ n ≤ 9223372036854775807 := by
  obtain ⟨n, rfl, rfl, rfl, wn⟩ := open_int Tryz.underlying3 hv h
  have := bounds_i64 wn
  exact ⟨n, rfl, this.1, this.2⟩
end

end Go.Proofs.YthdonnkekggbbaaGreatDoor

/- Contracts of the functions on single numbers and on lists of numbers that only read. Conditions: lengths fit an int. -/
namespace Go.Proofs.YthdonnkekggbbaaGreatDoor
open Go.RowKit
set_option linter.unusedVariables false
set_option linter.unusedSimpArgs false
set_option maxRecDepth 100000

/-- low <= n <= high -/
def inR (n lo hi : Int) : Bool := decide (lo ≤ n) && decide (n ≤ hi)
def allR (xs : List Int) (lo hi : Int) : Bool := xs.all fun x => inR x lo hi
def isVec (xs : List Int) : Bool := inR xs.length 1 3 && allR xs (-1000) 1000

theorem inR_true {n lo hi : Int} (h : inR n lo hi = true) : lo ≤ n ∧ n ≤ hi := by simpa [inR] using h
theorem inR_false {n lo hi : Int} (h : inR n lo hi = false) : n < lo ∨ hi < n := by
  simp only [inR, Bool.and_eq_false_iff, decide_eq_false_iff_not] at h
  omega

theorem allR_step {xs : List Int} {k : Nat} {lo hi : Int} (h : k < xs.length) (ha : allR (xs.take k) lo hi = true) (hn : inR (nth xs k) lo hi = true) :
    allR (xs.take (k + 1)) lo hi = true := by
  rw [take_nth h]; simp_all [allR]
theorem allR_stop {xs : List Int} {k : Nat} {lo hi : Int} (h : k < xs.length) (hn : inR (nth xs k) lo hi = false) : allR xs lo hi = false := by
  rw [nth_eq h] at hn
  simp only [allR, List.all_eq_false]
  exact ⟨xs[k], List.getElem_mem h, by simp [hn]⟩

theorem within_any (n lo hi : Int) (w : World) :
    Calls Tryz.prog 63 #[.int .i64 n, .int .i64 lo, .int .i64 hi] w fun e w' => e = .returned (.bool (inR n lo hi)) ∧ w = w' := by
  by_cases h1 : lo ≤ n <;> by_cases h2 : n ≤ hi <;>
  · go_enter Tryz.func63, Tryz.ntmps63
    go_wp2
    go_ret
    exact ⟨by simp [inR, h1, h2], rfl⟩

theorem l1In_any (n lo hi : Int) (w : World) :
    Calls Tryz.prog 64 #[.int .i64 n, .int .i64 lo, .int .i64 hi] w fun e w' => e = .returned (.bool (inR n lo hi)) ∧ w = w' := by
  by_cases h1 : lo ≤ n <;> by_cases h2 : n ≤ hi <;>
  · go_enter Tryz.func64, Tryz.ntmps64
    go_wp2
    go_ret
    exact ⟨by simp [inR, h1, h2], rfl⟩

theorem allWithin_any (p : Option Addr) (n c : Nat) (xs : List Int) (lo hi : Int) (w : World) (hx : Ints w p n xs) (hm : n ≤ 9223372036854775807) :
    Calls Tryz.prog 71 #[.slice p n c, .int .i64 lo, .int .i64 hi] w fun e w' => e = .returned (.bool (allR xs lo hi)) ∧ w = w' := by
  have hl := Lib.hid hx.len
  go_enter Tryz.func71, Tryz.ntmps71
  go_wp2
  go_loop [11] (fun i => ∃ k : Nat, k ≤ n ∧ i = .int .i64 k ∧ Hid (allR (xs.take k) lo hi = true)) (fun i => n - (intOf i).toNat)
  case atStart => exact ⟨0, Nat.zero_le _, rfl, rfl⟩
  case round =>
    obtain ⟨k, hk, rfl, hall⟩ := hrel
    by_cases hlt : k < n
    · obtain ⟨b, o, rfl, hc⟩ := hx.cell k hlt
      have hl' : k < xs.length := by rw [hl.out]; exact hlt
      cases hr : inR (nth xs k) lo hi
      · go_wp2_with (go_at_call 63; (with_reducible refine (within_any _ _ _ _).mono ?_); rintro e w' ⟨rfl, rfl⟩)
        go_ret
        exact ⟨ret_bool (allR_stop hl' hr).symm, rfl⟩
      · go_wp2_with (go_at_call 63; (with_reducible refine (within_any _ _ _ _).mono ?_); rintro e w' ⟨rfl, rfl⟩)
        go_round
        case rel => exact ⟨k + 1, by omega, by go_num, allR_step hl' hall.out hr⟩
        case measure => simp [intOf]; omega
    · go_wp2
      go_ret
      have hkn : k = xs.length := by have := hl.out; omega
      exact ⟨ret_bool (by have := hall.out; rw [hkn, List.take_length] at this; exact this.symm), rfl⟩


theorem l2Small_any (p : Option Addr) (n c : Nat) (xs : List Int) (size : Int) (w : World) (hx : Ints w p n xs) (hm : n ≤ 9223372036854775807) (h0 : 0 ≤ size) (h1 : size ≤ 10000000) :
    Calls Tryz.prog 76 #[.slice p n c, .int .i64 size] w fun e w' => e = .returned (.bool (allR xs (-size) size)) ∧ w = w' := by
  have hl := Lib.hid hx.len
  go_enter Tryz.func76, Tryz.ntmps76
  go_wp2
  go_loop [5] (fun i => ∃ k : Nat, k ≤ n ∧ i = .int .i64 k ∧ Hid (allR (xs.take k) (-size) size = true)) (fun i => n - (intOf i).toNat)
  case atStart => exact ⟨0, Nat.zero_le _, rfl, rfl⟩
  case round =>
    obtain ⟨k, hk, rfl, hall⟩ := hrel
    by_cases hlt : k < n
    · obtain ⟨b, o, rfl, hc⟩ := hx.cell k hlt
      have hl' : k < xs.length := by rw [hl.out]; exact hlt
      cases hr : inR (nth xs k) (-size) size
      · go_wp2_with (go_at_call 64; (with_reducible refine (l1In_any _ _ _ _).mono ?_); rintro e w' ⟨rfl, rfl⟩)
        go_ret
        exact ⟨ret_bool (allR_stop hl' hr).symm, rfl⟩
      · go_wp2_with (go_at_call 64; (with_reducible refine (l1In_any _ _ _ _).mono ?_); rintro e w' ⟨rfl, rfl⟩)
        go_round
        case rel => exact ⟨k + 1, by omega, by go_num, allR_step hl' hall.out hr⟩
        case measure => simp [intOf]; omega
    · go_wp2
      go_ret
      have hkn : k = xs.length := by have := hl.out; omega
      exact ⟨ret_bool (by have := hall.out; rw [hkn, List.take_length] at this; exact this.symm), rfl⟩

theorem implIsVector_any (p : Option Addr) (n c : Nat) (xs : List Int) (w : World) (hx : Ints w p n xs) (hm : n ≤ 9223372036854775807) :
    Calls Tryz.prog 56 #[.slice p n c] w fun e w' => e = .returned (.bool (isVec xs)) ∧ w = w' := by
  cases h : inR (n : Int) 1 3
  all_goals
    go_enter Tryz.func56, Tryz.ntmps56
    go_wp2_with (first | (go_at_call 63; (with_reducible refine (within_any _ _ _ _).mono ?_); rintro e w' ⟨rfl, rfl⟩) | (go_at_call 71; (with_reducible refine (allWithin_any _ _ _ _ _ _ _ hx hm).mono ?_); rintro e w' ⟨rfl, rfl⟩))
    go_ret
    exact ⟨ret_bool (by simp [isVec, hx.len, h]), rfl⟩

theorem specIsVector_any (p : Option Addr) (n c : Nat) (xs : List Int) (w : World) (hx : Ints w p n xs) (hm : n ≤ 9223372036854775807) :
    Calls Tryz.prog 57 #[.slice p n c] w fun e w' => e = .returned (.bool (isVec xs)) ∧ w = w' := by
  cases h : inR (n : Int) 1 3
  all_goals
    go_enter Tryz.func57, Tryz.ntmps57
    go_wp2_with (first | (go_at_call 64; (with_reducible refine (l1In_any _ _ _ _).mono ?_); rintro e w' ⟨rfl, rfl⟩) | (go_at_call 76; (with_reducible refine (l2Small_any _ _ _ _ _ _ hx hm (by decide) (by decide)).mono ?_); rintro e w' ⟨rfl, rfl⟩))
    go_ret
    exact ⟨ret_bool (by simp [isVec, hx.len, h]), rfl⟩

/-- What has been made new: a row that holds xs. -/
def NewInts (w : World) (n : Nat) (xs : List Int) (e : Ending) (w' : World) : Prop :=
  ∃ p c, e = .returned (.slice p n c) ∧ Own w' w.heap.size w'.heap.size p n c xs ∧ Below w.heap.size w w'

theorem Tryz.infoInt : (Tryz.prog.info? 3).map (fun i => (i.zero, i.size, i.bytes)) = some (some (.int .i64 0), 1, 8) := by kernel_rfl

theorem made_zeros (n : Nat) : (madeCells (Value.int .i64 0).cells (n * 1)).toList = (List.replicate n (0 : Int)).map (Value.int .i64) := by
  rw [show (Value.int .i64 0).cells = #[Value.int .i64 0] from rfl, toList_madeCells_one, Nat.mul_one, List.map_replicate]

end Go.Proofs.YthdonnkekggbbaaGreatDoor

/- What the builtins make and append do to rows of the call's own, as single steps of a walk. Conditions: sizes. -/
namespace Go.Proofs.YthdonnkekggbbaaGreatDoor
open Go.RowKit
set_option linter.unusedVariables false
set_option linter.unusedSimpArgs false
set_option maxRecDepth 100000

def blk (p : Option Addr) : Option Nat := p.map (·.block)

/-- A row of the call's own, of any element type: cells vs, in a block from lo to hi - 1. -/
structure OwnV (w : World) (E : TypeId) (size : Nat) (lo hi : Nat) (p : Option Addr) (n c : Nat) (vs : List Value) : Prop where
  row : w.ownsRow lo E size (.slice p n c) n vs
  top : ∀ a, p = some a → a.block < hi

theorem Own.v {w : World} {lo hi : Nat} {p : Option Addr} {n c : Nat} {xs : List Int} (h : Own w lo hi p n c xs) : OwnV w 3 1 lo hi p n c (xs.map (.int .i64)) := ⟨h.row, h.top⟩
theorem OwnV.own {w : World} {lo hi : Nat} {p : Option Addr} {n c : Nat} {xs : List Int} (h : OwnV w 3 1 lo hi p n c (xs.map (.int .i64))) : Own w lo hi p n c xs := ⟨h.row, h.top⟩

/-- What an append (p before, p' behind) leaves: blocks other than p's own are as they were; p' is p's block or the next new one. -/
structure Grow (W W' : World) (p p' : Option Addr) : Prop where
  by_ : W.grownBy W' (blk p)
  at_ : blk p' = blk p ∨ blk p' = some W.heap.size

theorem Grow.below {W W' : World} {p p' : Option Addr} (h : Grow W W' p p') {lo : Nat} (h1 : lo ≤ W.heap.size) (h2 : ∀ a, p = some a → lo ≤ a.block) : Below lo W W' :=
  (Below.refl _ _).grown h.by_ h1 fun k hk => by
    cases p with
    | none => cases hk
    | some a => simp [blk] at hk; subst hk; exact h2 a rfl

section
variable {w : World} {E : TypeId} {size lo hi : Nat} {p : Option Addr} {n c : Nat} {vs : List Value}
theorem OwnV.lt (h : OwnV w E size lo hi p n c vs) : ∀ a, p = some a → lo ≤ a.block ∧ a.block < hi ∧ a.block < w.heap.size := by
  intro a ha
  have := h.row.lt a.block (by rw [ha]; rfl)
  exact ⟨this.1, h.top a ha, this.2⟩
theorem OwnV.alloc (h : OwnV w E size lo hi p n c vs) (o : Obj) : OwnV (w.alloc o) E size lo hi p n c vs := ⟨h.row.alloc o, h.top⟩
theorem OwnV.up (h : OwnV w E size lo hi p n c vs) : OwnV w E size lo w.heap.size p n c vs := ⟨h.row, fun a ha => (h.lt a ha).2.2⟩
theorem OwnV.nil (w : World) (E : TypeId) (size lo hi : Nat) : OwnV w E size lo hi none 0 0 [] := ⟨World.ownsRow_nil _ _ _ _, fun _ h => by cases h⟩
theorem OwnV.len (h : OwnV w E size lo hi p n c vs) : vs.length = n * size := h.row.1
end
theorem Own.alloc {w : World} {lo hi : Nat} {p : Option Addr} {n c : Nat} {xs : List Int} (h : Own w lo hi p n c xs) (o : Obj) : Own (w.alloc o) lo hi p n c xs := ⟨h.row.alloc o, h.top⟩
theorem Own.up {w : World} {lo hi : Nat} {p : Option Addr} {n c : Nat} {xs : List Int} (h : Own w lo hi p n c xs) : Own w lo w.heap.size p n c xs := ⟨h.row, fun a ha => (h.lt a ha).2.2⟩
theorem Own.nil (w : World) (lo hi : Nat) : Own w lo hi none 0 0 [] := ⟨World.ownsRow_nil _ _ _ _, fun _ h => by cases h⟩
theorem Own.drew {w : World} {lo hi : Nat} {p : Option Addr} {n c : Nat} {xs : List Int} (h : Own w lo hi p n c xs) : Own w.drew lo hi p n c xs := ⟨h.row, h.top⟩
theorem OwnV.drew {w : World} {E : TypeId} {size lo hi : Nat} {p : Option Addr} {n c : Nat} {vs : List Value} (h : OwnV w E size lo hi p n c vs) : OwnV w.drew E size lo hi p n c vs := ⟨h.row, h.top⟩
theorem cellNew (w : World) (u : Value) (E : TypeId) : (w.alloc (.cells #[u] E)).cell? ⟨w.heap.size, 0, none⟩ = some u := by simp [World.cell?_alloc_new]
theorem cellNewD (w : World) (u : Value) (E : TypeId) : (w.alloc (.cells #[u] E)).drew.cell? ⟨w.heap.size, 0, none⟩ = some u := cellNew w u E
theorem sizeNew {w wr : World} (h : Below w.heap.size w wr) (o : Obj) : w.heap.size ≤ (wr.alloc o).heap.size := by have := h.size; simp; omega
theorem sizeNewD {w wr : World} (h : Below w.heap.size w wr) (o : Obj) : w.heap.size ≤ (wr.alloc o).drew.heap.size := sizeNew h o
theorem Below.new {w wr w' : World} (h : Below w.heap.size w wr) (o : Obj) (k : Below w.heap.size (wr.alloc o) w') : Below w.heap.size w w' := (h.alloc h.size o).trans k
theorem Below.newD {w wr w' : World} (h : Below w.heap.size w wr) (o : Obj) (k : Below w.heap.size (wr.alloc o).drew w') : Below w.heap.size w w' := (h.alloc h.size o).drew.trans k
theorem Own.empty (w : World) : Own (w.alloc (.cells #[] 3)) w.heap.size (w.heap.size + 1) (some ⟨w.heap.size, 0, none⟩) 0 0 [] :=
  ⟨World.ownsRow_made w #[] 0 (Nat.le_refl _) (Nat.zero_le _) rfl, fun a ha => by injection ha with ha; subst ha; exact Nat.lt_succ_self _⟩
theorem Grow.belowO {W W' : World} {p p' : Option Addr} (h : Grow W W' p p') {lo hi n c : Nat} {xs : List Int} (ho : Own W lo hi p n c xs) (h1 : lo ≤ W.heap.size) : Below lo W W' :=
  h.below h1 fun a ha => (ho.lt a ha).1

theorem wp_appendV {P : Program} (E T : TypeId) (size bytes : Nat) (z : Value) (ht : P.underlying T = some (.slice E)) (hinfo : (P.info? E).map (fun i => (i.zero, i.size, i.bytes)) = some (some z, size, bytes))
    (hzs : z.cells.size = size) (hsz : 0 < size)
    {o : Oper} {a : Act} {K : Act → World → Prop} {Q : Exit → Act → World → Prop} (s x : Operand)
    (ho : o.op = .call { callee := .builtin .append, args := #[s, x], argTypes := #[T, T] }) (W : World) (lo hi : Nat) (p : Option Addr) (n c : Nat) (vs : List Value)
    (hs : a.eval s = .slice p n c) (hown : OwnV W E size lo hi p n c vs) (A : Option Addr) (m d : Nat) (news : List Value) (hx : a.eval x = .slice A m d)
    (hnl : news.length = m * size) (hr : 0 < m → ∃ ad, A = some ad ∧ ∀ j u, news[j]? = some u → W.cell? (ad.add j) = some u) (h1 : ∀ u ∈ news, u.oneCell' = true)
    (hb : (n + m) * bytes ≤ 140737488355328) (hmx : n + m ≤ maxLen) (hlo : lo ≤ W.heap.size)
    (h : ∀ p' c' W', OwnV W' E size lo W'.heap.size p' (n + m) c' (vs ++ news) → Grow W W' p p' → K (a.put o.dst (.slice p' (n + m) c')) W') :
    o.wp P a W K Q := by
  obtain ⟨i, hi, hz0, hz1, hz2⟩ := info_parts hinfo
  rcases A with _ | ad
  · have hm : m = 0 := by
      rcases Nat.eq_zero_or_pos m with h0 | h0
      · exact h0
      · obtain ⟨ad, h, _⟩ := hr h0
        cases h
    subst hm
    have hn : news = [] := List.eq_nil_of_length_eq_zero (by simpa using hnl)
    subst hn
    have hrun : (Builtin.append_ #[T, T] o.type #[.slice p n c, .slice none 0 d]).run P W = .ok (.slice p n c) W := by
      rcases hown.row.2 with ⟨hv, rfl⟩ | ⟨g, cap, cur, hv, _, _, hnc, _⟩
      · injection hv with a b c
        subst a; subst c
        simp [Builtin.append_, run_underlying ht, sizeOf, typeInfo, hi, Builtin.lenOf, Builtin.firstCells]
      · injection hv with a b c
        subst a; subst c
        simp [Builtin.append_, run_underlying ht, sizeOf, typeInfo, hi, Builtin.lenOf, Builtin.firstCells, hnc, storeCells]
    unfold Oper.wp execOp
    simp only [ho, resolve, invoke, builtin, Sem.run_bind, Sem.run_pure, Result.andThen_ok, List.map_toArray, List.map_cons, List.map_nil, hs, hx, hrun]
    exact (h p c W (by simpa using hown.up) ⟨World.grownBy.refl _ _, .inl rfl⟩)
  · have hcells : ∀ j u, news[j]? = some u → W.cell? (ad.add j) = some u := by
      intro j u hu
      rcases Nat.eq_zero_or_pos m with h0 | h0
      · subst h0
        have hn : news = [] := List.eq_nil_of_length_eq_zero (by simpa using hnl)
        subst hn
        simp at hu
      · obtain ⟨ad', h, hc⟩ := hr h0
        injection h with h
        subst h
        exact hc j u hu
    obtain ⟨v', w', hrun, h2, h3, _, h5⟩ := run_append_own_at (P := P) W lo T o.type E i z size bytes ht hi hz0 hz1 hz2 hzs hsz (.slice p n c) n vs hown.row ad m d news hnl hcells h1 hmx hb hlo
    unfold Oper.wp execOp
    simp only [ho, resolve, invoke, builtin, Sem.run_bind, Sem.run_pure, Result.andThen_ok, List.map_toArray, List.map_cons, List.map_nil, hs, hx, hrun]
    have hv : ∃ p' c', v' = .slice p' (n + m) c' := by
      rcases h2.2 with ⟨hv, hn⟩ | ⟨g, cap, cur, hv, _⟩
      · exact ⟨none, 0, by rw [hv, hn]⟩
      · exact ⟨_, _, hv⟩
    obtain ⟨p', c', rfl⟩ := hv
    have hob : ∀ (q : Option Addr) (n c : Nat), (Value.slice q n c).ownBlock = blk q := by intro q n c; cases q <;> rfl
    rw [hob, hob] at h5
    rw [hob] at h3
    have hO : OwnV w' E size lo w'.heap.size p' (n + m) c' (vs ++ news) := ⟨h2, fun a ha => (h2.lt a.block (by rw [ha]; rfl)).2⟩
    exact (h p' c' w' hO ⟨h3, h5⟩)

/-- append(out, u) of one number: the walk has laid u in a block of its own. -/
theorem wp_append_int {o : Oper} {a : Act} {K : Act → World → Prop} {Q : Exit → Act → World → Prop} (s x : Operand)
    (ho : o.op = .call { callee := .builtin .append, args := #[s, x], argTypes := #[29, 29] }) (W : World) (lo hi : Nat) (p : Option Addr) (n c : Nat) (xs : List Int)
    (hs : a.eval s = .slice p n c) (hown : Own W lo hi p n c xs) (g : Nat) (u : Int) (hx : a.eval x = .slice (some ⟨g, 0, none⟩) 1 1) (hc : W.cell? ⟨g, 0, none⟩ = some (.int .i64 u))
    (hn : n ≤ 17592186040000) (hlo : lo ≤ W.heap.size)
    (h : ∀ p' c' W', Own W' lo W'.heap.size p' (n + 1) c' (xs ++ [u]) → Grow W W' p p' → K (a.put o.dst (.slice p' (n + 1) c')) W') :
    o.wp Tryz.prog a W K Q :=
  wp_appendV 3 29 1 8 (.int .i64 0) Tryz.underlying29 Tryz.infoInt rfl (by decide) s x ho W lo hi p n c _ hs hown.v _ 1 1 [.int .i64 u] hx rfl
    (fun _ => ⟨_, rfl, fun j v hv => by match j, hv with | 0, hv => simp at hv; subst hv; simpa [Addr.add] using hc⟩) (fun v hv => by simp at hv; subst hv; rfl) (by omega) (by unfold maxLen; omega) hlo
    fun p' c' W' h2 h3 => h p' c' W' (OwnV.own (by simpa using h2)) h3

/-- append(out, u) of one number: the walk has laid u in a block of its own. -/
theorem append_int {ops : Array Oper} {rest : List Oper} {o : Oper} {a : Act} {Q : Exit → Act → World → Prop} (hgd : o.guard = none) (s x : Operand)
    (ho : o.op = .call { callee := .builtin .append, args := #[s, x], argTypes := #[29, 29] }) (W : World) (lo hi : Nat) (p : Option Addr) (n c : Nat) (xs : List Int)
    (hs : a.eval s = .slice p n c) (hown : Own W lo hi p n c xs) (g : Nat) (u : Int) (hx : a.eval x = .slice (some ⟨g, 0, none⟩) 1 1) (hc : W.cell? ⟨g, 0, none⟩ = some (.int .i64 u))
    (hn : n ≤ 17592186040000) (hlo : lo ≤ W.heap.size)
    (h : ∀ p' c' W', Own W' lo W'.heap.size p' (n + 1) c' (xs ++ [u]) → Grow W W' p p' → wpList Tryz.prog ops Q rest (a.put o.dst (.slice p' (n + 1) c')) W') :
    wpList Tryz.prog ops Q (o :: rest) a W :=
  wpList_plain hgd fun _ hK => wp_append_int s x ho W lo hi p n c xs hs hown g u hx hc hn hlo fun p' c' W' h2 h3 => hK _ _ (h p' c' W' h2 h3)

theorem step_append_int {ops : Array Oper} {o : Oper} {a : Act} {K : Act → World → Prop} {E : Prop} {Q : Exit → Act → World → Prop} (hgd : o.guard = none) (s x : Operand)
    (ho : o.op = .call { callee := .builtin .append, args := #[s, x], argTypes := #[29, 29] }) (W : World) (lo hi : Nat) (p : Option Addr) (n c : Nat) (xs : List Int)
    (hs : a.eval s = .slice p n c) (hown : Own W lo hi p n c xs) (g : Nat) (u : Int) (hx : a.eval x = .slice (some ⟨g, 0, none⟩) 1 1) (hc : W.cell? ⟨g, 0, none⟩ = some (.int .i64 u))
    (hn : n ≤ 17592186040000) (hlo : lo ≤ W.heap.size)
    (h : ∀ p' c' W', Own W' lo W'.heap.size p' (n + 1) c' (xs ++ [u]) → Grow W W' p p' → K (a.put o.dst (.slice p' (n + 1) c')) W') :
    if Region.wanted o (yielded ops a.tmps) = true then Oper.wp Tryz.prog o a W K Q else E := by
  have hw : Region.wanted o (yielded ops a.tmps) = true := by simp [Region.wanted, hgd]
  rw [if_pos hw]
  exact wp_append_int s x ho W lo hi p n c xs hs hown g u hx hc hn hlo h

/-- append(out, src...) where src reads as the numbers ys. -/
theorem wp_append_ints {o : Oper} {a : Act} {K : Act → World → Prop} {Q : Exit → Act → World → Prop} (s x : Operand)
    (ho : o.op = .call { callee := .builtin .append, args := #[s, x], argTypes := #[29, 29] }) (W : World) (lo hi : Nat) (p : Option Addr) (n c : Nat) (xs : List Int)
    (hs : a.eval s = .slice p n c) (hown : Own W lo hi p n c xs) (q : Option Addr) (m d : Nat) (ys : List Int) (hx : a.eval x = .slice q m d) (hy : Ints W q m ys)
    (hn : n + m ≤ 17592186040000) (hlo : lo ≤ W.heap.size)
    (h : ∀ p' c' W', Own W' lo W'.heap.size p' (n + m) c' (xs ++ ys) → Grow W W' p p' → K (a.put o.dst (.slice p' (n + m) c')) W') :
    o.wp Tryz.prog a W K Q :=
  wp_appendV 3 29 1 8 (.int .i64 0) Tryz.underlying29 Tryz.infoInt rfl (by decide) s x ho W lo hi p n c _ hs hown.v q m d (ys.map (.int .i64)) hx (by simp [hy.len])
    (fun hm => by
      obtain ⟨b, o, hq, _⟩ := hy.cell 0 hm
      refine ⟨_, hq, fun j v hv => ?_⟩
      rw [List.getElem?_map, Option.map_eq_some_iff] at hv
      obtain ⟨y, hy1, rfl⟩ := hv
      have hj : j < ys.length := (List.getElem?_eq_some_iff.1 hy1).1
      obtain ⟨b', o', hq', hc⟩ := hy.cell j (by rw [← hy.len]; exact hj)
      rw [hq] at hq'
      injection hq' with hq'
      injection hq' with e1 e2
      subst e1; subst e2
      rw [Addr.add_lit, hc, nth_eq hj]
      rw [List.getElem?_eq_getElem hj] at hy1
      injection hy1 with hy1
      rw [hy1])
    (ints_oneCell _ _) (by omega) (by unfold maxLen; omega) hlo
    fun p' c' W' h2 h3 => h p' c' W' (OwnV.own (by simpa using h2)) h3

/-- append(out, src...) where src reads as the numbers ys. -/
theorem append_ints {ops : Array Oper} {rest : List Oper} {o : Oper} {a : Act} {Q : Exit → Act → World → Prop} (hgd : o.guard = none) (s x : Operand)
    (ho : o.op = .call { callee := .builtin .append, args := #[s, x], argTypes := #[29, 29] }) (W : World) (lo hi : Nat) (p : Option Addr) (n c : Nat) (xs : List Int)
    (hs : a.eval s = .slice p n c) (hown : Own W lo hi p n c xs) (q : Option Addr) (m d : Nat) (ys : List Int) (hx : a.eval x = .slice q m d) (hy : Ints W q m ys)
    (hn : n + m ≤ 17592186040000) (hlo : lo ≤ W.heap.size)
    (h : ∀ p' c' W', Own W' lo W'.heap.size p' (n + m) c' (xs ++ ys) → Grow W W' p p' → wpList Tryz.prog ops Q rest (a.put o.dst (.slice p' (n + m) c')) W') :
    wpList Tryz.prog ops Q (o :: rest) a W :=
  wpList_plain hgd fun _ hK => wp_append_ints s x ho W lo hi p n c xs hs hown q m d ys hx hy hn hlo fun p' c' W' h2 h3 => hK _ _ (h p' c' W' h2 h3)

theorem step_append_ints {ops : Array Oper} {o : Oper} {a : Act} {K : Act → World → Prop} {E : Prop} {Q : Exit → Act → World → Prop} (hgd : o.guard = none) (s x : Operand)
    (ho : o.op = .call { callee := .builtin .append, args := #[s, x], argTypes := #[29, 29] }) (W : World) (lo hi : Nat) (p : Option Addr) (n c : Nat) (xs : List Int)
    (hs : a.eval s = .slice p n c) (hown : Own W lo hi p n c xs) (q : Option Addr) (m d : Nat) (ys : List Int) (hx : a.eval x = .slice q m d) (hy : Ints W q m ys)
    (hn : n + m ≤ 17592186040000) (hlo : lo ≤ W.heap.size)
    (h : ∀ p' c' W', Own W' lo W'.heap.size p' (n + m) c' (xs ++ ys) → Grow W W' p p' → K (a.put o.dst (.slice p' (n + m) c')) W') :
    if Region.wanted o (yielded ops a.tmps) = true then Oper.wp Tryz.prog o a W K Q else E := by
  have hw : Region.wanted o (yielded ops a.tmps) = true := by simp [Region.wanted, hgd]
  rw [if_pos hw]
  exact wp_append_ints s x ho W lo hi p n c xs hs hown q m d ys hx hy hn hlo h

end Go.Proofs.YthdonnkekggbbaaGreatDoor

/- Contracts of the laws' helpers on lists of numbers: are two the same, marking, are the marks held. Conditions: lengths fit an int. -/
namespace Go.Proofs.YthdonnkekggbbaaGreatDoor
open Go.RowKit
set_option linter.unusedVariables false
set_option linter.unusedSimpArgs false
set_option maxRecDepth 100000

/-- Two lists of numbers are the same. -/
def beqL (xs ys : List Int) : Bool := decide (xs = ys)
theorem beqL_self (xs : List Int) : beqL xs xs = true := by simp [beqL]
theorem nth_ext {xs ys : List Int} (h : xs.length = ys.length) (hk : ∀ k, k < xs.length → nth xs k = nth ys k) : xs = ys :=
  List.ext_getElem h fun i h1 h2 => by have := hk i h1; rwa [nth_eq h1, nth_eq h2] at this

/-- What marking leaves: the row holds the numbers from k on; no block outside lo .. hi - 1 has turned. -/
def Marked (w : World) (lo hi : Nat) (p : Option Addr) (n c : Nat) (k : Int) (e : Ending) (w' : World) : Prop :=
  e = .returned (.int .i64 (k + n)) ∧ Own w' lo hi p n c (upFrom k n) ∧ Within lo hi w w'

theorem Within.refl (lo hi : Nat) (w : World) : Within lo hi w w := ⟨rfl, rfl, rfl, Nat.le_refl _, fun _ _ _ => rfl⟩
theorem Within.setCell {lo hi : Nat} {a w : World} (h : Within lo hi a w) {p : Addr} (h1 : lo ≤ p.block) (h2 : p.block < hi) (u : Value) : Within lo hi a (w.setCell p u) :=
  ⟨h.os, h.tape, h.output, by have := h.size; simpa [World.setCell] using this, fun k hk hd => by
    rw [Below.heap_setCell _ _ _ _ (by omega)]; exact h.block k hk hd⟩
theorem Within.drewN {lo hi : Nat} {a w : World} (h : Within lo hi a w) (z : Nat) : Within lo hi a (w.drewN z) := ⟨h.os, h.tape, h.output, h.size, h.block⟩
theorem Own.drewN {w : World} {lo hi : Nat} {p : Option Addr} {n c : Nat} {xs : List Int} (h : Own w lo hi p n c xs) (z : Nat) : Own (w.drewN z) lo hi p n c xs := ⟨h.row, h.top⟩

theorem drew2 (w : World) (a b : Nat) : ∃ z, (w.drewN a).drewN b = w.drewN z := ⟨_, World.drewN_drewN _ _ _⟩
theorem drew3 (w : World) (a b c : Nat) : ∃ z, ((w.drewN a).drewN b).drewN c = w.drewN z := ⟨_, by rw [World.drewN_drewN, World.drewN_drewN]⟩
theorem Below.step {w w1 w2 : World} (h : Below w.heap.size w w1) (k : Below w1.heap.size w1 w2) : Below w.heap.size w w2 := h.trans (k.mono h.size)
theorem Below.drawn {w w1 : World} (h : Below w.heap.size w w1) (z : Nat) : Below w.heap.size w (w1.drewN z) := ⟨h.os, h.tape, h.output, h.size, h.block⟩

end Go.Proofs.YthdonnkekggbbaaGreatDoor

/- Contracts of the functions that make vectors: copies, sums, multiples. Conditions: sizes. -/
namespace Go.Proofs.YthdonnkekggbbaaGreatDoor
open Go.RowKit
set_option linter.unusedVariables false
set_option linter.unusedSimpArgs false
set_option maxRecDepth 100000

theorem copyInts_any (q : Option Addr) (m d : Nat) (ys : List Int) (w : World) (hm : m ≤ 17592186040000) (hy : Ints w q m ys) :
    Calls Tryz.prog 30 #[.slice q m d] w (NewInts w m ys) := by
  go_enter Tryz.func30, Tryz.ntmps30
  go_wp2_with (at_builtin; refine append_ints rfl _ _ rfl _ w.heap.size _ _ _ _ _ rfl (Own.nil _ _ 0) _ _ _ _ rfl hy (by omega) (Nat.le_refl _) ?_; intro p' c' w2 hown2 hg2)
  go_ret
  simp only [List.nil_append, Nat.zero_add] at hown2
  exact ⟨_, _, by simp, hown2, hg2.below (Nat.le_refl _) (fun a ha => by cases ha)⟩

/-- The sums of two lists of numbers, number by number, each as an int holds it. -/
def addW : List Int → List Int → List Int
  | x :: xs, y :: ys => wrap64 (x + y) :: addW xs ys
  | _, _ => []
theorem addW_length {xs ys : List Int} (h : xs.length = ys.length) : (addW xs ys).length = xs.length := by
  induction xs generalizing ys with
  | nil => rfl
  | cons x xs ih =>
    cases ys with
    | nil => simp at h
    | cons y ys => simp [addW, ih (by simpa using h)]
theorem addW_nth {xs ys : List Int} (h : xs.length = ys.length) {k : Nat} (hk : k < xs.length) : nth (addW xs ys) k = wrap64 (nth xs k + nth ys k) := by
  induction xs generalizing ys k with
  | nil => simp at hk
  | cons x xs ih =>
    cases ys with
    | nil => simp at h
    | cons y ys =>
      cases k with
      | zero => rfl
      | succ k => exact ih (by simpa using h) (by simpa using hk)

theorem wrapEq (x : Int) : IntKind.i64.wrap x = wrap64 x := by rw [IntKind.wrap_i64]; unfold wrap64; rfl

/-- The numbers times a number, each as an int holds it. -/
def scaleW (xs : List Int) (q : Int) : List Int := xs.map fun x => wrap64 (x * q)
theorem scaleW_length (xs : List Int) (q : Int) : (scaleW xs q).length = xs.length := by simp [scaleW]
theorem scaleW_nth {xs : List Int} {q : Int} {k : Nat} (h : k < xs.length) : nth (scaleW xs q) k = wrap64 (nth xs k * q) := by
  rw [nth_eq h, nth_eq (by rw [scaleW_length]; exact h)]; simp [scaleW]

/-- The sum of the first k products. -/
def dotTo (xs ys : List Int) : Nat → Int
  | 0 => 0
  | k + 1 => wrap64 (dotTo xs ys k + wrap64 (nth xs k * nth ys k))
def dotW (xs ys : List Int) : Int := dotTo xs ys xs.length

end Go.Proofs.YthdonnkekggbbaaGreatDoor

/- Contracts of the program's and the reference's AddVectors, ScaleVector, DotOf. Conditions: sizes. -/
namespace Go.Proofs.YthdonnkekggbbaaGreatDoor
open Go.RowKit
set_option linter.unusedVariables false
set_option linter.unusedSimpArgs false
set_option maxRecDepth 100000

/-- A function that hands back a new list and whether there is one. -/
def NewIB (w : World) (r : List Int × Bool) (e : Ending) (w' : World) : Prop :=
  ∃ p n c, e = .returned (.tuple #[.slice p n c, .bool r.2]) ∧ Own w' w.heap.size w'.heap.size p n c r.1 ∧ Below w.heap.size w w'

theorem vectorOf_yes (p : Option Addr) (n c : Nat) (xs : List Int) (w : World) (hm : n ≤ 9223372036854775807) (hx : Ints w p n xs) (hv : isVec xs = true) :
    Calls Tryz.prog 83 #[.slice p n c] w fun e w' => e = .returned (.tuple #[.slice p n c, .bool true]) ∧ w = w' := by
  go_enter Tryz.func83, Tryz.ntmps83
  go_wp2_with (go_at_call 56; (with_reducible refine (implIsVector_any _ _ _ _ _ hx hm).mono ?_); rintro e w' ⟨rfl, rfl⟩)
  go_ret2
  exact ⟨rfl, rfl⟩
theorem vectorOf_no (p : Option Addr) (n c : Nat) (xs : List Int) (w : World) (hm : n ≤ 9223372036854775807) (hx : Ints w p n xs) (hv : isVec xs = false) :
    Calls Tryz.prog 83 #[.slice p n c] w fun e w' => e = .returned (.tuple #[.slice none 0 0, .bool false]) ∧ w = w' := by
  go_enter Tryz.func83, Tryz.ntmps83
  go_wp2_with (go_at_call 56; (with_reducible refine (implIsVector_any _ _ _ _ _ hx hm).mono ?_); rintro e w' ⟨rfl, rfl⟩)
  go_ret2
  exact ⟨rfl, rfl⟩

def vecIf (xs : List Int) : List Int × Bool := if isVec xs = true then (xs, true) else ([], false)
theorem vecIf_yes {xs : List Int} (h : isVec xs = true) : vecIf xs = (xs, true) := by simp [vecIf, h]
theorem vecIf_no {xs : List Int} (h : isVec xs = false) : vecIf xs = ([], false) := by simp [vecIf, h]

theorem vectorOf_any (lo : Nat) (p : Option Addr) (n c : Nat) (xs : List Int) (w : World) (hm : n ≤ 9223372036854775807) (hx : Own w lo w.heap.size p n c xs) :
    Calls Tryz.prog 83 #[.slice p n c] w fun e w' => (∃ p n c, e = .returned (.tuple #[.slice p n c, .bool (vecIf xs).2]) ∧ Own w lo w.heap.size p n c (vecIf xs).1) ∧ w = w' := by
  cases hv : isVec xs
  · rw [vecIf_no hv]
    exact (vectorOf_no p n c xs w hm hx.ints hv).mono fun e w' h => ⟨⟨_, _, _, h.1, Own.nil _ _ _⟩, h.2⟩
  · rw [vecIf_yes hv]
    exact (vectorOf_yes p n c xs w hm hx.ints hv).mono fun e w' h => ⟨⟨_, _, _, h.1, hx⟩, h.2⟩

def addV (xs ys : List Int) : List Int × Bool := if isVec xs = true ∧ isVec ys = true ∧ xs.length = ys.length then vecIf (addW xs ys) else ([], false)

theorem NewIB.none_ {w : World} : NewIB w ([], false) (.returned (.tuple #[.slice none 0 0, .bool false])) w := ⟨_, _, _, rfl, Own.nil _ _ _, Below.refl _ _⟩

end Go.Proofs.YthdonnkekggbbaaGreatDoor

/- Contracts of the greatest common divisors of the program and of the reference. Conditions: the numbers are at most 2^62 in size. -/
namespace Go.Proofs.YthdonnkekggbbaaGreatDoor
open Go.RowKit
set_option linter.unusedVariables false
set_option linter.unusedSimpArgs false
set_option maxRecDepth 100000

/-- At most 2^62 in size. -/
def In62 (x : Int) : Prop := -4611686018427387904 ≤ x ∧ x ≤ 4611686018427387904

def gcdI (a b : Int) : Int := (Int.gcd a b : Int)
theorem gcdI_nonneg (a b : Int) : 0 ≤ gcdI a b := Int.natCast_nonneg _
theorem gcdI_le {a b : Int} (ha : In62 a) (hb : In62 b) : gcdI a b ≤ 4611686018427387904 := by
  unfold gcdI Int.gcd
  unfold In62 at ha hb
  by_cases h : a.natAbs = 0
  · rw [h, Nat.gcd_zero_left]; omega
  · have := Nat.gcd_le_left b.natAbs (Nat.pos_of_ne_zero h)
    omega
theorem gcdI_in {a b : Int} (ha : In62 a) (hb : In62 b) : In62 (gcdI a b) := ⟨by have := gcdI_nonneg a b; omega, gcdI_le ha hb⟩
theorem gcdI_step {a b : Int} (h : b ≠ 0) : gcdI b (a.tmod b) = gcdI a b := by
  unfold gcdI Int.gcd
  rw [Int.natAbs_tmod, Nat.gcd_comm, Nat.gcd_comm a.natAbs b.natAbs, ← Nat.gcd_rec]
theorem gcdI_zero (a : Int) : gcdI a 0 = a.natAbs := by simp [gcdI]
theorem gcdI_abs (a b : Int) : gcdI (a.natAbs : Int) (b.natAbs : Int) = gcdI a b := by simp [gcdI, Int.gcd]
theorem tmod_in {a b : Int} (ha : In62 a) : In62 (a.tmod b) := by
  have : (a.tmod b).natAbs ≤ a.natAbs := by rw [Int.natAbs_tmod]; exact Nat.mod_le _ _
  unfold In62 at *; omega
theorem tmod_lt {a b : Int} (h : b ≠ 0) : (a.tmod b).natAbs < b.natAbs := by
  rw [Int.natAbs_tmod]; exact Nat.mod_lt _ (by omega)
theorem tmod_nn {a b : Int} (ha : 0 ≤ a) : 0 ≤ a.tmod b := Int.tmod_nonneg _ ha

theorem magnitude_any (a : Int) (w : World) (h : -9223372036854775807 ≤ a) (h2 : a ≤ 9223372036854775807) :
    Calls Tryz.prog 109 #[.int .i64 a] w fun e w' => e = .returned (.int .i64 (a.natAbs : Int)) ∧ w = w' := by
  go_enter Tryz.func109, Tryz.ntmps109
  go_wp2
  all_goals
    go_ret
    exact ⟨ret_int (by omega), rfl⟩

theorem l1Max_any (a b : Int) (w : World) :
    Calls Tryz.prog 87 #[.int .i64 a, .int .i64 b] w fun e w' => e = .returned (.int .i64 (max a b)) ∧ w = w' := by
  by_cases h : b < a
  all_goals
    go_enter Tryz.func87, Tryz.ntmps87
    go_wp2
    go_ret
    exact ⟨ret_int (by omega), rfl⟩

theorem l1Abs_any (a : Int) (w : World) (h : -9223372036854775807 ≤ a) (h2 : a ≤ 9223372036854775807) :
    Calls Tryz.prog 125 #[.int .i64 a] w fun e w' => e = .returned (.int .i64 (a.natAbs : Int)) ∧ w = w' := by
  go_enter Tryz.func125, Tryz.ntmps125
  go_wp2_with (go_at_call 87; (with_reducible refine (l1Max_any _ _ _).mono ?_); rintro e w' ⟨rfl, rfl⟩)
  go_ret
  exact ⟨ret_int (by omega), rfl⟩

theorem divisor_any (a b : Int) (w : World) (ha : In62 a) (hb : In62 b) :
    Calls Tryz.prog 88 #[.int .i64 a, .int .i64 b] w fun e w' => e = .returned (.int .i64 (gcdI a b)) ∧ ∃ z, w' = w.drewN z := by
  go_enter Tryz.func88, Tryz.ntmps88
  go_wp2
  go_loopw [0, 1] (fun s t wr => ∃ x y : Int, s = .int .i64 x ∧ t = .int .i64 y ∧ In62 x ∧ In62 y ∧ Hid (gcdI x y = gcdI a b) ∧ ∃ z, wr = w.drewN z) (fun _ t _ => (intOf t).natAbs)
  case atStart => exact ⟨a, b, rfl, rfl, ha, hb, rfl, 0, rfl⟩
  case round =>
    obtain ⟨x, y, rfl, rfl, hx, hy, hg, z, rfl⟩ := hrel
    by_cases h0 : y = 0
    · subst h0
      have hx' := hx
      unfold In62 at hx'
      go_wp2_with (go_at_call 109; (with_reducible refine (magnitude_any _ _ (by omega) (by omega)).mono ?_); rintro e w' ⟨rfl, rfl⟩)
      go_ret
      exact ⟨ret_int (by rw [← hg.out, gcdI_zero]), _, rfl⟩
    · have hm := tmod_in (b := y) hx
      have hm' := hm
      unfold In62 at hm'
      go_wp2
      go_quiet (fail)
      go_wp2
      go_roundw
      case rel => exact ⟨_, _, rfl, rfl, hy, hm, (gcdI_step h0).trans hg.out, _, World.drewN_drewN _ _ _⟩
      case measure => simpa [intOf] using tmod_lt h0

theorem l2Gcd_any (a b : Int) (w : World) (ha : In62 a) (hb : In62 b) :
    Calls Tryz.prog 110 #[.int .i64 a, .int .i64 b] w fun e w' => e = .returned (.int .i64 (gcdI a b)) ∧ w = w' := by
  have ha' := ha
  have hb' := hb
  unfold In62 at ha' hb'
  go_enter Tryz.func110, Tryz.ntmps110
  go_wp2_with (first | (go_at_call 125; (with_reducible refine (l1Abs_any a _ (by omega) (by omega)).mono ?_); rintro e w' ⟨rfl, rfl⟩) | (go_at_call 125; (with_reducible refine (l1Abs_any b _ (by omega) (by omega)).mono ?_); rintro e w' ⟨rfl, rfl⟩))
  go_loop [0, 1] (fun s t => ∃ x y : Int, s = .int .i64 x ∧ t = .int .i64 y ∧ 0 ≤ x ∧ 0 ≤ y ∧ In62 x ∧ In62 y ∧ Hid (gcdI x y = gcdI a b)) (fun _ t => (intOf t).natAbs)
  case atStart => exact ⟨_, _, rfl, rfl, by omega, by omega, by unfold In62; omega, by unfold In62; omega, gcdI_abs a b⟩
  case round =>
    obtain ⟨x, y, rfl, rfl, h1, h2, hx, hy, hg⟩ := hrel
    by_cases h0 : y = 0
    · subst h0
      go_wp2
      go_ret
      exact ⟨ret_int (by rw [← hg.out, gcdI_zero]; omega), rfl⟩
    · have hm := tmod_in (b := y) hx
      have hm' := hm
      have hm2 := tmod_nn (b := y) h1
      have hm3 := tmod_lt (a := x) h0
      rw [Int.tmod_eq_emod_of_nonneg h1] at hm hm' hm2 hm3
      unfold In62 at hm'
      have hs := gcdI_step (a := x) h0
      rw [Int.tmod_eq_emod_of_nonneg h1] at hs
      have Hs := Lib.hid hs
      clear hs
      go_wp2
      go_round
      case rel => exact ⟨_, _, rfl, rfl, h2, hm2, hy, hm, Hs.out.trans hg.out⟩
      case measure => simpa [intOf] using hm3

/-- The greatest common divisor of the first k numbers. -/
def gcdTo (xs : List Int) : Nat → Int
  | 0 => 0
  | k + 1 => gcdI (gcdTo xs k) (nth xs k)
def gcdL (xs : List Int) : Int := gcdTo xs xs.length
theorem gcdTo_in {xs : List Int} (h : ∀ k, k < xs.length → In62 (nth xs k)) : ∀ k, k ≤ xs.length → In62 (gcdTo xs k) ∧ 0 ≤ gcdTo xs k
  | 0, _ => ⟨by unfold In62; simp [gcdTo], by simp [gcdTo]⟩
  | k + 1, hk => ⟨gcdI_in (gcdTo_in h k (by omega)).1 (h k (by omega)), gcdI_nonneg _ _⟩

theorem gcdAll_any (p : Option Addr) (n c : Nat) (xs : List Int) (w : World) (hn : n ≤ 9223372036854775807) (hx : Ints w p n xs) (hB : ∀ k, k < xs.length → In62 (nth xs k)) :
    Calls Tryz.prog 60 #[.slice p n c] w fun e w' => e = .returned (.int .i64 (gcdL xs)) ∧ ∃ z, w' = w.drewN z := by
  have hl := Lib.hid hx.len
  have HB := Lib.hid (gcdTo_in hB)
  have HB1 := Lib.hid hB
  clear hB
  go_enter Tryz.func60, Tryz.ntmps60
  go_wp2
  go_loopw [3, 8] (fun a i wr => ∃ k : Nat, k ≤ n ∧ i = .int .i64 k ∧ a = .int .i64 (gcdTo xs k) ∧ ∃ z, wr = w.drewN z) (fun _ i _ => n - (intOf i).toNat)
  case atStart => exact ⟨0, Nat.zero_le _, rfl, rfl, 0, rfl⟩
  case round =>
    obtain ⟨k, hk, rfl, rfl, z, rfl⟩ := hrel
    by_cases hlt : k < n
    · obtain ⟨b, o, rfl, hc⟩ := hx.cell k hlt
      have h1 := (HB.out k (by rw [hl.out]; omega)).1
      have h2 := HB1.out k (by rw [hl.out]; omega)
      go_wp2_with (go_at_call 88; (with_reducible refine (divisor_any _ _ _ h1 h2).mono ?_); rintro e w' ⟨rfl, z2, rfl⟩)
      go_roundw
      case rel => exact ⟨k + 1, by omega, by go_num, rfl, _, rfl⟩
      case measure => simp [intOf]; omega
    · go_wp2
      go_ret
      obtain rfl : k = n := by omega
      exact ⟨ret_int (by rw [gcdL, hl.out]), _, rfl⟩

theorem l2All_any (p : Option Addr) (n c : Nat) (xs : List Int) (w : World) (hn : n ≤ 9223372036854775807) (hx : Ints w p n xs) (hB : ∀ k, k < xs.length → In62 (nth xs k)) :
    Calls Tryz.prog 89 #[.slice p n c] w fun e w' => e = .returned (.int .i64 (gcdL xs)) ∧ w = w' := by
  have hl := Lib.hid hx.len
  have HB := Lib.hid (gcdTo_in hB)
  have HB1 := Lib.hid hB
  clear hB
  go_enter Tryz.func89, Tryz.ntmps89
  go_wp2
  go_loop [3, 4] (fun a i => ∃ k : Nat, k ≤ n ∧ i = .int .i64 k ∧ a = .int .i64 (gcdTo xs k)) (fun _ i => n - (intOf i).toNat)
  case atStart => exact ⟨0, Nat.zero_le _, rfl, rfl⟩
  case round =>
    obtain ⟨k, hk, rfl, rfl⟩ := hrel
    by_cases hlt : k < n
    · obtain ⟨b, o, rfl, hc⟩ := hx.cell k hlt
      have h1 := (HB.out k (by rw [hl.out]; omega)).1
      have h2 := HB1.out k (by rw [hl.out]; omega)
      go_wp2_with (go_at_call 110; (with_reducible refine (l2Gcd_any _ _ _ h1 h2).mono ?_); rintro e w' ⟨rfl, rfl⟩)
      go_round
      case rel => exact ⟨k + 1, by omega, by go_num, rfl⟩
      case measure => simp [intOf]; omega
    · go_wp2
      go_ret
      obtain rfl : k = n := by omega
      exact ⟨ret_int (by rw [gcdL, hl.out]), rfl⟩

end Go.Proofs.YthdonnkekggbbaaGreatDoor
