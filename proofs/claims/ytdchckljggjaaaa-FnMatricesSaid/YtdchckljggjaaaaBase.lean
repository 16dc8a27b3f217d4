/- Words for memory that the walks of this seat share: a slice of numbers that is read, a slice of numbers that the call owns, a frame that leaves all but an interval of blocks alone. Conditions: none. -/
import Derived.WalkKit
import Derived.Deep.QuietTactic
import Derived.BigQuiet
import Derived.Deep.RegionWith
import Derived.Deep.RegionHeld3
import Derived.Deep.DeepCutAuto
import Derived.IntWalk
import Derived.Lib.Hide
import Derived.WalkSpells
import Derived.WalkLawsBesides
import Derived.Outline
import Derived.Deep.DeepFit
namespace Go.Proofs.Ytdchckljggjaaaa
open Go.RowKit
set_option linter.unusedVariables false
set_option linter.unusedSimpArgs false
set_option maxRecDepth 100000

theorem ret_bool {a b : Bool} (h : a = b) : Ending.returned (.bool a) = .returned (.bool b) := by rw [h]
theorem ret_int {k : IntKind} {a b : Int} (h : a = b) : Ending.returned (.int k a) = .returned (.int k b) := by rw [h]

/-- Element k of a list of numbers, behind a name that the walk leaves alone. -/
def nth (xs : List Int) (k : Nat) : Int := xs.getD k 0

theorem nth_eq {xs : List Int} {k : Nat} (h : k < xs.length) : nth xs k = xs[k] := by simp [nth, List.getD, h]

theorem drop_nth {xs : List Int} {k : Nat} (h : k < xs.length) : xs.drop k = nth xs k :: xs.drop (k + 1) := by
  rw [nth_eq h]; exact List.drop_eq_getElem_cons h

theorem take_nth {xs : List Int} {k : Nat} (h : k < xs.length) : xs.take (k + 1) = xs.take k ++ [nth xs k] := by
  rw [nth_eq h]; exact List.take_succ_eq_append_getElem h

/-- The slice (p, n) reads as the numbers xs. -/
structure Ints (w : World) (p : Option Addr) (n : Nat) (xs : List Int) : Prop where
  len : xs.length = n
  cell : ∀ k, k < n → ∃ b o, p = some ⟨b, o, none⟩ ∧ w.cell? ⟨b, o + k, none⟩ = some (.int .i64 (nth xs k))

theorem Ints.keep {w w' : World} {p : Option Addr} {n : Nat} {xs : List Int} (h : Ints w p n xs)
    (hk : ∀ a : Addr, a.block < w.heap.size → w'.cell? a = w.cell? a) : Ints w' p n xs :=
  ⟨h.len, fun k hn => by
    obtain ⟨b, o, hp, hc⟩ := h.cell k hn
    exact ⟨b, o, hp, (hk _ (World.block_lt_of_cell? w _ hc)).trans hc⟩⟩

theorem Ints.below {w w' : World} {p : Option Addr} {n : Nat} {xs : List Int} (h : Ints w p n xs) (hb : Below w.heap.size w w') : Ints w' p n xs :=
  h.keep fun _ ha => hb.cell ha

theorem Ints.drewN {w : World} {p : Option Addr} {n : Nat} {xs : List Int} (h : Ints w p n xs) (q : Nat) : Ints (w.drewN q) p n xs := ⟨h.len, h.cell⟩

theorem Ints.nil (w : World) (p : Option Addr) : Ints w p 0 [] := ⟨rfl, fun _ h => absurd h (by omega)⟩

theorem Ints.eq {w : World} {p : Option Addr} {n : Nat} {xs ys : List Int} (h : Ints w p n xs) (h' : Ints w p n ys) : xs = ys := by
  refine List.ext_getElem (h.len.trans h'.len.symm) fun i h1 h2 => ?_
  obtain ⟨b, o, hp, hc⟩ := h.cell i (by rw [← h.len]; exact h1)
  obtain ⟨b', o', hp', hc'⟩ := h'.cell i (by rw [← h'.len]; exact h2)
  rw [hp] at hp'
  injection hp' with hp'
  injection hp' with e1 e2
  subst e1; subst e2
  rw [hc] at hc'
  injection hc' with hc'
  injection hc' with _ e
  rw [nth_eq h1, nth_eq h2] at e
  exact e

/-- Outside the blocks lo .. hi - 1 the world w' is as w was. -/
structure Within (lo hi : Nat) (w w' : World) : Prop where
  os : w'.os = w.os
  tape : w'.tape = w.tape
  output : w'.output = w.output
  size : w.heap.size ≤ w'.heap.size
  block : ∀ k, k < w.heap.size → (k < lo ∨ hi ≤ k) → w'.heap[k]? = w.heap[k]?

theorem Within.of_below {w w' : World} {lo hi : Nat} (h : Below w.heap.size w w') : Within lo hi w w' :=
  ⟨h.os, h.tape, h.output, h.size, fun k hk _ => h.block k hk⟩

theorem Within.below {w w' : World} {lo hi B : Nat} (h : Within lo hi w w') (hB : B ≤ lo) (hs : B ≤ w.heap.size) : Below B w w' :=
  ⟨h.os, h.tape, h.output, h.size, fun k hk => h.block k (by omega) (.inl (by omega))⟩

/-- The slice (p, n, c) is a row of numbers of the call's own, in a block from lo to hi - 1. -/
structure Own (w : World) (lo hi : Nat) (p : Option Addr) (n c : Nat) (xs : List Int) : Prop where
  row : w.ownsRow lo 3 1 (.slice p n c) n (xs.map (Value.int .i64))
  top : ∀ a, p = some a → a.block < hi

theorem Own.len {w : World} {lo hi : Nat} {p : Option Addr} {n c : Nat} {xs : List Int} (h : Own w lo hi p n c xs) : xs.length = n := by
  have := h.row.1; simpa using this

theorem Own.ints {w : World} {lo hi : Nat} {p : Option Addr} {n c : Nat} {xs : List Int} (h : Own w lo hi p n c xs) : Ints w p n xs := by
  refine ⟨h.len, fun k hk => ?_⟩
  have hl := h.len
  rcases h.row.2 with ⟨_, h0⟩ | ⟨g, cap, cur, hv, _, hg, _, _, hs, ht⟩
  · omega
  · injection hv with hp _ _
    subst hp
    refine ⟨g, 0, rfl, ?_⟩
    have h2 : cur.toList[k]? = some (.int .i64 (nth xs k)) := by
      have h3 : (cur.toList.take (n * 1))[k]? = (xs.map (Value.int .i64))[k]? := by rw [ht]
      rw [List.getElem?_take, if_pos (by omega)] at h3
      rw [h3, List.getElem?_map, List.getElem?_eq_getElem (by omega), nth_eq (by omega)]
      rfl
    simp only [Nat.zero_add]
    rw [cell_of_row w g k cur 3 (0, 0) hg]
    simpa using h2

theorem Own.lt {w : World} {lo hi : Nat} {p : Option Addr} {n c : Nat} {xs : List Int} (h : Own w lo hi p n c xs) :
    ∀ a, p = some a → lo ≤ a.block ∧ a.block < hi ∧ a.block < w.heap.size := by
  intro a ha
  have := h.row.lt a.block (by rw [ha]; rfl)
  exact ⟨this.1, h.top a ha, this.2⟩

theorem Own.within {w w' : World} {lo hi lo' hi' : Nat} {p : Option Addr} {n c : Nat} {xs : List Int} (h : Own w lo hi p n c xs)
    (hw : Within lo' hi' w w') (hd : hi ≤ lo' ∨ hi' ≤ lo) : Own w' lo hi p n c xs := by
  refine ⟨⟨h.row.1, ?_⟩, h.top⟩
  rcases h.row.2 with h0 | ⟨g, cap, cur, hv, hl, hg, hr⟩
  · exact .inl h0
  · refine .inr ⟨g, cap, cur, hv, hl, ?_, hr⟩
    have hlt : g < hi := by
      injection hv with hp _ _
      exact h.top _ hp
    rw [hw.block g (Array.getElem?_eq_some_iff.1 hg).1 (by omega)]
    exact hg

theorem Own.below {w w' : World} {lo hi : Nat} {p : Option Addr} {n c : Nat} {xs : List Int} (h : Own w lo hi p n c xs)
    (hb : Below w.heap.size w w') : Own w' lo hi p n c xs :=
  h.within (lo' := hi) (hi' := hi) (Within.of_below hb) (.inl (Nat.le_refl _))

theorem Own.widen {w : World} {lo hi lo' hi' : Nat} {p : Option Addr} {n c : Nat} {xs : List Int} (h : Own w lo hi p n c xs)
    (hl : lo' ≤ lo) (hh : hi ≤ hi') : Own w lo' hi' p n c xs := by
  refine ⟨⟨h.row.1, ?_⟩, fun a ha => Nat.lt_of_lt_of_le (h.top a ha) hh⟩
  rcases h.row.2 with h0 | ⟨g, cap, cur, hv, hl', hr⟩
  · exact .inl h0
  · exact .inr ⟨g, cap, cur, hv, Nat.le_trans hl hl', hr⟩

theorem Own.frozen {w : World} {lo hi g o : Nat} {n c : Nat} {xs : List Int} (h : Own w lo hi (some ⟨g, o, none⟩) n c xs) (k : Nat) : w.frozen? ⟨g, k, none⟩ = false := by
  rcases h.row.2 with ⟨h0, _⟩ | ⟨g', cap, cur, hv, _, hg, _⟩
  · cases h0
  · injection hv with hp _ _
    injection hp with hp
    injection hp with e1 _
    subst e1
    simp [World.frozen?, hg]

theorem Own.cell {w : World} {lo hi g o : Nat} {n c : Nat} {xs : List Int} (h : Own w lo hi (some ⟨g, o, none⟩) n c xs) {k : Nat} (hk : k < n) :
    w.cell? ⟨g, k, none⟩ = some (.int .i64 (nth xs k)) := by
  obtain ⟨b, o', hp, hc⟩ := h.ints.cell k hk
  rcases h.row.2 with ⟨h0, _⟩ | ⟨g', cap, cur, hv, _, hg, _⟩
  · cases h0
  · injection hv with hp' _ _
    injection hp' with hp'
    injection hp' with e1 e2
    subst e1; subst e2
    injection hp with hp
    injection hp with e1 e2
    subst e1; subst e2
    simpa using hc

/-- A row of the call's own is nil, or begins at the head of a block. -/
theorem Own.form {w : World} {lo hi : Nat} {p : Option Addr} {n c : Nat} {xs : List Int} (h : Own w lo hi p n c xs) :
    (p = none ∧ n = 0 ∧ c = 0) ∨ ∃ g, p = some ⟨g, 0, none⟩ ∧ lo ≤ g ∧ g < hi ∧ g < w.heap.size ∧ n ≤ c ∧ c ≤ maxLen := by
  rcases h.row.2 with ⟨h0, hn⟩ | ⟨g', cap, cur, hv, hl, hg, hc, hm, _⟩
  · injection h0 with a b c
    exact .inl ⟨a, b, c⟩
  · injection hv with a b c
    subst c
    exact .inr ⟨g', a, hl, h.top _ a, (Array.getElem?_eq_some_iff.1 hg).1, hc, hm⟩

theorem Own.set {w : World} {lo hi g : Nat} {n c : Nat} {xs : List Int} (h : Own w lo hi (some ⟨g, 0, none⟩) n c xs) (k : Nat) (u : Int) :
    Own (w.setCell ⟨g, k, none⟩ (.int .i64 u)) lo hi (some ⟨g, 0, none⟩) n c (xs.set k u) := by
  refine ⟨?_, h.top⟩
  rw [List.map_set]
  exact (h.row.stored (g := g) (cap := c) k (.int .i64 u)).1

/-- The first k of ys, then what zs has from k on. -/
def mix (ys zs : List Int) (k : Nat) : List Int := ys.take k ++ zs.drop k

theorem mix_zero (ys zs : List Int) : mix ys zs 0 = zs := by simp [mix]
theorem mix_all {ys zs : List Int} {k : Nat} (h : ys.length ≤ k) (h' : zs.length ≤ k) : mix ys zs k = ys := by
  simp [mix, List.take_of_length_le h, List.drop_eq_nil_of_le h']
theorem mix_set {ys zs : List Int} {k : Nat} (h : k < ys.length) (h' : k < zs.length) : (mix ys zs k).set k (nth ys k) = mix ys zs (k + 1) := by
  unfold mix
  rw [take_nth h, List.set_append_right _ _ (by simp; omega)]
  have e : k - (ys.take k).length = 0 := by simp; omega
  rw [e, List.drop_eq_getElem_cons h', List.set_cons_zero]
  simp
theorem mix_nth {ys zs : List Int} {k : Nat} (h2 : k ≤ ys.length) : nth (mix ys zs k) k = nth zs k := by
  have hl : (ys.take k).length = k := by simp; omega
  unfold mix nth
  simp [List.getD, List.getElem?_append_right, hl]

/-- A slice that is no longer than it can be, with room behind it: what every walk may ask of a length. -/
theorem Own.small {w : World} {lo hi : Nat} {p : Option Addr} {n c : Nat} {xs : List Int} (h : Own w lo hi p n c xs) : n ≤ 9223372036854775807 := by
  rcases h.form with ⟨_, rfl, _⟩ | ⟨g, _, _, _, _, hc, hm⟩
  · omega
  · unfold maxLen at hm; omega

/-- The numbers k, k + 1, .. -/
def upFrom (k : Int) : Nat → List Int
  | 0 => []
  | n + 1 => k :: upFrom (k + 1) n
theorem upFrom_length (k : Int) (n : Nat) : (upFrom k n).length = n := by
  induction n generalizing k with
  | zero => rfl
  | succ n ih => simp [upFrom, ih]
theorem upFrom_nth (k : Int) (n i : Nat) (h : i < n) : nth (upFrom k n) i = k + i := by
  induction n generalizing k i with
  | zero => omega
  | succ n ih =>
    cases i with
    | zero => simp [upFrom, nth, List.getD]
    | succ i =>
      have := ih (k + 1) i (by omega)
      simp only [upFrom, nth, List.getD_cons_succ] at this ⊢
      rw [this]; omega

end Go.Proofs.Ytdchckljggjaaaa
