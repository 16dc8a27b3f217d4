/- The slice of a region: plain laws. Conditions: none. -/
import Derived.Test.YtpfklkmmhdpphacCopy2
import Derived.Test.YtpfklkmmhdpphacReg3
import Derived.Deep.DrawnRows
namespace Go.Proofs.Ytpfklkmmhdpphac
open Go.RowKit
set_option linter.unusedVariables false
set_option linter.unusedSimpArgs false
set_option maxRecDepth 100000

/-- A list without its place k. -/
def cutL (k : Nat) (xs : List Int) : List Int := xs.take k ++ xs.drop (k + 1)
theorem cutL_len {k : Nat} {xs : List Int} (h : k < xs.length) : (cutL k xs).length = xs.length - 1 := by simp [cutL]; omega
def slP (k : Nat) (n : Int) (p : Pr) : Pr := (cutL k p.1, wrap64 (p.2 - wrap64 (nth p.1 k * n)))
def slKeep (p : Pr) : Bool := decide (0 < gcdL p.1)
def slOff (p : Pr) : Bool := !slKeep p && decide (p.2 < 0)
/-- The halves that stay, of the first i. -/
def slTo (k : Nat) (n : Int) (hs : List Pr) (i : Nat) : List Pr := ((hs.take i).map (slP k n)).filter slKeep
def slBad (k : Nat) (n : Int) (hs : List Pr) (i : Nat) : Bool := ((hs.take i).map (slP k n)).any slOff
theorem slTo_step {k : Nat} {n : Int} {hs : List Pr} {i : Nat} (h : i < hs.length) : slTo k n hs (i + 1) = if slKeep (slP k n (prAt hs i)) = true then slTo k n hs i ++ [slP k n (prAt hs i)] else slTo k n hs i := by
  unfold slTo
  rw [take_prAt h, List.map_append, List.filter_append]
  split <;> simp_all
theorem slBad_step {k : Nat} {n : Int} {hs : List Pr} {i : Nat} (h : i < hs.length) : slBad k n hs (i + 1) = (slBad k n hs i || slOff (slP k n (prAt hs i))) := by
  unfold slBad
  rw [take_prAt h, List.map_append, List.any_append]
  simp
theorem slBad_stop {k : Nat} {n : Int} {hs : List Pr} {i : Nat} (h : i < hs.length) (hb : slOff (slP k n (prAt hs i)) = true) : slBad k n hs hs.length = true := by
  unfold slBad
  rw [List.take_length, List.any_map, List.any_eq_true]
  exact ⟨prAt hs i, prAt_mem h, hb⟩
def sliceV (z k n : Int) (hs : List Pr) : (Int × List Pr) × Bool :=
  if isReg z hs = true ∧ z ≠ 1 ∧ inR k 0 (z - 1) = true ∧ inR n (-6) 6 = true ∧ slBad k.toNat n hs hs.length = false then regIf (z - 1) (slTo k.toNat n hs hs.length) else ((0, []), false)

theorem cutL_in62 {k : Nat} {xs : List Int} (h : ∀ j, j < xs.length → In62 (nth xs j)) : ∀ j, j < (cutL k xs).length → In62 (nth (cutL k xs) j) := fun j hj => by
  have hm : nth (cutL k xs) j ∈ cutL k xs := by rw [nth_eq hj]; exact List.getElem_mem hj
  have hx : nth (cutL k xs) j ∈ xs := by
    rcases List.mem_append.1 hm with h1 | h1
    · exact List.mem_of_mem_take h1
    · exact List.mem_of_mem_drop h1
  obtain ⟨i, hi, e⟩ := List.getElem_of_mem hx
  rw [← e, ← nth_eq hi]
  exact h i hi

theorem Ints.takeS {w : World} {p : Option Addr} {n : Nat} {xs : List Int} (h : Ints w p n xs) {k : Nat} (hk : k ≤ n) : Ints w p k (xs.take k) := by
  have hl := h.len
  refine ⟨by simp; omega, fun i hi => ?_⟩
  obtain ⟨b, o, hp, hc⟩ := h.cell i (by omega)
  refine ⟨b, o, hp, ?_⟩
  rw [hc, nth_eq (by omega), nth_eq (by simp; omega)]
  simp
theorem Ints.dropS {w : World} {b o n : Nat} {xs : List Int} (h : Ints w (some ⟨b, o, none⟩) n xs) (k : Nat) : Ints w (some ⟨b, o + k, none⟩) (n - k) (xs.drop k) := by
  have hl := h.len
  refine ⟨by simp; omega, fun i hi => ?_⟩
  obtain ⟨b', o', hp, hc⟩ := h.cell (k + i) (by omega)
  injection hp with hp
  injection hp with e1 e2
  subst e1; subst e2
  refine ⟨_, _, rfl, ?_⟩
  rw [Nat.add_assoc, hc, nth_eq (by omega), nth_eq (by simp; omega)]
  simp

/-- The struct that the call builds, in block B. -/
structure Build2 (B : Nat) (W0 wr : World) (z : Int) (p' : Option Addr) (k c' : Nat) (rows : List Row) (hs : List Pr) : Prop where
  out : Box2 wr B (.int .i64 z) (.slice p' k c') 26
  own : OwnP 48 wr (B + 1) wr.heap.size p' k c' rows hs
  low : Below B W0 wr
  size : B + 1 ≤ wr.heap.size

theorem boxes2' (w : World) (z : Int) (p : Option Addr) (n c : Nat) :
    Box2 ((w.alloc (.cells #[.int .i64 z, .slice p n c] 26)).alloc (.cells #[.int .i64 0, .slice none 0 0] 26)) w.heap.size (.int .i64 z) (.slice p n c) 26 ∧
    Box2 ((w.alloc (.cells #[.int .i64 z, .slice p n c] 26)).alloc (.cells #[.int .i64 0, .slice none 0 0] 26)) (w.heap.size + 1) (.int .i64 0) (.slice none 0 0) 26 ∧
    w.heap.size + 2 ≤ ((w.alloc (.cells #[.int .i64 z, .slice p n c] 26)).alloc (.cells #[.int .i64 0, .slice none 0 0] 26)).heap.size := by
  refine ⟨(Box2.new w _ _ _).alloc _, ?_, by simp⟩
  have h := Box2.new (w.alloc (.cells #[.int .i64 z, .slice p n c] 26)) (.int .i64 0) (.slice none 0 0) 26
  rwa [World.size_alloc] at h
theorem back2' {w w1 : World} (hb : Below w.heap.size w w1) (k : Nat) (u v : Value) : Below w.heap.size w ((w1.setCell ⟨w.heap.size + k, 0, none⟩ u).setCell ⟨w.heap.size + k, 1, none⟩ v) :=
  (hb.setCell (p := ⟨_, _, none⟩) (by dsimp only; omega) _).setCell (p := ⟨_, _, none⟩) (by dsimp only; omega) _

theorem Own.offSet {w : World} {lo hi : Nat} {p : Option Addr} {n c : Nat} {xs : List Int} (h : Own w lo hi p n c xs) {a : Addr} (hne : ∀ b, p = some b → b.block ≠ a.block) (u : Value) : Own (w.setCell a u) lo hi p n c xs := by
  refine ⟨⟨h.row.1, ?_⟩, h.top⟩
  rcases h.row.2 with h0 | ⟨g, cap, cur, hv, hl', hg, hr⟩
  · exact .inl h0
  · injection hv with h1 h2 h3
    have := hne _ h1
    exact .inr ⟨g, cap, cur, by rw [h1, h2, h3], hl', (Below.heap_setCell w a u g (by simpa using this)).trans hg, hr⟩

/-- A half of the call's own, in a block of its own. -/
structure HalfAt (wr wx : World) (g : Nat) (p : Option Addr) (m c : Nat) (ys : List Int) (b : Int) : Prop where
  box : Box2 wx g (.slice p m c) (.int .i64 b) 48
  own : Own wx wr.heap.size wx.heap.size p m c ys
  low : Below wr.heap.size wr wx
  ge : wr.heap.size ≤ g
theorem HalfAt.set {wr w4 : World} {g : Nat} {p : Option Addr} {m c : Nat} {ys : List Int} {b : Int} {u v : Value} (hx : Box2 w4 g u v 48) (ho : Own w4 wr.heap.size w4.heap.size p m c ys) (hne : ∀ a, p = some a → a.block ≠ g) (hb : Below wr.heap.size wr w4) (hg : wr.heap.size ≤ g) :
    HalfAt wr ((w4.setCell ⟨g, 0, none⟩ (.slice p m c)).setCell ⟨g, 1, none⟩ (.int .i64 b)) g p m c ys b := by
  refine ⟨(hx.set0 _).set1 _, ?_, (hb.setCell hg _).setCell hg _, hg⟩
  refine (Own.offSet (Own.offSet ho (a := ⟨g, 0, none⟩) hne _) (a := ⟨g, 1, none⟩) hne _).up
theorem HalfAt.new {wr w4 : World} {p : Option Addr} {m c : Nat} {ys : List Int} {b : Int} (ho : Own w4 wr.heap.size w4.heap.size p m c ys) (hb : Below wr.heap.size wr w4) :
    HalfAt wr (w4.alloc (.cells #[.slice p m c, .int .i64 b] 48)) w4.heap.size p m c ys b :=
  ⟨Box2.new _ _ _ _, (ho.alloc _).up, hb.alloc hb.size _, hb.size⟩
theorem Grow.ne {W W' : World} {p p' : Option Addr} (hg : Grow W W' p p') {g : Nat} (h : ∀ a, p = some a → a.block ≠ g) (hlt : g < W.heap.size) : ∀ a, p' = some a → a.block ≠ g := fun a ha => by
  subst ha
  rcases hg.at_ with h1 | h1
  · cases p with
    | none => simp [blk] at h1
    | some a' => simp [blk] at h1; rw [h1]; exact h a' rfl
  · simp [blk] at h1; omega

theorem slTo_len (k : Nat) (n : Int) (hs : List Pr) (i : Nat) : (slTo k n hs i).length ≤ hs.length := by
  unfold slTo
  refine Nat.le_trans (List.length_filter_le _ _) ?_
  simp; omega

end Go.Proofs.Ytpfklkmmhdpphac
