/- Contracts of the laws' helpers on slices of slices of numbers. Conditions: sizes. -/
import Derived.Test.YtdchckljggjaaaaRows2
namespace Go.Proofs.Ytdchckljggjaaaa
open Go.RowKit
set_option linter.unusedVariables false
set_option linter.unusedSimpArgs false
set_option maxRecDepth 100000

def mixR (ys zs : List (List Int)) (k : Nat) : List (List Int) := ys.take k ++ zs.drop k
theorem mixR_zero (ys zs : List (List Int)) : mixR ys zs 0 = zs := by simp [mixR]
theorem mixR_all {ys zs : List (List Int)} {k : Nat} (h : ys.length ≤ k) (h' : zs.length ≤ k) : mixR ys zs k = ys := by
  simp [mixR, List.take_of_length_le h, List.drop_eq_nil_of_le h']
theorem mixR_set {ys zs : List (List Int)} {k : Nat} (h : k < ys.length) (h' : k < zs.length) : (mixR ys zs k).set k (nthR ys k) = mixR ys zs (k + 1) := by
  unfold mixR
  rw [take_nthR h, List.set_append_right _ _ (by simp; omega)]
  have e : k - (ys.take k).length = 0 := by simp; omega
  rw [e, List.drop_eq_getElem_cons h', List.set_cons_zero]
  simp
theorem mixR_nth {ys zs : List (List Int)} {k : Nat} (h2 : k ≤ ys.length) : nthR (mixR ys zs k) k = nthR zs k := by
  have hl : (ys.take k).length = k := by simp; omega
  unfold mixR nthR
  simp [List.getD, List.getElem?_append_right, hl]

/-- How many numbers the rows hold. -/
def tot (xss : List (List Int)) : Nat := (xss.map List.length).sum
theorem tot_take {xss : List (List Int)} {k : Nat} (h : k < xss.length) : tot (xss.take (k + 1)) = tot (xss.take k) + (nthR xss k).length := by
  rw [take_nthR h]; simp [tot]
theorem tot_le (xss : List (List Int)) (k : Nat) : tot (xss.take k) ≤ tot xss := by
  have : tot xss = tot (xss.take k) + tot (xss.drop k) := by
    unfold tot
    rw [← List.sum_append, ← List.map_append, List.take_append_drop]
  omega
theorem len_le_tot {xss : List (List Int)} {k : Nat} (h : k < xss.length) : (nthR xss k).length ≤ tot xss := by
  have := tot_le xss (k + 1)
  rw [tot_take h] at this
  omega

theorem Try.infoInts : (Try.prog.info? 40).map (fun i => (i.zero, i.size, i.bytes)) = some (some (.slice none 0 0), 1, 24) := by kernel_rfl

def NewM (w : World) (n : Nat) (xss : List (List Int)) (e : Ending) (w' : World) : Prop :=
  ∃ p c, e = .returned (.slice p n c) ∧ OwnM w' w.heap.size w'.heap.size p n c xss ∧ Below w.heap.size w w'

theorem made_rows (n : Nat) : (madeCells (Value.slice none 0 0).cells (n * 1)).toList = (List.replicate n ((none, 0, 0) : Row)).map Row.val := by
  rw [show (Value.slice none 0 0).cells = #[Value.slice none 0 0] from rfl, toList_madeCells_one, Nat.mul_one, List.map_replicate]
  rfl

theorem made_own2 {w w1 : World} {n : Nat} (hown : w1.ownsRow w.heap.size 40 1 (.slice (some ⟨w.heap.size, 0, none⟩) n n) n (madeCells (Value.slice none 0 0).cells (n * 1)).toList) :
    Own2 w1 w.heap.size w1.heap.size (some ⟨w.heap.size, 0, none⟩) n n (List.replicate n (none, 0, 0)) (List.replicate n []) := by
  rw [made_rows] at hown
  refine ⟨⟨hown, fun a ha => by have := hown.lt a.block (by rw [ha]; rfl); exact this.2⟩, by simp, fun k hk => ?_, ?_⟩
  · simp only [List.getElem_replicate]
    rw [show nthR (List.replicate n ([] : List Int)) k = [] by simp only [List.length_replicate] at hk; rw [nthR_eq (by simpa using hk)]; simp]
    exact Own.nil _ _ _
  · rw [List.pairwise_iff_getElem]
    intro i j _ _ _
    exact .inr (by simp)

theorem szIntS_any (p : Option Addr) (n c : Nat) (left : Int) (w : World) (hn : n ≤ 9223372036854775807) (hl : -1 ≤ left) (hl2 : left ≤ 9223372036854775807) :
    Calls Try.prog 130 #[.slice p n c, .int .i64 left] w fun e w' => e = .returned (.int .i64 (if (n : Int) ≤ left then left - n else -1)) ∧ w = w' := by
  by_cases h : (n : Int) ≤ left
  · rw [if_pos h]
    go_enter Try.func130, Try.ntmps130
    go_wp2
    go_ret
    exact ⟨rfl, rfl⟩
  · rw [if_neg h]
    go_enter Try.func130, Try.ntmps130
    go_wp2
    go_ret
    exact ⟨rfl, rfl⟩

/-- What is left of a size, or -1. -/
def leftOf (t : Nat) (left : Int) : Int := if (t : Int) ≤ left then left - t else -1

theorem leftOf_yes {t : Nat} {left : Int} (h : (t : Int) ≤ left) : leftOf t left = left - t := by unfold leftOf; rw [if_pos h]
theorem leftOf_no {t : Nat} {left : Int} (h : ¬ (t : Int) ≤ left) : leftOf t left = -1 := by unfold leftOf; rw [if_neg h]

/-- The world is as it was but for draws. -/
def Drawn (w wr : World) : Prop := ∃ z, wr = w.drewN z
theorem Drawn.refl (w : World) : Drawn w w := ⟨0, rfl⟩
theorem Drawn.more {w wr : World} (h : Drawn w wr) (q : Nat) : Drawn w (wr.drewN q) := by
  obtain ⟨z, rfl⟩ := h; exact drew2 _ _ _
theorem Drawn.intss {w wr : World} (h : Drawn w wr) {p : Option Addr} {n : Nat} {xss : List (List Int)} (hx : Intss w p n xss) : Intss wr p n xss := by
  obtain ⟨z, rfl⟩ := h; exact hx.drewN z
theorem Drawn.ints {w wr : World} (h : Drawn w wr) {p : Option Addr} {n : Nat} {xs : List Int} (hx : Ints w p n xs) : Ints wr p n xs := by
  obtain ⟨z, rfl⟩ := h; exact hx.drewN z
theorem Drawn.cell {w wr : World} (h : Drawn w wr) (a : Addr) : wr.cell? a = w.cell? a := by obtain ⟨z, rfl⟩ := h; rfl
theorem Drawn.below {w wr : World} (h : Drawn w wr) : Below w.heap.size w wr := by
  obtain ⟨z, rfl⟩ := h; exact Below.drawn (Below.refl _ _) z
theorem Drawn.trans {a b c : World} (h : Drawn a b) (k : Drawn b c) : Drawn a c := by
  obtain ⟨z, rfl⟩ := h; obtain ⟨y, rfl⟩ := k; exact drew2 _ _ _

end Go.Proofs.Ytdchckljggjaaaa
