/- MeetRegions: the plain words, the closure that the program hands on, and slices.ContainsFunc over it. Conditions: sizes. -/
import Derived.Test.YtpfklkmmhdpphadGreatDoorCopy2
import Derived.Test.YtpfklkmmhdpphadGreatDoorEqReg2
import Derived.Test.YtpfklkmmhdpphadGreatDoorRegLen
namespace Go.Proofs.YtpfklkmmhdpphadGreatDoor
open Go.RowKit
set_option linter.unusedVariables false
set_option linter.unusedSimpArgs false
set_option maxRecDepth 100000

/-- The halves of vs that are not among us. -/
def selH (us vs : List Pr) : List Pr := vs.filter fun h => !decide (h ∈ us)
theorem selH_no {us vs : List Pr} {k : Nat} (h : k < vs.length) (hm : decide (prAt vs k ∈ us) = true) : selH us (vs.take (k + 1)) = selH us (vs.take k) := by
  rw [take_prAt h, selH, List.filter_append]
  simp only [decide_eq_true_eq] at hm
  simp [selH, hm]
theorem selH_yes {us vs : List Pr} {k : Nat} (h : k < vs.length) (hm : decide (prAt vs k ∈ us) = false) : selH us (vs.take (k + 1)) = selH us (vs.take k) ++ [prAt vs k] := by
  rw [take_prAt h, selH, List.filter_append]
  simp only [decide_eq_false_iff_not] at hm
  simp [selH, hm]
def meetW (us vs : List Pr) : List Pr := us ++ selH us vs
def meetV (z : Int) (us : List Pr) (y : Int) (vs : List Pr) : (Int × List Pr) × Bool := if isReg z us = true ∧ isReg y vs = true ∧ z = y then regIf z (meetW us vs) else ((0, []), false)
theorem meetV_len (z y : Int) (us vs : List Pr) : (meetV z us y vs).1.2.length ≤ 8 ∧ totH (meetV z us y vs).1.2 ≤ 24 := by
  unfold meetV
  split
  · exact regIf_len _ _
  · simp [totH, nrms, tot]
theorem reg_small {z : Int} {us : List Pr} (h : isReg z us = true) : us.length ≤ 8 ∧ totH us ≤ 1048576 := by
  have := regIf_len z us
  rw [regIf_yes h] at this
  exact ⟨this.1, by have := this.2; dsimp only at this; omega⟩
theorem mem_at {us : List Pr} {h : Pr} : h ∈ us ↔ ∃ k, k < us.length ∧ prAt us k = h := by
  constructor
  · intro hm
    obtain ⟨k, hk, e⟩ := List.getElem_of_mem hm
    exact ⟨k, hk, by rw [prAt_eq hk, e]⟩
  · rintro ⟨k, hk, rfl⟩
    exact prAt_mem hk
theorem mem_no {us : List Pr} {h : Pr} (hk : ∀ k, k < us.length → beqP (prAt us k) h = false) : decide (h ∈ us) = false := by
  simp only [decide_eq_false_iff_not, mem_at]
  rintro ⟨k, hlt, e⟩
  have := hk k hlt
  rw [beqP_iff.2 e] at this; cases this
theorem mem_yes {us : List Pr} {h : Pr} {k : Nat} (hk : k < us.length) (hb : beqP (prAt us k) h = true) : decide (h ∈ us) = true := by
  simp only [decide_eq_true_eq, mem_at]
  exact ⟨k, hk, beqP_iff.1 hb⟩

theorem meet1_any (q : Option Addr) (m c : Nat) (xs : List Int) (a : Int) (B : Nat) (q2 : Option Addr) (m2 d2 : Nat) (ys : List Int) (b : Int) (w : World) (hx : Ints w q m xs) (kb : Box2 w B (.slice q2 m2 d2) (.int .i64 b) 36) (hy : Ints w q2 m2 ys)
    (hm : m ≤ 9223372036854775807) (hm2 : m2 ≤ 9223372036854775807) :
    Calls Tryz.prog 43 #[.agg #[.slice q m c, .int .i64 a], .pointer (some ⟨B, 0, none⟩)] w (Ret (.bool (beqP (xs, a) (ys, b))) w) := by
  have hbx := boxed w (.cells #[.slice q m c, .int .i64 a] 36)
  have kb1 := kb.alloc (.cells #[.slice q m c, .int .i64 a] 36)
  have b0 := kb1.c0
  have b1 := kb1.c1
  go_enter Tryz.func43, Tryz.ntmps43
  go_wp2_with fail
  refine (equalHalf_any _ _ _ _ _ _ _ _ _ _ _ (hx.below hbx) (hy.below hbx) hm hm2).mono ?_
  rintro e w1 ⟨rfl, hb1⟩
  go_wp2
  go_ret
  exact ⟨rfl, Below.step hbx hb1⟩

theorem indexFunc_any (p : Option Addr) (n c : Nat) (us : List Pr) (B : Nat) (q2 : Option Addr) (m2 d2 : Nat) (ys : List Int) (b : Int) (w : World) (hx : Prs w p n us) (kb : Box2 w B (.slice q2 m2 d2) (.int .i64 b) 36) (hy : Ints w q2 m2 ys)
    (hn : n ≤ 9223372036854775807) (hm2 : m2 ≤ 9223372036854775807) :
    Calls Tryz.prog 71 #[.slice p n c, .func (.func 43) #[] #[.pointer (some ⟨B, 0, none⟩)]] w
      fun e w' => (∃ i : Int, e = .returned (.int .i64 i) ∧ decide (0 ≤ i) = decide ((ys, b) ∈ us)) ∧ Below w.heap.size w w' := by
  have hl := Lib.hid hx.len
  go_enter Tryz.func71, Tryz.ntmps71
  go_wp2
  go_loopw [8] (fun i wr => ∃ k : Nat, k ≤ n ∧ i = .int .i64 k ∧ Hid (∀ j, j < k → beqP (prAt us j) (ys, b) = false) ∧ Below w.heap.size w wr) (fun i _ => n - (intOf i).toNat)
  case atStart => exact ⟨0, Nat.zero_le _, rfl, fun j h => absurd h (by omega), Below.refl _ _⟩
  case round =>
    obtain ⟨k, hk, rfl, hall, hb⟩ := hrel
    by_cases hlt : k < n
    · obtain ⟨b1, o1, q1, m1, d1, rfl, hc, hcb, hmd, hd, hi⟩ := (hx.below hb).cell k hlt
      cases hr : beqP (nrm us k, bnd us k) (ys, b)
      all_goals
        have Hr := Lib.hid hr
        clear hr
        go_wp2_with fail
        refine (meet1_any _ _ _ _ _ _ _ _ _ _ _ _ hi (kb.below hb) (hy.below hb) (by omega) hm2).mono ?_
        rw [Hr.out]
        rintro e w1 ⟨rfl, hb1⟩
        have hb2 := Below.step hb hb1
        go_wp2
      · go_roundw
        case rel =>
          refine ⟨k + 1, by omega, by go_num, fun j hj => ?_, hb2⟩
          by_cases hjk : j < k
          · exact hall.out j hjk
          · obtain rfl : j = k := by omega
            exact Hr.out
        case measure => simp [intOf]; omega
      · go_ret
        refine ⟨⟨_, rfl, ?_⟩, hb2⟩
        rw [mem_yes (k := k) (by rw [hl.out]; exact hlt) Hr.out]
        simp
    · go_wp2
      go_ret
      obtain rfl : k = n := by omega
      refine ⟨⟨_, rfl, ?_⟩, hb⟩
      rw [mem_no fun j hj => hall.out j (by rw [hl.out] at hj; exact hj)]
      rfl

theorem containsFunc_any (p : Option Addr) (n c : Nat) (us : List Pr) (B : Nat) (q2 : Option Addr) (m2 d2 : Nat) (ys : List Int) (b : Int) (w : World) (hx : Prs w p n us) (kb : Box2 w B (.slice q2 m2 d2) (.int .i64 b) 36) (hy : Ints w q2 m2 ys)
    (hn : n ≤ 9223372036854775807) (hm2 : m2 ≤ 9223372036854775807) :
    Calls Tryz.prog 42 #[.slice p n c, .func (.func 43) #[] #[.pointer (some ⟨B, 0, none⟩)]] w (Ret (.bool (decide ((ys, b) ∈ us))) w) := by
  go_enter Tryz.func42, Tryz.ntmps42
  go_wp2_with fail
  refine (indexFunc_any _ _ _ _ _ _ _ _ _ _ _ hx kb hy hn hm2).mono ?_
  rintro e w1 ⟨⟨i, rfl, hi⟩, hb1⟩
  have Hi := Lib.hid hi
  clear hi
  go_wp2
  go_ret
  exact ⟨ret_bool (by rw [← Hi.out]), hb1⟩

/-- Pairs of the call's own are kept where another block grows. -/
theorem OwnP.kept {E : TypeId} (hE : E ≠ 3) {w w' : World} {lo hi lo' hi' : Nat} {p q : Option Addr} {n c m d : Nat} {rows : List Row} {hs : List Pr} {vs : List Value} (h : OwnP E w lo hi p n c rows hs) (ho : OwnV w E 2 lo' hi' q m d vs)
    (hg : w.grownBy w' (blk q)) (hne : blk q ≠ blk p ∨ p = none) : OwnP E w' lo hi p n c rows hs :=
  ⟨h.outer.kept hg hne, h.len, fun k hk => (h.inner k hk).kept hg (ho.ne (h.inner k hk).v hE), h.apart⟩
/-- A block that the pairs do not use is written. -/
theorem OwnP.setOff {E : TypeId} {w : World} {lo hi b : Nat} {p : Option Addr} {n c : Nat} {rows : List Row} {hs : List Pr} (h : OwnP E w lo hi p n c rows hs) (h1 : blk p ≠ some b) (h2 : ∀ r ∈ rows, blk r.1 ≠ some b) (k : Nat) (u : Value) :
    OwnP E (w.setCell ⟨b, k, none⟩ u) lo hi p n c rows hs :=
  ⟨h.outer.kept (q := some ⟨b, 0, none⟩) (set_grown w b k u) (.inl fun e => h1 e.symm), h.len, fun j hj => (h.inner j hj).kept (q := some ⟨b, 0, none⟩) (set_grown w b k u) (.inl fun e => h2 _ (List.getElem_mem hj) e.symm), h.apart⟩
theorem OwnP.offOf {E : TypeId} {w : World} {lo hi b : Nat} {p : Option Addr} {n c : Nat} {rows : List Row} {hs : List Pr} (h : OwnP E w lo hi p n c rows hs) (hb : hi ≤ b) : blk p ≠ some b ∧ ∀ r ∈ rows, blk r.1 ≠ some b := by
  have key : ∀ {q : Option Addr} {E' : TypeId} {size m d : Nat} {vs : List Value}, OwnV w E' size lo hi q m d vs → blk q ≠ some b := fun {q} {_} {_} {_} {_} {_} ho e => by
    cases q with
    | none => cases e
    | some a =>
      have := (ho.lt a rfl).2.1
      simp only [blk, Option.map_some, Option.some.injEq] at e
      omega
  refine ⟨key h.outer, fun r hr => ?_⟩
  obtain ⟨k, hk, rfl⟩ := List.getElem_of_mem hr
  exact key (h.inner k hk).v
/-- Behind the append of a pair whose row is the call's own already. -/
theorem OwnP.app2 {E : TypeId} (hE : E ≠ 3) {w W W' : World} {lo hi : Nat} {p p' : Option Addr} {n c c' : Nat} {rows : List Row} {hs : List Pr} (h : OwnP E w lo hi p n c rows hs)
    {q : Option Addr} {m d : Nat} {ys : List Int} {b : Int} (hr : Own w lo hi q m d ys) (hap : ∀ r ∈ rows, blk r.1 ≠ blk q ∨ r.1 = none)
    (hb : Below w.heap.size w W) (hv : OwnV W' E 2 lo W'.heap.size p' (n + 1) c' (pcells rows hs ++ [.slice q m d, .int .i64 b])) (hg : Grow W W' p p') :
    OwnP E W' lo W'.heap.size p' (n + 1) c' (rows ++ [(q, m, d)]) (hs ++ [(ys, b)]) := by
  have hc := h.count
  have hl := h.len
  have keep : ∀ {q' : Option Addr} {n' c' : Nat} {zs : List Int}, Own w lo hi q' n' c' zs → Own W' lo W'.heap.size q' n' c' zs := fun hz =>
    ((hz.below hb).kept (q := p) hg.by_ ((h.outer.below hb).ne (hz.below hb).v hE)).up
  refine ⟨by rw [pcells_app hl]; exact hv, by simp [hl], fun k hk => ?_, ?_⟩
  · by_cases hkl : k < rows.length
    · rw [nrm, prAt_app (by omega)]
      simp only [List.getElem_append_left hkl]
      exact keep (h.inner k hkl)
    · simp only [List.length_append, List.length_cons, List.length_nil] at hk
      obtain rfl : k = rows.length := by omega
      have e : nrm (hs ++ [(ys, b)]) rows.length = ys := by rw [nrm, hl, prAt_last]
      rw [e]
      simp only [List.getElem_append_right (Nat.le_refl _), Nat.sub_self, List.getElem_cons_zero]
      exact keep hr
  · rw [List.pairwise_append]
    refine ⟨h.apart, List.pairwise_singleton _ _, fun r hr1 s hs => ?_⟩
    simp only [List.mem_singleton] at hs
    subst hs
    exact hap r hr1
theorem Grow.off {W W' : World} {p p' : Option Addr} (hg : Grow W W' p p') {g : Nat} (h : blk p ≠ some g) (hlt : g < W.heap.size) : blk p' ≠ some g := fun e => by
  rcases hg.at_ with h1 | h1
  · exact h (by rw [← h1, e])
  · rw [h1] at e; injection e with e; omega

/-- The struct that the call builds: it lies in block b, its pairs lie elsewhere. -/
structure Meeting (wr : World) (lo b : Nat) (z : Int) (p : Option Addr) (n c : Nat) (rows : List Row) (hs : List Pr) : Prop where
  out : Box2 wr b (.int .i64 z) (.slice p n c) 26
  own : OwnP 36 wr lo wr.heap.size p n c rows hs
  off : blk p ≠ some b
  offs : ∀ r ∈ rows, blk r.1 ≠ some b
theorem Meeting.below {wr w' : World} {lo b : Nat} {z : Int} {p : Option Addr} {n c : Nat} {rows : List Row} {hs : List Pr} (h : Meeting wr lo b z p n c rows hs) (hb : Below wr.heap.size wr w') : Meeting w' lo b z p n c rows hs :=
  ⟨h.out.below hb, (h.own.below hb).up, h.off, h.offs⟩

/-- Three structs that lie in new blocks. -/
theorem boxes3 (w : World) (z y : Int) (p q : Option Addr) (n c m d : Nat) :
    Box2 (((w.alloc (.cells #[.int .i64 z, .slice p n c] 26)).alloc (.cells #[.int .i64 y, .slice q m d] 26)).alloc (.cells #[.int .i64 0, .slice none 0 0] 26)) w.heap.size (.int .i64 z) (.slice p n c) 26 ∧
    Box2 (((w.alloc (.cells #[.int .i64 z, .slice p n c] 26)).alloc (.cells #[.int .i64 y, .slice q m d] 26)).alloc (.cells #[.int .i64 0, .slice none 0 0] 26)) (w.heap.size + 1) (.int .i64 y) (.slice q m d) 26 ∧
    Box2 (((w.alloc (.cells #[.int .i64 z, .slice p n c] 26)).alloc (.cells #[.int .i64 y, .slice q m d] 26)).alloc (.cells #[.int .i64 0, .slice none 0 0] 26)) (w.heap.size + 1 + 1) (.int .i64 0) (.slice none 0 0) 26 ∧
    w.heap.size + 3 ≤ (((w.alloc (.cells #[.int .i64 z, .slice p n c] 26)).alloc (.cells #[.int .i64 y, .slice q m d] 26)).alloc (.cells #[.int .i64 0, .slice none 0 0] 26)).heap.size ∧
    Below w.heap.size w (((w.alloc (.cells #[.int .i64 z, .slice p n c] 26)).alloc (.cells #[.int .i64 y, .slice q m d] 26)).alloc (.cells #[.int .i64 0, .slice none 0 0] 26)) := by
  refine ⟨((Box2.new w _ _ _).alloc _).alloc _, ?_, ?_, by simp, boxed3 _ _ _ _⟩
  · have h := (Box2.new (w.alloc (.cells #[.int .i64 z, .slice p n c] 26)) (.int .i64 y) (.slice q m d) 26).alloc (.cells #[.int .i64 0, .slice none 0 0] 26)
    rwa [World.size_alloc] at h
  · have h := Box2.new ((w.alloc (.cells #[.int .i64 z, .slice p n c] 26)).alloc (.cells #[.int .i64 y, .slice q m d] 26)) (.int .i64 0) (.slice none 0 0) 26
    rwa [World.size_alloc, World.size_alloc] at h

end Go.Proofs.YtpfklkmmhdpphadGreatDoor
