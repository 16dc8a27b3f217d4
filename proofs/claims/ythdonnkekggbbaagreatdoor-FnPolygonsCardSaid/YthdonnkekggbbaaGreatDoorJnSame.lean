/- Texts joined: Same Put Put2 Poly1 Poly2 Poly3 Poly4 Pg1. -/
import Derived.Test.YthdonnkekggbbaaGreatDoorJnVecFns2
import Derived.Test.YthdonnkekggbbaaGreatDoorJnTexts
import Derived.Test.YthdonnkekggbbaaGreatDoorJnBase
import Derived.StillTailTactics

/- Contract of spec.l2Same. Conditions: sizes. -/
namespace Go.Proofs.YthdonnkekggbbaaGreatDoor
open Go.RowKit
set_option linter.unusedVariables false
set_option linter.unusedSimpArgs false
set_option maxRecDepth 100000

theorem l2SameP_any (p q : Option Addr) (n c m d : Nat) (xs ys : List Int) (w : World) (hx : Ints w p n xs) (hy : Ints w q m ys) (hn : n ≤ 9223372036854775807) (hm : m ≤ 9223372036854775807) :
    Calls Tryz.prog 78 #[.slice p n c, .slice q m d] w fun e w' => e = .returned (.bool (beqL xs ys)) ∧ ∃ z, w' = w.drewN z := by
  have hl := Lib.hid hx.len
  have hl2 := Lib.hid hy.len
  by_cases hnm : n = m
  · subst hnm
    go_enter Tryz.func78, Tryz.ntmps78
    go_wp2
    go_loopw [5] (fun i wr => ∃ k : Nat, k ≤ n ∧ i = .int .i64 k ∧ Hid (∀ j, j < k → nth xs j = nth ys j) ∧ ∃ z, wr = w.drewN z) (fun i _ => n - (intOf i).toNat)
    case atStart => exact ⟨0, Nat.zero_le _, rfl, fun j h => absurd h (by omega), 0, rfl⟩
    case round =>
      obtain ⟨k, hk, rfl, hall, z, rfl⟩ := hrel
      by_cases hlt : k < n
      · obtain ⟨b, o, rfl, hc⟩ := hx.cell k hlt
        obtain ⟨b2, o2, rfl, hc2⟩ := hy.cell k hlt
        by_cases he : nth xs k = nth ys k
        · have he' : (nth xs k != nth ys k) = false := by simp [he]
          have He := Lib.hid he
          clear he
          go_wp2
          go_quiet (fail)
          go_wp2
          go_roundw
          case rel =>
            refine ⟨k + 1, by omega, by go_num, fun j hj => ?_, _, rfl⟩
            by_cases hjk : j < k
            · exact hall.out j hjk
            · obtain rfl : j = k := by omega
              exact He.out
          case measure => simp [intOf]; omega
        · have he' : (nth xs k != nth ys k) = true := by simp [he]
          have He := Lib.hid he
          clear he
          go_wp2
          go_quiet (fail)
          go_wp2
          go_ret
          refine ⟨ret_bool ?_, _, World.drewN_drewN _ _ _⟩
          simp only [beqL]
          rw [eq_comm, decide_eq_false_iff_not]
          intro h
          exact He.out (by rw [h])
      · go_wp2
        go_ret
        refine ⟨ret_bool ?_, _, rfl⟩
        obtain rfl : k = n := by omega
        rw [nth_ext (hl.out.trans hl2.out.symm) (fun j hj => hall.out j (by rw [hl.out] at hj; exact hj)), beqL_self]
  · go_enter Tryz.func78, Tryz.ntmps78
    go_wp2
    go_ret
    refine ⟨ret_bool ?_, 0, rfl⟩
    simp only [beqL]
    rw [eq_comm, decide_eq_false_iff_not]
    intro h
    exact hnm (by rw [← hl.out, ← hl2.out, h])

end Go.Proofs.YthdonnkekggbbaaGreatDoor

/- Words for sorted insertion: the head of a row of the call's own, append of rows; what l2Put gives. Conditions: sizes. -/
namespace Go.Proofs.YthdonnkekggbbaaGreatDoor
open Go.RowKit
set_option linter.unusedVariables false
set_option linter.unusedSimpArgs false
set_option maxRecDepth 100000

theorem OwnV.pre {w : World} {E : TypeId} {lo hi : Nat} {p : Option Addr} {n c : Nat} {vs : List Value} (h : OwnV w E 1 lo hi p n c vs) {k : Nat} (hk : k ≤ n) : OwnV w E 1 lo hi p k c (vs.take k) := by
  have hl := h.len
  refine ⟨⟨by rw [List.length_take]; omega, ?_⟩, h.top⟩
  rcases h.row.2 with ⟨h0, hn⟩ | ⟨g, cap, cur, hv, hl', hg, hc, hm, hs, ht⟩
  · injection h0 with a b c
    subst hn
    obtain rfl : k = 0 := by omega
    exact .inl ⟨by rw [a, c], rfl⟩
  · injection hv with a b c
    subst c
    refine .inr ⟨g, _, cur, by rw [a], hl', hg, by omega, hm, hs, ?_⟩
    rw [← ht, List.take_take]
    congr 1
    omega

/-- The slice (q, m) holds the headers ns. -/
def Rws (w : World) (q : Option Addr) (m : Nat) (ns : List Row) : Prop := ns.length = m ∧ ∀ j (h : j < ns.length), ∃ g off, q = some ⟨g, off, none⟩ ∧ w.cell? ⟨g, off + j, none⟩ = some (Row.val ns[j])
theorem OwnV.rws {w : World} {lo hi : Nat} {p : Option Addr} {n c : Nat} {rows : List Row} (h : OwnV w 29 1 lo hi p n c (rows.map Row.val)) : Rws w p n rows := by
  have hl : rows.length = n := by have := h.len; simpa using this
  refine ⟨hl, fun j hj => ?_⟩
  rcases h.form with ⟨_, h0, _⟩ | ⟨g, rfl, _⟩
  · omega
  · refine ⟨g, 0, rfl, ?_⟩
    have := h.cell (k := j) (by omega)
    rw [List.getElem?_map, List.getElem?_eq_getElem hj] at this
    rw [Nat.zero_add]; exact this
theorem Rws.drop {w : World} {g n : Nat} {ns : List Row} (h : Rws w (some ⟨g, 0, none⟩) n ns) (k : Nat) : Rws w (some ⟨g, k, none⟩) (n - k) (ns.drop k) := by
  obtain ⟨hl, hc⟩ := h
  refine ⟨by rw [List.length_drop, hl], fun j hj => ⟨g, k, rfl, ?_⟩⟩
  rw [List.length_drop] at hj
  obtain ⟨g', o', e, hc'⟩ := hc (k + j) (by omega)
  injection e with e; injection e with e1 e2
  subst e1; subst e2
  rw [List.getElem_drop, ← hc', Nat.zero_add]

/-- append(out, src...) where src holds the values ns. -/
theorem wp_append_rows {o : Oper} {a : Act} {K : Act → World → Prop} {Q : Exit → Act → World → Prop} (s x : Operand)
    (ho : o.op = .call { callee := .builtin .append, args := #[s, x], argTypes := #[24, 24] }) (W : World) (lo hi : Nat) (p : Option Addr) (n c : Nat) (vs : List Value)
    (hs : a.eval s = .slice p n c) (hown : OwnV W 29 1 lo hi p n c vs) (q : Option Addr) (m d : Nat) (ns : List Row) (hx : a.eval x = .slice q m d) (hr : Rws W q m ns)
    (hn : n + m ≤ 5864062010000) (hlo : lo ≤ W.heap.size)
    (h : ∀ p' c' W', OwnV W' 29 1 lo W'.heap.size p' (n + m) c' (vs ++ ns.map Row.val) → Grow W W' p p' → K (a.put o.dst (.slice p' (n + m) c')) W') :
    o.wp Tryz.prog a W K Q :=
  wp_appendV 29 24 1 24 (.slice none 0 0) Tryz.underlying24 Tryz.infoInts rfl (by decide) s x ho W lo hi p n c _ hs hown _ m d (ns.map Row.val) hx (by simp [hr.1])
    (fun h0 => by
      obtain ⟨g, off, hq, _⟩ := hr.2 0 (by rw [hr.1]; exact h0)
      refine ⟨_, hq, fun j v hv => ?_⟩
      rw [List.getElem?_map, Option.map_eq_some_iff] at hv
      obtain ⟨y, hy1, rfl⟩ := hv
      have hj : j < ns.length := (List.getElem?_eq_some_iff.1 hy1).1
      rw [List.getElem?_eq_getElem hj] at hy1
      injection hy1 with hy1
      subst hy1
      obtain ⟨g', off', hq', hc⟩ := hr.2 j hj
      rw [hq] at hq'
      injection hq' with hq'; injection hq' with e1 e2
      subst e1; subst e2
      rw [Addr.add_lit]; exact hc)
    (fun v hv => by
      obtain ⟨r, _, rfl⟩ := List.mem_map.1 hv
      rfl) (by omega) (by unfold maxLen; omega) hlo
    fun p' c' W' h2 h3 => h p' c' W' h2 h3

theorem append_rows {ops : Array Oper} {rest : List Oper} {o : Oper} {a : Act} {Q : Exit → Act → World → Prop} (hgd : o.guard = none) (s x : Operand)
    (ho : o.op = .call { callee := .builtin .append, args := #[s, x], argTypes := #[24, 24] }) (W : World) (lo hi : Nat) (p : Option Addr) (n c : Nat) (vs : List Value)
    (hs : a.eval s = .slice p n c) (hown : OwnV W 29 1 lo hi p n c vs) (q : Option Addr) (m d : Nat) (ns : List Row) (hx : a.eval x = .slice q m d) (hr : Rws W q m ns)
    (hn : n + m ≤ 5864062010000) (hlo : lo ≤ W.heap.size)
    (h : ∀ p' c' W', OwnV W' 29 1 lo W'.heap.size p' (n + m) c' (vs ++ ns.map Row.val) → Grow W W' p p' → wpList Tryz.prog ops Q rest (a.put o.dst (.slice p' (n + m) c')) W') :
    wpList Tryz.prog ops Q (o :: rest) a W :=
  wpList_plain hgd fun _ hK => wp_append_rows s x ho W lo hi p n c vs hs hown q m d ns hx hr hn hlo fun p' c' W' h2 h3 => hK _ _ (h p' c' W' h2 h3)

theorem step_append_rows {ops : Array Oper} {o : Oper} {a : Act} {K : Act → World → Prop} {E : Prop} {Q : Exit → Act → World → Prop} (hgd : o.guard = none) (s x : Operand)
    (ho : o.op = .call { callee := .builtin .append, args := #[s, x], argTypes := #[24, 24] }) (W : World) (lo hi : Nat) (p : Option Addr) (n c : Nat) (vs : List Value)
    (hs : a.eval s = .slice p n c) (hown : OwnV W 29 1 lo hi p n c vs) (q : Option Addr) (m d : Nat) (ns : List Row) (hx : a.eval x = .slice q m d) (hr : Rws W q m ns)
    (hn : n + m ≤ 5864062010000) (hlo : lo ≤ W.heap.size)
    (h : ∀ p' c' W', OwnV W' 29 1 lo W'.heap.size p' (n + m) c' (vs ++ ns.map Row.val) → Grow W W' p p' → K (a.put o.dst (.slice p' (n + m) c')) W') :
    if Region.wanted o (yielded ops a.tmps) = true then Oper.wp Tryz.prog o a W K Q else E := by
  have hw : Region.wanted o (yielded ops a.tmps) = true := by simp [Region.wanted, hgd]
  rw [if_pos hw]
  exact wp_append_rows s x ho W lo hi p n c vs hs hown q m d ns hx hr hn hlo h

theorem belowDrawn (lo : Nat) (w : World) (z : Nat) : Below lo w (w.drewN z) := ⟨(Below.refl lo w).os, (Below.refl lo w).tape, (Below.refl lo w).output, (Below.refl lo w).size, (Below.refl lo w).block⟩

/-- Where a list is put. -/
def putAt (xss : List (List Int)) (v : List Int) : Nat → Nat
  | 0 => 0
  | k + 1 => if befL v (nthR xss k) = true then putAt xss v k else k + 1
theorem putAt_le (xss : List (List Int)) (v : List Int) : ∀ n, putAt xss v n ≤ n
  | 0 => Nat.le_refl _
  | k + 1 => by
    rw [putAt]
    split
    · exact Nat.le_succ_of_le (putAt_le xss v k)
    · exact Nat.le_refl _
def putIn (xss : List (List Int)) (v : List Int) (k : Nat) : List (List Int) := xss.take k ++ [v] ++ xss.drop k
def putL (xss : List (List Int)) (v : List Int) : List (List Int) :=
  if 0 < putAt xss v xss.length ∧ nthR xss (putAt xss v xss.length - 1) = v then xss else putIn xss v (putAt xss v xss.length)

/-- A row put between two parts. -/
theorem Own2.put {w W' : World} {lo mid : Nat} {p p' : Option Addr} {n c c' : Nat} {rows : List Row} {xss : List (List Int)} (h : Own2 w lo mid p n c rows xss)
    {hi : Nat} {q : Option Addr} {m d : Nat} {ys : List Int} (hr : Own W' mid hi q m d ys) (hlm : lo ≤ mid) (hhi : hi ≤ W'.heap.size) (hm : mid ≤ W'.heap.size) (k : Nat) (hk : k ≤ n)
    (hin : ∀ j (h : j < rows.length), Own W' lo mid rows[j].1 rows[j].2.1 rows[j].2.2 (nthR xss j))
    (hv : OwnV W' 29 1 lo W'.heap.size p' (n + 1) c' ((rows.take k ++ [(q, m, d)] ++ rows.drop k).map Row.val)) :
    Own2 W' lo W'.heap.size p' (n + 1) c' (rows.take k ++ [(q, m, d)] ++ rows.drop k) (putIn xss ys k) := by
  have hc := h.count
  have hl := h.len
  have hq := hr.widen hlm hhi
  refine ⟨hv, by simp [putIn, hl], fun j hj => ?_, ?_⟩
  · have hjn : j < n + 1 := by simp at hj; omega
    have e : ∀ (x : List Int) (r : Row), (putIn xss ys k)[j]? = some x → (rows.take k ++ [(q, m, d)] ++ rows.drop k)[j]? = some r → Own W' lo W'.heap.size r.1 r.2.1 r.2.2 x → Own W' lo W'.heap.size ((rows.take k ++ [(q, m, d)] ++ rows.drop k)[j]).1 ((rows.take k ++ [(q, m, d)] ++ rows.drop k)[j]).2.1 ((rows.take k ++ [(q, m, d)] ++ rows.drop k)[j]).2.2 (nthR (putIn xss ys k) j) := fun x r h1 h2 h3 => by
      rw [List.getElem?_eq_getElem hj] at h2
      injection h2 with h2
      rw [h2, nthR, List.getD, h1]
      exact h3
    have ht1 : (xss.take k).length = k := by rw [List.length_take]; omega
    have ht2 : (rows.take k).length = k := by rw [List.length_take]; omega
    by_cases h1 : j < k
    · refine e (nthR xss j) rows[j] ?_ ?_ ((hin j (by omega)).widen (Nat.le_refl _) hm)
      · unfold putIn
        rw [List.append_assoc, List.getElem?_append_left (by omega), List.getElem?_take_of_lt h1, nthR_eq (by omega), List.getElem?_eq_getElem]
      · rw [List.append_assoc, List.getElem?_append_left (by omega), List.getElem?_take_of_lt h1, List.getElem?_eq_getElem]
    · by_cases h2 : j = k
      · subst h2
        refine e ys (q, m, d) ?_ ?_ hq
        · unfold putIn
          rw [List.append_assoc, List.getElem?_append_right (by omega), ht1, Nat.sub_self]; rfl
        · rw [List.append_assoc, List.getElem?_append_right (by omega), ht2, Nat.sub_self]; rfl
      · obtain ⟨i, rfl⟩ : ∃ i, j = k + 1 + i := ⟨j - k - 1, by omega⟩
        refine e (nthR xss (k + i)) (rows[k + i]'(by omega)) ?_ ?_ ((hin (k + i) (by omega)).widen (Nat.le_refl _) hm)
        · unfold putIn
          rw [List.getElem?_append_right (by simp [ht1]), List.getElem?_drop, nthR_eq (by omega), ← List.getElem?_eq_getElem]
          congr 1
          simp [ht1]
        · rw [List.getElem?_append_right (by simp [ht2]), List.getElem?_drop, ← List.getElem?_eq_getElem]
          congr 1
          simp [ht2]
  · have hnew : ∀ r ∈ rows, blk r.1 ≠ blk q ∨ r.1 = none := fun r hr1 => by
      obtain ⟨j, hj, rfl⟩ := List.getElem_of_mem hr1
      exact (hin j hj).apart hr (.inl (Nat.le_refl _))
    have hnew2 : ∀ r ∈ rows, blk q ≠ blk r.1 ∨ q = none := fun r hr1 => by
      obtain ⟨j, hj, rfl⟩ := List.getElem_of_mem hr1
      exact hr.apart (hin j hj) (.inr (Nat.le_refl _))
    have hap : (rows.take k ++ rows.drop k).Pairwise fun r s => blk r.1 ≠ blk s.1 ∨ r.1 = none := by rw [List.take_append_drop]; exact h.apart
    rw [List.pairwise_append] at hap
    rw [List.append_assoc, List.pairwise_append]
    refine ⟨hap.1, ?_, fun r hr1 s hs => ?_⟩
    · rw [List.singleton_append, List.pairwise_cons]
      exact ⟨fun r hr1 => hnew2 r (List.mem_of_mem_drop hr1), hap.2.1⟩
    · rw [List.singleton_append, List.mem_cons] at hs
      rcases hs with rfl | hs
      · exact hnew r (List.mem_of_mem_take hr1)
      · exact hap.2.2 r hr1 s hs

end Go.Proofs.YthdonnkekggbbaaGreatDoor

/- Contract of spec.l2Put. Conditions: sizes, lists of one length. -/
namespace Go.Proofs.YthdonnkekggbbaaGreatDoor
open Go.RowKit
set_option linter.unusedVariables false
set_option linter.unusedSimpArgs false
set_option maxRecDepth 100000

theorem putAt_no {xss : List (List Int)} {v : List Int} {k : Nat} (h : befL v (nthR xss k) = false) : putAt xss v (k + 1) = k + 1 := by simp [putAt, h]
theorem putAt_yes {xss : List (List Int)} {v : List Int} {k : Nat} (h : befL v (nthR xss k) = true) : putAt xss v (k + 1) = putAt xss v k := by simp [putAt, h]

theorem Own2.hdr {w : World} {lo hi g : Nat} {n c : Nat} {rows : List Row} {xss : List (List Int)} (h : Own2 w lo hi (some ⟨g, 0, none⟩) n c rows xss) {k : Nat} (hk : k < rows.length) : w.cell? ⟨g, k, none⟩ = some (.slice rows[k].1 rows[k].2.1 rows[k].2.2) := by
  have hc := h.count
  have := h.outer.cell (k := k) (by omega)
  rw [List.getElem?_map, List.getElem?_eq_getElem hk] at this
  exact this
theorem Rws.dropIf {w : World} {g n c : Nat} {ns : List Row} (h : Rws w (some ⟨g, 0, none⟩) n ns) (hc : n ≤ c) (k : Nat) : Rws w (if c = k then some ⟨g, 0, none⟩ else some ⟨g, k, none⟩) (n - k) (ns.drop k) := by
  by_cases e : c = k
  · rw [if_pos e, List.drop_eq_nil_of_le (by rw [h.1]; omega)]
    exact ⟨by simp; omega, fun j hj => absurd hj (by simp)⟩
  · rw [if_neg e]; exact h.drop k
theorem Rws.below {w w' : World} {q : Option Addr} {m : Nat} {ns : List Row} (h : Rws w q m ns) (hb : Below w.heap.size w w') : Rws w' q m ns :=
  ⟨h.1, fun j hj => by
    obtain ⟨g, o, e, hc⟩ := h.2 j hj
    exact ⟨g, o, e, (hb.cell (World.block_lt_of_cell? w _ hc)).trans hc⟩⟩
theorem blkNe {w : World} {E : TypeId} {g lo B hi : Nat} {q : Option Addr} {n c : Nat} {vs : List Value} (hg : g < lo) (hl : lo ≤ B) (h : OwnV w E 1 B hi q n c vs) : blk (some ⟨g, 0, none⟩) ≠ blk q ∨ q = none := by
  rcases h.form with ⟨rfl, _⟩ | ⟨g', rfl, h1, _⟩
  · exact .inr rfl
  · exact .inl (by simp [blk]; omega)
theorem putL_zero {xss : List (List Int)} {v : List Int} (h : putAt xss v 0 = putAt xss v xss.length) : putL xss v = putIn xss v 0 := by
  rw [putL, ← h]; simp [putAt]
theorem putL_succ {xss : List (List Int)} {v : List Int} {k : Nat} (h : putAt xss v xss.length = k + 1) (hne : nthR xss k ≠ v) : putL xss v = putIn xss v (k + 1) := by
  rw [putL, h, if_neg]; intro h2; exact hne h2.2
theorem putL_same {xss : List (List Int)} {v : List Int} {k : Nat} (h : putAt xss v xss.length = k + 1) (he : nthR xss k = v) : putL xss v = xss := by
  rw [putL, h, if_pos]; exact ⟨by omega, he⟩

set_option maxHeartbeats 8000000 in
theorem l2Put_any (lo g : Nat) (q : Option Addr) (n c m d : Nat) (rows : List Row) (xss : List (List Int)) (ys : List Int) (w : World) (hn : n ≤ 1000000) (hm : m ≤ 1000000) (h : Own2 w lo w.heap.size (some ⟨g, 0, none⟩) n c rows xss) (hy : Ints w q m ys) (hall : ∀ k, k < n → (nthR xss k).length = m) :
    Calls Tryz.prog 43 #[.slice (some ⟨g, 0, none⟩) n c, .slice q m d] w fun e w' => ∃ g' n' c' rows', e = .returned (.slice (some ⟨g', 0, none⟩) n' c') ∧ Own2 w' lo w'.heap.size (some ⟨g', 0, none⟩) n' c' rows' (putL xss ys) ∧ Below lo w w' := by
  have hcnt := Lib.hid h.count
  have hl := Lib.hid (show xss.length = n from h.len ▸ h.count)
  have Hall := Lib.hid hall
  have HK := Lib.hid h
  have hgl := (h.outer.lt _ rfl).2.2
  have hlog : lo ≤ g := (h.outer.lt _ rfl).1
  have hcap : n ≤ c ∧ c ≤ 9223372036854775807 := by
    rcases h.outer.form with ⟨h0, _⟩ | ⟨_, _, _, _, _, h1, h2⟩
    · cases h0
    · unfold maxLen at h2; omega
  clear hall
  go_enter Tryz.func43, Tryz.ntmps43
  go_wp2
  go_loopw [5] (fun i wr => ∃ t : Nat, t ≤ n ∧ i = .int .i64 t ∧ Hid (putAt xss ys t = putAt xss ys n) ∧ ∃ z, wr = w.drewN z) (fun i _ => (intOf i).toNat)
  case atStart => exact ⟨n, Nat.le_refl _, rfl, rfl, 0, rfl⟩
  case round =>
    obtain ⟨t, ht, rfl, hput, z, rfl⟩ := hrel
    cases t with
    | zero =>
      have hd0 : decide ((0 : Int) < ((0 : Nat) : Int)) = false := by simp
      have HW := Lib.hid (HK.out.drewN z)
      have hyW := hy.drewN z
      have hbW := belowDrawn lo w z
      generalize w.drewN z = W at *
      have hcA : 0 ≤ n := by omega
      have HR := Lib.hid (HW.out.outer.rws.drop 0)
      have hsW := hbW.size
      have HN : Hid (putL xss ys = putIn xss ys (0)) := Lib.hid (putL_zero (by rw [hl.out]; exact hput.out))
      go_wp2_with (at_builtin; refine append_rows rfl _ _ rfl _ W.heap.size _ _ _ _ _ rfl (Own2.empty W).outer _ _ _ (rows.drop (0)) rfl (Rws.below HR.out (boxed W _)) (by omega) (by simp) ?_; intro p6 c6 W6 ho6 hg6; refine Hid.out ?_)
      refine Lib.hid ?_
      have hb6 : Below W.heap.size W W6 := (boxed W _).trans (hg6.below (by simp) (fun a ha => ((Own2.empty W).outer.lt a ha).1))
      simp only [Nat.zero_add, List.map_nil, List.nil_append] at ho6
      have HW6 := Lib.hid (HW.out.below hb6)
      have hy6 := hyW.below hb6
      have hs6 := hb6.size
      clear HW hyW
      go_wp2_with fail
      refine wp_region_u 10 11 (fun _ => True) (by kernel_rfl) rfl (by (try dsimp only); try trivial) (fun hHeld => ?_)
      first
        | (refine WalkU.take (i := 0) (v := ?_) rfl (by kernel_rfl) (by kernel_rfl) (by kernel_rfl) (by kernel_rfl) (fun _ _ _ h => h) (Or.inl ⟨by rfl, ?_⟩) hHeld ?_
           rotate_left
           · (intro w hSw; (try dsimp only at hSw); go_simp; try with_reducible rfl)
           try simp only [Act.put, List.setIfInBounds_toArray, List.set_cons_zero, List.set_cons_succ])
        | (refine WalkU.take (i := 0) (v := undef) rfl (by kernel_rfl) (by kernel_rfl) (by kernel_rfl) (by kernel_rfl) (fun _ _ _ h => h) (Or.inr ⟨by rfl, rfl⟩) hHeld ?_
           try simp only [Act.put, List.setIfInBounds_toArray, List.set_cons_zero, List.set_cons_succ])
        | (refine WalkU.one (i := 0) rfl (by kernel_rfl) (fun K hK => ?_)
           first
             | (first | (refine step_append_ints rfl (.tmp 42) (.tmp 43) rfl _ W6.heap.size _ _ _ _ _ rfl (Own.empty W6.drew) _ _ _ _ rfl (hy6.drew.alloc _) (by omega) (by simp) ?_; intro p5 c5 W5 ho5 hg5; simp only [Nat.zero_add, List.nil_append] at ho5; have hb5 : Below W6.heap.size W6 W5 := ((drewBelow W6).trans (boxed W6.drew _)).trans (hg5.belowO (Own.empty W6.drew) (by simp)); have hv7 := ((HW6.out.outer.pre hcA).below hb5).below (boxed W5 (.cells #[.slice p5 m c5] 29)); have hs5 := hb5.size; have hr7 := (ho6.below hb5).below (boxed W5 (.cells #[.slice p5 m c5] 29))) | (refine step_append_row rfl (.tmp 41) (.tmp 45) rfl _ lo _ _ _ _ _ rfl hv7 _ _ _ _ rfl (cellNew _ _ _) (by omega) (by simp; omega) ?_; intro p7 c7 W7 ho7 hg7; have hR7 := (hr7.kept hg7.by_ (blkNe hgl (Nat.le_trans hsW (Nat.le_refl _)) ho6)).rws; have hs7 := hg7.by_.size) | (refine step_append_rows rfl (.tmp 46) (.tmp 47) rfl _ lo _ _ _ _ _ rfl ho7 _ _ _ _ rfl hR7 (by omega) (by simp at hs7; omega) ?_; intro p9 c9 W9 ho9 hg9))
             | (go_simp; (first | (refine step_append_ints rfl (.tmp 42) (.tmp 43) rfl _ W6.heap.size _ _ _ _ _ rfl (Own.empty W6.drew) _ _ _ _ rfl (hy6.drew.alloc _) (by omega) (by simp) ?_; intro p5 c5 W5 ho5 hg5; simp only [Nat.zero_add, List.nil_append] at ho5; have hb5 : Below W6.heap.size W6 W5 := ((drewBelow W6).trans (boxed W6.drew _)).trans (hg5.belowO (Own.empty W6.drew) (by simp)); have hv7 := ((HW6.out.outer.pre hcA).below hb5).below (boxed W5 (.cells #[.slice p5 m c5] 29)); have hs5 := hb5.size; have hr7 := (ho6.below hb5).below (boxed W5 (.cells #[.slice p5 m c5] 29))) | (refine step_append_row rfl (.tmp 41) (.tmp 45) rfl _ lo _ _ _ _ _ rfl hv7 _ _ _ _ rfl (cellNew _ _ _) (by omega) (by simp; omega) ?_; intro p7 c7 W7 ho7 hg7; have hR7 := (hr7.kept hg7.by_ (blkNe hgl (Nat.le_trans hsW (Nat.le_refl _)) ho6)).rws; have hs7 := hg7.by_.size) | (refine step_append_rows rfl (.tmp 46) (.tmp 47) rfl _ lo _ _ _ _ _ rfl ho7 _ _ _ _ rfl hR7 (by omega) (by simp at hs7; omega) ?_; intro p9 c9 W9 ho9 hg9)))
             | go_simp
           refine hK.out _ _ ?_ (fun hHeld => ?_)
           · ((try dsimp only); try trivial)
           clear hK K
           try simp only [Act.put, List.setIfInBounds_toArray, List.set_cons_zero, List.set_cons_succ])
      first
        | (refine WalkU.take (i := 1) (v := ?_) rfl (by kernel_rfl) (by kernel_rfl) (by kernel_rfl) (by kernel_rfl) (fun _ _ _ h => h) (Or.inl ⟨by rfl, ?_⟩) hHeld ?_
           rotate_left
           · (intro w hSw; (try dsimp only at hSw); go_simp; try with_reducible rfl)
           try simp only [Act.put, List.setIfInBounds_toArray, List.set_cons_zero, List.set_cons_succ])
        | (refine WalkU.take (i := 1) (v := undef) rfl (by kernel_rfl) (by kernel_rfl) (by kernel_rfl) (by kernel_rfl) (fun _ _ _ h => h) (Or.inr ⟨by rfl, rfl⟩) hHeld ?_
           try simp only [Act.put, List.setIfInBounds_toArray, List.set_cons_zero, List.set_cons_succ])
        | (refine WalkU.one (i := 1) rfl (by kernel_rfl) (fun K hK => ?_)
           first
             | (first | (refine step_append_ints rfl (.tmp 42) (.tmp 43) rfl _ W6.heap.size _ _ _ _ _ rfl (Own.empty W6.drew) _ _ _ _ rfl (hy6.drew.alloc _) (by omega) (by simp) ?_; intro p5 c5 W5 ho5 hg5; simp only [Nat.zero_add, List.nil_append] at ho5; have hb5 : Below W6.heap.size W6 W5 := ((drewBelow W6).trans (boxed W6.drew _)).trans (hg5.belowO (Own.empty W6.drew) (by simp)); have hv7 := ((HW6.out.outer.pre hcA).below hb5).below (boxed W5 (.cells #[.slice p5 m c5] 29)); have hs5 := hb5.size; have hr7 := (ho6.below hb5).below (boxed W5 (.cells #[.slice p5 m c5] 29))) | (refine step_append_row rfl (.tmp 41) (.tmp 45) rfl _ lo _ _ _ _ _ rfl hv7 _ _ _ _ rfl (cellNew _ _ _) (by omega) (by simp; omega) ?_; intro p7 c7 W7 ho7 hg7; have hR7 := (hr7.kept hg7.by_ (blkNe hgl (Nat.le_trans hsW (Nat.le_refl _)) ho6)).rws; have hs7 := hg7.by_.size) | (refine step_append_rows rfl (.tmp 46) (.tmp 47) rfl _ lo _ _ _ _ _ rfl ho7 _ _ _ _ rfl hR7 (by omega) (by simp at hs7; omega) ?_; intro p9 c9 W9 ho9 hg9))
             | (go_simp; (first | (refine step_append_ints rfl (.tmp 42) (.tmp 43) rfl _ W6.heap.size _ _ _ _ _ rfl (Own.empty W6.drew) _ _ _ _ rfl (hy6.drew.alloc _) (by omega) (by simp) ?_; intro p5 c5 W5 ho5 hg5; simp only [Nat.zero_add, List.nil_append] at ho5; have hb5 : Below W6.heap.size W6 W5 := ((drewBelow W6).trans (boxed W6.drew _)).trans (hg5.belowO (Own.empty W6.drew) (by simp)); have hv7 := ((HW6.out.outer.pre hcA).below hb5).below (boxed W5 (.cells #[.slice p5 m c5] 29)); have hs5 := hb5.size; have hr7 := (ho6.below hb5).below (boxed W5 (.cells #[.slice p5 m c5] 29))) | (refine step_append_row rfl (.tmp 41) (.tmp 45) rfl _ lo _ _ _ _ _ rfl hv7 _ _ _ _ rfl (cellNew _ _ _) (by omega) (by simp; omega) ?_; intro p7 c7 W7 ho7 hg7; have hR7 := (hr7.kept hg7.by_ (blkNe hgl (Nat.le_trans hsW (Nat.le_refl _)) ho6)).rws; have hs7 := hg7.by_.size) | (refine step_append_rows rfl (.tmp 46) (.tmp 47) rfl _ lo _ _ _ _ _ rfl ho7 _ _ _ _ rfl hR7 (by omega) (by simp at hs7; omega) ?_; intro p9 c9 W9 ho9 hg9)))
             | go_simp
           refine hK.out _ _ ?_ (fun hHeld => ?_)
           · ((try dsimp only); try trivial)
           clear hK K
           try simp only [Act.put, List.setIfInBounds_toArray, List.set_cons_zero, List.set_cons_succ])
      first
        | (refine WalkU.take (i := 2) (v := ?_) rfl (by kernel_rfl) (by kernel_rfl) (by kernel_rfl) (by kernel_rfl) (fun _ _ _ h => h) (Or.inl ⟨by rfl, ?_⟩) hHeld ?_
           rotate_left
           · (intro w hSw; (try dsimp only at hSw); go_simp; try with_reducible rfl)
           try simp only [Act.put, List.setIfInBounds_toArray, List.set_cons_zero, List.set_cons_succ])
        | (refine WalkU.take (i := 2) (v := undef) rfl (by kernel_rfl) (by kernel_rfl) (by kernel_rfl) (by kernel_rfl) (fun _ _ _ h => h) (Or.inr ⟨by rfl, rfl⟩) hHeld ?_
           try simp only [Act.put, List.setIfInBounds_toArray, List.set_cons_zero, List.set_cons_succ])
        | (refine WalkU.one (i := 2) rfl (by kernel_rfl) (fun K hK => ?_)
           first
             | (first | (refine step_append_ints rfl (.tmp 42) (.tmp 43) rfl _ W6.heap.size _ _ _ _ _ rfl (Own.empty W6.drew) _ _ _ _ rfl (hy6.drew.alloc _) (by omega) (by simp) ?_; intro p5 c5 W5 ho5 hg5; simp only [Nat.zero_add, List.nil_append] at ho5; have hb5 : Below W6.heap.size W6 W5 := ((drewBelow W6).trans (boxed W6.drew _)).trans (hg5.belowO (Own.empty W6.drew) (by simp)); have hv7 := ((HW6.out.outer.pre hcA).below hb5).below (boxed W5 (.cells #[.slice p5 m c5] 29)); have hs5 := hb5.size; have hr7 := (ho6.below hb5).below (boxed W5 (.cells #[.slice p5 m c5] 29))) | (refine step_append_row rfl (.tmp 41) (.tmp 45) rfl _ lo _ _ _ _ _ rfl hv7 _ _ _ _ rfl (cellNew _ _ _) (by omega) (by simp; omega) ?_; intro p7 c7 W7 ho7 hg7; have hR7 := (hr7.kept hg7.by_ (blkNe hgl (Nat.le_trans hsW (Nat.le_refl _)) ho6)).rws; have hs7 := hg7.by_.size) | (refine step_append_rows rfl (.tmp 46) (.tmp 47) rfl _ lo _ _ _ _ _ rfl ho7 _ _ _ _ rfl hR7 (by omega) (by simp at hs7; omega) ?_; intro p9 c9 W9 ho9 hg9))
             | (go_simp; (first | (refine step_append_ints rfl (.tmp 42) (.tmp 43) rfl _ W6.heap.size _ _ _ _ _ rfl (Own.empty W6.drew) _ _ _ _ rfl (hy6.drew.alloc _) (by omega) (by simp) ?_; intro p5 c5 W5 ho5 hg5; simp only [Nat.zero_add, List.nil_append] at ho5; have hb5 : Below W6.heap.size W6 W5 := ((drewBelow W6).trans (boxed W6.drew _)).trans (hg5.belowO (Own.empty W6.drew) (by simp)); have hv7 := ((HW6.out.outer.pre hcA).below hb5).below (boxed W5 (.cells #[.slice p5 m c5] 29)); have hs5 := hb5.size; have hr7 := (ho6.below hb5).below (boxed W5 (.cells #[.slice p5 m c5] 29))) | (refine step_append_row rfl (.tmp 41) (.tmp 45) rfl _ lo _ _ _ _ _ rfl hv7 _ _ _ _ rfl (cellNew _ _ _) (by omega) (by simp; omega) ?_; intro p7 c7 W7 ho7 hg7; have hR7 := (hr7.kept hg7.by_ (blkNe hgl (Nat.le_trans hsW (Nat.le_refl _)) ho6)).rws; have hs7 := hg7.by_.size) | (refine step_append_rows rfl (.tmp 46) (.tmp 47) rfl _ lo _ _ _ _ _ rfl ho7 _ _ _ _ rfl hR7 (by omega) (by simp at hs7; omega) ?_; intro p9 c9 W9 ho9 hg9)))
             | go_simp
           refine hK.out _ _ ?_ (fun hHeld => ?_)
           · ((try dsimp only); try trivial)
           clear hK K
           try simp only [Act.put, List.setIfInBounds_toArray, List.set_cons_zero, List.set_cons_succ])
      first
        | (refine WalkU.take (i := 4) (v := ?_) rfl (by kernel_rfl) (by kernel_rfl) (by kernel_rfl) (by kernel_rfl) (fun _ _ _ h => h) (Or.inl ⟨by rfl, ?_⟩) hHeld ?_
           rotate_left
           · (intro w hSw; (try dsimp only at hSw); go_simp; try with_reducible rfl)
           try simp only [Act.put, List.setIfInBounds_toArray, List.set_cons_zero, List.set_cons_succ])
        | (refine WalkU.take (i := 4) (v := undef) rfl (by kernel_rfl) (by kernel_rfl) (by kernel_rfl) (by kernel_rfl) (fun _ _ _ h => h) (Or.inr ⟨by rfl, rfl⟩) hHeld ?_
           try simp only [Act.put, List.setIfInBounds_toArray, List.set_cons_zero, List.set_cons_succ])
        | (refine WalkU.one (i := 4) rfl (by kernel_rfl) (fun K hK => ?_)
           first
             | (first | (refine step_append_ints rfl (.tmp 42) (.tmp 43) rfl _ W6.heap.size _ _ _ _ _ rfl (Own.empty W6.drew) _ _ _ _ rfl (hy6.drew.alloc _) (by omega) (by simp) ?_; intro p5 c5 W5 ho5 hg5; simp only [Nat.zero_add, List.nil_append] at ho5; have hb5 : Below W6.heap.size W6 W5 := ((drewBelow W6).trans (boxed W6.drew _)).trans (hg5.belowO (Own.empty W6.drew) (by simp)); have hv7 := ((HW6.out.outer.pre hcA).below hb5).below (boxed W5 (.cells #[.slice p5 m c5] 29)); have hs5 := hb5.size; have hr7 := (ho6.below hb5).below (boxed W5 (.cells #[.slice p5 m c5] 29))) | (refine step_append_row rfl (.tmp 41) (.tmp 45) rfl _ lo _ _ _ _ _ rfl hv7 _ _ _ _ rfl (cellNew _ _ _) (by omega) (by simp; omega) ?_; intro p7 c7 W7 ho7 hg7; have hR7 := (hr7.kept hg7.by_ (blkNe hgl (Nat.le_trans hsW (Nat.le_refl _)) ho6)).rws; have hs7 := hg7.by_.size) | (refine step_append_rows rfl (.tmp 46) (.tmp 47) rfl _ lo _ _ _ _ _ rfl ho7 _ _ _ _ rfl hR7 (by omega) (by simp at hs7; omega) ?_; intro p9 c9 W9 ho9 hg9))
             | (go_simp; (first | (refine step_append_ints rfl (.tmp 42) (.tmp 43) rfl _ W6.heap.size _ _ _ _ _ rfl (Own.empty W6.drew) _ _ _ _ rfl (hy6.drew.alloc _) (by omega) (by simp) ?_; intro p5 c5 W5 ho5 hg5; simp only [Nat.zero_add, List.nil_append] at ho5; have hb5 : Below W6.heap.size W6 W5 := ((drewBelow W6).trans (boxed W6.drew _)).trans (hg5.belowO (Own.empty W6.drew) (by simp)); have hv7 := ((HW6.out.outer.pre hcA).below hb5).below (boxed W5 (.cells #[.slice p5 m c5] 29)); have hs5 := hb5.size; have hr7 := (ho6.below hb5).below (boxed W5 (.cells #[.slice p5 m c5] 29))) | (refine step_append_row rfl (.tmp 41) (.tmp 45) rfl _ lo _ _ _ _ _ rfl hv7 _ _ _ _ rfl (cellNew _ _ _) (by omega) (by simp; omega) ?_; intro p7 c7 W7 ho7 hg7; have hR7 := (hr7.kept hg7.by_ (blkNe hgl (Nat.le_trans hsW (Nat.le_refl _)) ho6)).rws; have hs7 := hg7.by_.size) | (refine step_append_rows rfl (.tmp 46) (.tmp 47) rfl _ lo _ _ _ _ _ rfl ho7 _ _ _ _ rfl hR7 (by omega) (by simp at hs7; omega) ?_; intro p9 c9 W9 ho9 hg9)))
             | go_simp
           refine hK.out _ _ ?_ (fun hHeld => ?_)
           · ((try dsimp only); try trivial)
           clear hK K
           try simp only [Act.put, List.setIfInBounds_toArray, List.set_cons_zero, List.set_cons_succ])
      first
        | (refine WalkU.take (i := 8) (v := ?_) rfl (by kernel_rfl) (by kernel_rfl) (by kernel_rfl) (by kernel_rfl) (fun _ _ _ h => h) (Or.inl ⟨by rfl, ?_⟩) hHeld ?_
           rotate_left
           · (intro w hSw; (try dsimp only at hSw); go_simp; try with_reducible rfl)
           try simp only [Act.put, List.setIfInBounds_toArray, List.set_cons_zero, List.set_cons_succ])
        | (refine WalkU.take (i := 8) (v := undef) rfl (by kernel_rfl) (by kernel_rfl) (by kernel_rfl) (by kernel_rfl) (fun _ _ _ h => h) (Or.inr ⟨by rfl, rfl⟩) hHeld ?_
           try simp only [Act.put, List.setIfInBounds_toArray, List.set_cons_zero, List.set_cons_succ])
        | (refine WalkU.one (i := 8) rfl (by kernel_rfl) (fun K hK => ?_)
           first
             | (first | (refine step_append_ints rfl (.tmp 42) (.tmp 43) rfl _ W6.heap.size _ _ _ _ _ rfl (Own.empty W6.drew) _ _ _ _ rfl (hy6.drew.alloc _) (by omega) (by simp) ?_; intro p5 c5 W5 ho5 hg5; simp only [Nat.zero_add, List.nil_append] at ho5; have hb5 : Below W6.heap.size W6 W5 := ((drewBelow W6).trans (boxed W6.drew _)).trans (hg5.belowO (Own.empty W6.drew) (by simp)); have hv7 := ((HW6.out.outer.pre hcA).below hb5).below (boxed W5 (.cells #[.slice p5 m c5] 29)); have hs5 := hb5.size; have hr7 := (ho6.below hb5).below (boxed W5 (.cells #[.slice p5 m c5] 29))) | (refine step_append_row rfl (.tmp 41) (.tmp 45) rfl _ lo _ _ _ _ _ rfl hv7 _ _ _ _ rfl (cellNew _ _ _) (by omega) (by simp; omega) ?_; intro p7 c7 W7 ho7 hg7; have hR7 := (hr7.kept hg7.by_ (blkNe hgl (Nat.le_trans hsW (Nat.le_refl _)) ho6)).rws; have hs7 := hg7.by_.size) | (refine step_append_rows rfl (.tmp 46) (.tmp 47) rfl _ lo _ _ _ _ _ rfl ho7 _ _ _ _ rfl hR7 (by omega) (by simp at hs7; omega) ?_; intro p9 c9 W9 ho9 hg9))
             | (go_simp; (first | (refine step_append_ints rfl (.tmp 42) (.tmp 43) rfl _ W6.heap.size _ _ _ _ _ rfl (Own.empty W6.drew) _ _ _ _ rfl (hy6.drew.alloc _) (by omega) (by simp) ?_; intro p5 c5 W5 ho5 hg5; simp only [Nat.zero_add, List.nil_append] at ho5; have hb5 : Below W6.heap.size W6 W5 := ((drewBelow W6).trans (boxed W6.drew _)).trans (hg5.belowO (Own.empty W6.drew) (by simp)); have hv7 := ((HW6.out.outer.pre hcA).below hb5).below (boxed W5 (.cells #[.slice p5 m c5] 29)); have hs5 := hb5.size; have hr7 := (ho6.below hb5).below (boxed W5 (.cells #[.slice p5 m c5] 29))) | (refine step_append_row rfl (.tmp 41) (.tmp 45) rfl _ lo _ _ _ _ _ rfl hv7 _ _ _ _ rfl (cellNew _ _ _) (by omega) (by simp; omega) ?_; intro p7 c7 W7 ho7 hg7; have hR7 := (hr7.kept hg7.by_ (blkNe hgl (Nat.le_trans hsW (Nat.le_refl _)) ho6)).rws; have hs7 := hg7.by_.size) | (refine step_append_rows rfl (.tmp 46) (.tmp 47) rfl _ lo _ _ _ _ _ rfl ho7 _ _ _ _ rfl hR7 (by omega) (by simp at hs7; omega) ?_; intro p9 c9 W9 ho9 hg9)))
             | go_simp
           refine hK.out _ _ ?_ (fun hHeld => ?_)
           · ((try dsimp only); try trivial)
           clear hK K
           try simp only [Act.put, List.setIfInBounds_toArray, List.set_cons_zero, List.set_cons_succ])
      first
        | (refine WalkU.take (i := 3) (v := ?_) rfl (by kernel_rfl) (by kernel_rfl) (by kernel_rfl) (by kernel_rfl) (fun _ _ _ h => h) (Or.inl ⟨by rfl, ?_⟩) hHeld ?_
           rotate_left
           · (intro w hSw; (try dsimp only at hSw); go_simp; try with_reducible rfl)
           try simp only [Act.put, List.setIfInBounds_toArray, List.set_cons_zero, List.set_cons_succ])
        | (refine WalkU.take (i := 3) (v := undef) rfl (by kernel_rfl) (by kernel_rfl) (by kernel_rfl) (by kernel_rfl) (fun _ _ _ h => h) (Or.inr ⟨by rfl, rfl⟩) hHeld ?_
           try simp only [Act.put, List.setIfInBounds_toArray, List.set_cons_zero, List.set_cons_succ])
        | (refine WalkU.one (i := 3) rfl (by kernel_rfl) (fun K hK => ?_)
           first
             | (first | (refine step_append_ints rfl (.tmp 42) (.tmp 43) rfl _ W6.heap.size _ _ _ _ _ rfl (Own.empty W6.drew) _ _ _ _ rfl (hy6.drew.alloc _) (by omega) (by simp) ?_; intro p5 c5 W5 ho5 hg5; simp only [Nat.zero_add, List.nil_append] at ho5; have hb5 : Below W6.heap.size W6 W5 := ((drewBelow W6).trans (boxed W6.drew _)).trans (hg5.belowO (Own.empty W6.drew) (by simp)); have hv7 := ((HW6.out.outer.pre hcA).below hb5).below (boxed W5 (.cells #[.slice p5 m c5] 29)); have hs5 := hb5.size; have hr7 := (ho6.below hb5).below (boxed W5 (.cells #[.slice p5 m c5] 29))) | (refine step_append_row rfl (.tmp 41) (.tmp 45) rfl _ lo _ _ _ _ _ rfl hv7 _ _ _ _ rfl (cellNew _ _ _) (by omega) (by simp; omega) ?_; intro p7 c7 W7 ho7 hg7; have hR7 := (hr7.kept hg7.by_ (blkNe hgl (Nat.le_trans hsW (Nat.le_refl _)) ho6)).rws; have hs7 := hg7.by_.size) | (refine step_append_rows rfl (.tmp 46) (.tmp 47) rfl _ lo _ _ _ _ _ rfl ho7 _ _ _ _ rfl hR7 (by omega) (by simp at hs7; omega) ?_; intro p9 c9 W9 ho9 hg9))
             | (go_simp; (first | (refine step_append_ints rfl (.tmp 42) (.tmp 43) rfl _ W6.heap.size _ _ _ _ _ rfl (Own.empty W6.drew) _ _ _ _ rfl (hy6.drew.alloc _) (by omega) (by simp) ?_; intro p5 c5 W5 ho5 hg5; simp only [Nat.zero_add, List.nil_append] at ho5; have hb5 : Below W6.heap.size W6 W5 := ((drewBelow W6).trans (boxed W6.drew _)).trans (hg5.belowO (Own.empty W6.drew) (by simp)); have hv7 := ((HW6.out.outer.pre hcA).below hb5).below (boxed W5 (.cells #[.slice p5 m c5] 29)); have hs5 := hb5.size; have hr7 := (ho6.below hb5).below (boxed W5 (.cells #[.slice p5 m c5] 29))) | (refine step_append_row rfl (.tmp 41) (.tmp 45) rfl _ lo _ _ _ _ _ rfl hv7 _ _ _ _ rfl (cellNew _ _ _) (by omega) (by simp; omega) ?_; intro p7 c7 W7 ho7 hg7; have hR7 := (hr7.kept hg7.by_ (blkNe hgl (Nat.le_trans hsW (Nat.le_refl _)) ho6)).rws; have hs7 := hg7.by_.size) | (refine step_append_rows rfl (.tmp 46) (.tmp 47) rfl _ lo _ _ _ _ _ rfl ho7 _ _ _ _ rfl hR7 (by omega) (by simp at hs7; omega) ?_; intro p9 c9 W9 ho9 hg9)))
             | go_simp
           refine hK.out _ _ ?_ (fun hHeld => ?_)
           · ((try dsimp only); try trivial)
           clear hK K
           try simp only [Act.put, List.setIfInBounds_toArray, List.set_cons_zero, List.set_cons_succ])
      first
        | (refine WalkU.take (i := 5) (v := ?_) rfl (by kernel_rfl) (by kernel_rfl) (by kernel_rfl) (by kernel_rfl) (fun _ _ _ h => h) (Or.inl ⟨by rfl, ?_⟩) hHeld ?_
           rotate_left
           · (intro w hSw; (try dsimp only at hSw); go_simp; try with_reducible rfl)
           try simp only [Act.put, List.setIfInBounds_toArray, List.set_cons_zero, List.set_cons_succ])
        | (refine WalkU.take (i := 5) (v := undef) rfl (by kernel_rfl) (by kernel_rfl) (by kernel_rfl) (by kernel_rfl) (fun _ _ _ h => h) (Or.inr ⟨by rfl, rfl⟩) hHeld ?_
           try simp only [Act.put, List.setIfInBounds_toArray, List.set_cons_zero, List.set_cons_succ])
        | (refine WalkU.one (i := 5) rfl (by kernel_rfl) (fun K hK => ?_)
           first
             | (first | (refine step_append_ints rfl (.tmp 42) (.tmp 43) rfl _ W6.heap.size _ _ _ _ _ rfl (Own.empty W6.drew) _ _ _ _ rfl (hy6.drew.alloc _) (by omega) (by simp) ?_; intro p5 c5 W5 ho5 hg5; simp only [Nat.zero_add, List.nil_append] at ho5; have hb5 : Below W6.heap.size W6 W5 := ((drewBelow W6).trans (boxed W6.drew _)).trans (hg5.belowO (Own.empty W6.drew) (by simp)); have hv7 := ((HW6.out.outer.pre hcA).below hb5).below (boxed W5 (.cells #[.slice p5 m c5] 29)); have hs5 := hb5.size; have hr7 := (ho6.below hb5).below (boxed W5 (.cells #[.slice p5 m c5] 29))) | (refine step_append_row rfl (.tmp 41) (.tmp 45) rfl _ lo _ _ _ _ _ rfl hv7 _ _ _ _ rfl (cellNew _ _ _) (by omega) (by simp; omega) ?_; intro p7 c7 W7 ho7 hg7; have hR7 := (hr7.kept hg7.by_ (blkNe hgl (Nat.le_trans hsW (Nat.le_refl _)) ho6)).rws; have hs7 := hg7.by_.size) | (refine step_append_rows rfl (.tmp 46) (.tmp 47) rfl _ lo _ _ _ _ _ rfl ho7 _ _ _ _ rfl hR7 (by omega) (by simp at hs7; omega) ?_; intro p9 c9 W9 ho9 hg9))
             | (go_simp; (first | (refine step_append_ints rfl (.tmp 42) (.tmp 43) rfl _ W6.heap.size _ _ _ _ _ rfl (Own.empty W6.drew) _ _ _ _ rfl (hy6.drew.alloc _) (by omega) (by simp) ?_; intro p5 c5 W5 ho5 hg5; simp only [Nat.zero_add, List.nil_append] at ho5; have hb5 : Below W6.heap.size W6 W5 := ((drewBelow W6).trans (boxed W6.drew _)).trans (hg5.belowO (Own.empty W6.drew) (by simp)); have hv7 := ((HW6.out.outer.pre hcA).below hb5).below (boxed W5 (.cells #[.slice p5 m c5] 29)); have hs5 := hb5.size; have hr7 := (ho6.below hb5).below (boxed W5 (.cells #[.slice p5 m c5] 29))) | (refine step_append_row rfl (.tmp 41) (.tmp 45) rfl _ lo _ _ _ _ _ rfl hv7 _ _ _ _ rfl (cellNew _ _ _) (by omega) (by simp; omega) ?_; intro p7 c7 W7 ho7 hg7; have hR7 := (hr7.kept hg7.by_ (blkNe hgl (Nat.le_trans hsW (Nat.le_refl _)) ho6)).rws; have hs7 := hg7.by_.size) | (refine step_append_rows rfl (.tmp 46) (.tmp 47) rfl _ lo _ _ _ _ _ rfl ho7 _ _ _ _ rfl hR7 (by omega) (by simp at hs7; omega) ?_; intro p9 c9 W9 ho9 hg9)))
             | go_simp
           refine hK.out _ _ ?_ (fun hHeld => ?_)
           · ((try dsimp only); try trivial)
           clear hK K
           try simp only [Act.put, List.setIfInBounds_toArray, List.set_cons_zero, List.set_cons_succ])
      first
        | (refine WalkU.take (i := 6) (v := ?_) rfl (by kernel_rfl) (by kernel_rfl) (by kernel_rfl) (by kernel_rfl) (fun _ _ _ h => h) (Or.inl ⟨by rfl, ?_⟩) hHeld ?_
           rotate_left
           · (intro w hSw; (try dsimp only at hSw); go_simp; try with_reducible rfl)
           try simp only [Act.put, List.setIfInBounds_toArray, List.set_cons_zero, List.set_cons_succ])
        | (refine WalkU.take (i := 6) (v := undef) rfl (by kernel_rfl) (by kernel_rfl) (by kernel_rfl) (by kernel_rfl) (fun _ _ _ h => h) (Or.inr ⟨by rfl, rfl⟩) hHeld ?_
           try simp only [Act.put, List.setIfInBounds_toArray, List.set_cons_zero, List.set_cons_succ])
        | (refine WalkU.one (i := 6) rfl (by kernel_rfl) (fun K hK => ?_)
           first
             | (first | (refine step_append_ints rfl (.tmp 42) (.tmp 43) rfl _ W6.heap.size _ _ _ _ _ rfl (Own.empty W6.drew) _ _ _ _ rfl (hy6.drew.alloc _) (by omega) (by simp) ?_; intro p5 c5 W5 ho5 hg5; simp only [Nat.zero_add, List.nil_append] at ho5; have hb5 : Below W6.heap.size W6 W5 := ((drewBelow W6).trans (boxed W6.drew _)).trans (hg5.belowO (Own.empty W6.drew) (by simp)); have hv7 := ((HW6.out.outer.pre hcA).below hb5).below (boxed W5 (.cells #[.slice p5 m c5] 29)); have hs5 := hb5.size; have hr7 := (ho6.below hb5).below (boxed W5 (.cells #[.slice p5 m c5] 29))) | (refine step_append_row rfl (.tmp 41) (.tmp 45) rfl _ lo _ _ _ _ _ rfl hv7 _ _ _ _ rfl (cellNew _ _ _) (by omega) (by simp; omega) ?_; intro p7 c7 W7 ho7 hg7; have hR7 := (hr7.kept hg7.by_ (blkNe hgl (Nat.le_trans hsW (Nat.le_refl _)) ho6)).rws; have hs7 := hg7.by_.size) | (refine step_append_rows rfl (.tmp 46) (.tmp 47) rfl _ lo _ _ _ _ _ rfl ho7 _ _ _ _ rfl hR7 (by omega) (by simp at hs7; omega) ?_; intro p9 c9 W9 ho9 hg9))
             | (go_simp; (first | (refine step_append_ints rfl (.tmp 42) (.tmp 43) rfl _ W6.heap.size _ _ _ _ _ rfl (Own.empty W6.drew) _ _ _ _ rfl (hy6.drew.alloc _) (by omega) (by simp) ?_; intro p5 c5 W5 ho5 hg5; simp only [Nat.zero_add, List.nil_append] at ho5; have hb5 : Below W6.heap.size W6 W5 := ((drewBelow W6).trans (boxed W6.drew _)).trans (hg5.belowO (Own.empty W6.drew) (by simp)); have hv7 := ((HW6.out.outer.pre hcA).below hb5).below (boxed W5 (.cells #[.slice p5 m c5] 29)); have hs5 := hb5.size; have hr7 := (ho6.below hb5).below (boxed W5 (.cells #[.slice p5 m c5] 29))) | (refine step_append_row rfl (.tmp 41) (.tmp 45) rfl _ lo _ _ _ _ _ rfl hv7 _ _ _ _ rfl (cellNew _ _ _) (by omega) (by simp; omega) ?_; intro p7 c7 W7 ho7 hg7; have hR7 := (hr7.kept hg7.by_ (blkNe hgl (Nat.le_trans hsW (Nat.le_refl _)) ho6)).rws; have hs7 := hg7.by_.size) | (refine step_append_rows rfl (.tmp 46) (.tmp 47) rfl _ lo _ _ _ _ _ rfl ho7 _ _ _ _ rfl hR7 (by omega) (by simp at hs7; omega) ?_; intro p9 c9 W9 ho9 hg9)))
             | go_simp
           refine hK.out _ _ ?_ (fun hHeld => ?_)
           · ((try dsimp only); try trivial)
           clear hK K
           try simp only [Act.put, List.setIfInBounds_toArray, List.set_cons_zero, List.set_cons_succ])
      first
        | (refine WalkU.take (i := 7) (v := ?_) rfl (by kernel_rfl) (by kernel_rfl) (by kernel_rfl) (by kernel_rfl) (fun _ _ _ h => h) (Or.inl ⟨by rfl, ?_⟩) hHeld ?_
           rotate_left
           · (intro w hSw; (try dsimp only at hSw); go_simp; try with_reducible rfl)
           try simp only [Act.put, List.setIfInBounds_toArray, List.set_cons_zero, List.set_cons_succ])
        | (refine WalkU.take (i := 7) (v := undef) rfl (by kernel_rfl) (by kernel_rfl) (by kernel_rfl) (by kernel_rfl) (fun _ _ _ h => h) (Or.inr ⟨by rfl, rfl⟩) hHeld ?_
           try simp only [Act.put, List.setIfInBounds_toArray, List.set_cons_zero, List.set_cons_succ])
        | (refine WalkU.one (i := 7) rfl (by kernel_rfl) (fun K hK => ?_)
           first
             | (first | (refine step_append_ints rfl (.tmp 42) (.tmp 43) rfl _ W6.heap.size _ _ _ _ _ rfl (Own.empty W6.drew) _ _ _ _ rfl (hy6.drew.alloc _) (by omega) (by simp) ?_; intro p5 c5 W5 ho5 hg5; simp only [Nat.zero_add, List.nil_append] at ho5; have hb5 : Below W6.heap.size W6 W5 := ((drewBelow W6).trans (boxed W6.drew _)).trans (hg5.belowO (Own.empty W6.drew) (by simp)); have hv7 := ((HW6.out.outer.pre hcA).below hb5).below (boxed W5 (.cells #[.slice p5 m c5] 29)); have hs5 := hb5.size; have hr7 := (ho6.below hb5).below (boxed W5 (.cells #[.slice p5 m c5] 29))) | (refine step_append_row rfl (.tmp 41) (.tmp 45) rfl _ lo _ _ _ _ _ rfl hv7 _ _ _ _ rfl (cellNew _ _ _) (by omega) (by simp; omega) ?_; intro p7 c7 W7 ho7 hg7; have hR7 := (hr7.kept hg7.by_ (blkNe hgl (Nat.le_trans hsW (Nat.le_refl _)) ho6)).rws; have hs7 := hg7.by_.size) | (refine step_append_rows rfl (.tmp 46) (.tmp 47) rfl _ lo _ _ _ _ _ rfl ho7 _ _ _ _ rfl hR7 (by omega) (by simp at hs7; omega) ?_; intro p9 c9 W9 ho9 hg9))
             | (go_simp; (first | (refine step_append_ints rfl (.tmp 42) (.tmp 43) rfl _ W6.heap.size _ _ _ _ _ rfl (Own.empty W6.drew) _ _ _ _ rfl (hy6.drew.alloc _) (by omega) (by simp) ?_; intro p5 c5 W5 ho5 hg5; simp only [Nat.zero_add, List.nil_append] at ho5; have hb5 : Below W6.heap.size W6 W5 := ((drewBelow W6).trans (boxed W6.drew _)).trans (hg5.belowO (Own.empty W6.drew) (by simp)); have hv7 := ((HW6.out.outer.pre hcA).below hb5).below (boxed W5 (.cells #[.slice p5 m c5] 29)); have hs5 := hb5.size; have hr7 := (ho6.below hb5).below (boxed W5 (.cells #[.slice p5 m c5] 29))) | (refine step_append_row rfl (.tmp 41) (.tmp 45) rfl _ lo _ _ _ _ _ rfl hv7 _ _ _ _ rfl (cellNew _ _ _) (by omega) (by simp; omega) ?_; intro p7 c7 W7 ho7 hg7; have hR7 := (hr7.kept hg7.by_ (blkNe hgl (Nat.le_trans hsW (Nat.le_refl _)) ho6)).rws; have hs7 := hg7.by_.size) | (refine step_append_rows rfl (.tmp 46) (.tmp 47) rfl _ lo _ _ _ _ _ rfl ho7 _ _ _ _ rfl hR7 (by omega) (by simp at hs7; omega) ?_; intro p9 c9 W9 ho9 hg9)))
             | go_simp
           refine hK.out _ _ ?_ (fun hHeld => ?_)
           · ((try dsimp only); try trivial)
           clear hK K
           try simp only [Act.put, List.setIfInBounds_toArray, List.set_cons_zero, List.set_cons_succ])
      first
        | (refine WalkU.take (i := 9) (v := ?_) rfl (by kernel_rfl) (by kernel_rfl) (by kernel_rfl) (by kernel_rfl) (fun _ _ _ h => h) (Or.inl ⟨by rfl, ?_⟩) hHeld ?_
           rotate_left
           · (intro w hSw; (try dsimp only at hSw); go_simp; try with_reducible rfl)
           try simp only [Act.put, List.setIfInBounds_toArray, List.set_cons_zero, List.set_cons_succ])
        | (refine WalkU.take (i := 9) (v := undef) rfl (by kernel_rfl) (by kernel_rfl) (by kernel_rfl) (by kernel_rfl) (fun _ _ _ h => h) (Or.inr ⟨by rfl, rfl⟩) hHeld ?_
           try simp only [Act.put, List.setIfInBounds_toArray, List.set_cons_zero, List.set_cons_succ])
        | (refine WalkU.one (i := 9) rfl (by kernel_rfl) (fun K hK => ?_)
           first
             | (first | (refine step_append_ints rfl (.tmp 42) (.tmp 43) rfl _ W6.heap.size _ _ _ _ _ rfl (Own.empty W6.drew) _ _ _ _ rfl (hy6.drew.alloc _) (by omega) (by simp) ?_; intro p5 c5 W5 ho5 hg5; simp only [Nat.zero_add, List.nil_append] at ho5; have hb5 : Below W6.heap.size W6 W5 := ((drewBelow W6).trans (boxed W6.drew _)).trans (hg5.belowO (Own.empty W6.drew) (by simp)); have hv7 := ((HW6.out.outer.pre hcA).below hb5).below (boxed W5 (.cells #[.slice p5 m c5] 29)); have hs5 := hb5.size; have hr7 := (ho6.below hb5).below (boxed W5 (.cells #[.slice p5 m c5] 29))) | (refine step_append_row rfl (.tmp 41) (.tmp 45) rfl _ lo _ _ _ _ _ rfl hv7 _ _ _ _ rfl (cellNew _ _ _) (by omega) (by simp; omega) ?_; intro p7 c7 W7 ho7 hg7; have hR7 := (hr7.kept hg7.by_ (blkNe hgl (Nat.le_trans hsW (Nat.le_refl _)) ho6)).rws; have hs7 := hg7.by_.size) | (refine step_append_rows rfl (.tmp 46) (.tmp 47) rfl _ lo _ _ _ _ _ rfl ho7 _ _ _ _ rfl hR7 (by omega) (by simp at hs7; omega) ?_; intro p9 c9 W9 ho9 hg9))
             | (go_simp; (first | (refine step_append_ints rfl (.tmp 42) (.tmp 43) rfl _ W6.heap.size _ _ _ _ _ rfl (Own.empty W6.drew) _ _ _ _ rfl (hy6.drew.alloc _) (by omega) (by simp) ?_; intro p5 c5 W5 ho5 hg5; simp only [Nat.zero_add, List.nil_append] at ho5; have hb5 : Below W6.heap.size W6 W5 := ((drewBelow W6).trans (boxed W6.drew _)).trans (hg5.belowO (Own.empty W6.drew) (by simp)); have hv7 := ((HW6.out.outer.pre hcA).below hb5).below (boxed W5 (.cells #[.slice p5 m c5] 29)); have hs5 := hb5.size; have hr7 := (ho6.below hb5).below (boxed W5 (.cells #[.slice p5 m c5] 29))) | (refine step_append_row rfl (.tmp 41) (.tmp 45) rfl _ lo _ _ _ _ _ rfl hv7 _ _ _ _ rfl (cellNew _ _ _) (by omega) (by simp; omega) ?_; intro p7 c7 W7 ho7 hg7; have hR7 := (hr7.kept hg7.by_ (blkNe hgl (Nat.le_trans hsW (Nat.le_refl _)) ho6)).rws; have hs7 := hg7.by_.size) | (refine step_append_rows rfl (.tmp 46) (.tmp 47) rfl _ lo _ _ _ _ _ rfl ho7 _ _ _ _ rfl hR7 (by omega) (by simp at hs7; omega) ?_; intro p9 c9 W9 ho9 hg9)))
             | go_simp
           refine hK.out _ _ ?_ (fun hHeld => ?_)
           · ((try dsimp only); try trivial)
           clear hK K
           try simp only [Act.put, List.setIfInBounds_toArray, List.set_cons_zero, List.set_cons_succ])
      first
        | (refine WalkU.last (i := 10) rfl rfl (by kernel_rfl) (by kernel_rfl) (fun K hK => ?_)
           first
             | (first | (refine step_append_ints rfl (.tmp 42) (.tmp 43) rfl _ W6.heap.size _ _ _ _ _ rfl (Own.empty W6.drew) _ _ _ _ rfl (hy6.drew.alloc _) (by omega) (by simp) ?_; intro p5 c5 W5 ho5 hg5; simp only [Nat.zero_add, List.nil_append] at ho5; have hb5 : Below W6.heap.size W6 W5 := ((drewBelow W6).trans (boxed W6.drew _)).trans (hg5.belowO (Own.empty W6.drew) (by simp)); have hv7 := ((HW6.out.outer.pre hcA).below hb5).below (boxed W5 (.cells #[.slice p5 m c5] 29)); have hs5 := hb5.size; have hr7 := (ho6.below hb5).below (boxed W5 (.cells #[.slice p5 m c5] 29))) | (refine step_append_row rfl (.tmp 41) (.tmp 45) rfl _ lo _ _ _ _ _ rfl hv7 _ _ _ _ rfl (cellNew _ _ _) (by omega) (by simp; omega) ?_; intro p7 c7 W7 ho7 hg7; have hR7 := (hr7.kept hg7.by_ (blkNe hgl (Nat.le_trans hsW (Nat.le_refl _)) ho6)).rws; have hs7 := hg7.by_.size) | (refine step_append_rows rfl (.tmp 46) (.tmp 47) rfl _ lo _ _ _ _ _ rfl ho7 _ _ _ _ rfl hR7 (by omega) (by simp at hs7; omega) ?_; intro p9 c9 W9 ho9 hg9))
             | (go_simp; (first | (refine step_append_ints rfl (.tmp 42) (.tmp 43) rfl _ W6.heap.size _ _ _ _ _ rfl (Own.empty W6.drew) _ _ _ _ rfl (hy6.drew.alloc _) (by omega) (by simp) ?_; intro p5 c5 W5 ho5 hg5; simp only [Nat.zero_add, List.nil_append] at ho5; have hb5 : Below W6.heap.size W6 W5 := ((drewBelow W6).trans (boxed W6.drew _)).trans (hg5.belowO (Own.empty W6.drew) (by simp)); have hv7 := ((HW6.out.outer.pre hcA).below hb5).below (boxed W5 (.cells #[.slice p5 m c5] 29)); have hs5 := hb5.size; have hr7 := (ho6.below hb5).below (boxed W5 (.cells #[.slice p5 m c5] 29))) | (refine step_append_row rfl (.tmp 41) (.tmp 45) rfl _ lo _ _ _ _ _ rfl hv7 _ _ _ _ rfl (cellNew _ _ _) (by omega) (by simp; omega) ?_; intro p7 c7 W7 ho7 hg7; have hR7 := (hr7.kept hg7.by_ (blkNe hgl (Nat.le_trans hsW (Nat.le_refl _)) ho6)).rws; have hs7 := hg7.by_.size) | (refine step_append_rows rfl (.tmp 46) (.tmp 47) rfl _ lo _ _ _ _ _ rfl ho7 _ _ _ _ rfl hR7 (by omega) (by simp at hs7; omega) ?_; intro p9 c9 W9 ho9 hg9)))
             | go_simp
           refine hK.out _ _ ?_
           clear hK K
           try simp only [Act.put, List.setIfInBounds_toArray, List.set_cons_zero, List.set_cons_succ])
      go_wp2
      go_ret
      have hT : 29 ≠ 3 := by decide
      have hs9 := hg9.by_.size
      have hs7' : W5.heap.size ≤ W7.heap.size := by simp at hs7; omega
      have hne7 : ∀ {lo' hi' : Nat} {q' : Option Addr} {n' c' : Nat} {zs : List Int}, Own W5 lo' hi' q' n' c' zs → Own W9 lo' hi' q' n' c' zs := fun hz => by
        have h5 := hz.below (boxed W5 (.cells #[.slice p5 m c5] 29))
        have h7 := h5.kept hg7.by_ (hv7.ne h5.v hT)
        exact h7.kept hg9.by_ (ho7.ne h7.v hT)
      obtain ⟨_, rfl, ho9⟩ : ∃ N, N = n + 1 ∧ OwnV W9 29 1 lo W9.heap.size p9 N c9 _ := ⟨_, by omega, ho9⟩
      have hfin := HW6.out.put ((hne7 ho5).widen (by omega : w.heap.size ≤ W6.heap.size) (by omega : W5.heap.size ≤ W9.heap.size)) (by omega) (Nat.le_refl _) (by omega) (0) hcA (fun j hj => hne7 ((HW6.out.inner j hj).below hb5)) (by simpa [List.map_take, List.map_drop, Row.val] using ho9)
      rcases ho9.form with ⟨_, h0, _⟩ | ⟨g9, rfl, _⟩
      · omega
      rw [← HN.out] at hfin
      have hfN : ∀ N, N = n + 1 → Own2 W9 lo W9.heap.size (some ⟨g9, 0, none⟩) N c9 _ _ := fun N hN => hN.symm ▸ hfin
      refine ⟨g9, _, c9, _, rfl, hfN _ (by omega), ?_⟩
      refine hbW.trans ((hb6.mono (by omega)).trans ((hb5.mono (by omega)).trans (((boxed W5 _).mono (by omega)).trans ((hg7.below (by simp; omega) ?_).trans (hg9.below (by omega) fun a ha => (ho7.lt a ha).1)))))
      exact fun a ha => by injection ha with ha; subst ha; exact hlog
    | succ k =>
      have hkn : k < rows.length := by have := hcnt.out; omega
      have ck0 : w.cell? ⟨g, k, none⟩ = some (.slice rows[k].1 rows[k].2.1 rows[k].2.2) := HK.out.hdr hkn
      have hik := (HK.out.inner k hkn).ints
      have hmk : rows[k].2.1 = m := by rw [← hik.len]; exact Hall.out k (by omega)
      rw [hmk] at ck0 hik
      generalize rows[k].1 = pk at *
      generalize rows[k].2.2 = dk at *
      have ck : (w.drewN z).cell? ⟨g, k, none⟩ = some (.slice pk m dk) := ck0
      have hw1 : IntKind.i64.wrap (((k + 1 : Nat) : Int) - 1) = (k : Int) := by rw [wrapEq, wrap64_id (by omega) (by omega)]; omega
      have hw2 : IntKind.i64.wrap (((k : Nat) : Int) + 1 - 1) = (k : Int) := by rw [wrapEq, wrap64_id (by omega) (by omega)]; omega
      have hz1 : (0 : Int) ≤ (k : Int) := by omega
      have hz2 : (k : Int) < (n : Int) := by omega
      cases hbf : befL ys (nthR xss k)
      · have hpk : putAt xss ys n = k + 1 := hput.out.symm.trans (putAt_no hbf)
        cases hsm : beqL (nthR xss k) ys
        all_goals
          go_wp2_with fail
          refine (l2Before_any _ _ _ _ _ _ _ _ (by omega) (hy.drewN z) (hik.drewN z)).mono ?_
          rw [hbf]
          rintro e w1 ⟨rfl, hz3⟩
          obtain ⟨z3, rfl⟩ : ∃ z3, w1 = w.drewN z3 := by
            obtain ⟨z1, rfl⟩ := hz3
            exact drew2 _ _ _
          clear ck
          have ck : (w.drewN z3).cell? ⟨g, k, none⟩ = some (.slice pk m dk) := ck0
          go_wp2_with fail
          refine (l2SameP_any _ _ _ _ _ _ _ _ _ (hik.drewN z3) (hy.drewN z3) (by omega) (by omega)).mono ?_
          rw [hsm]
          rintro e w4 ⟨rfl, hz4⟩
          obtain ⟨z4, rfl⟩ : ∃ z4, w4 = w.drewN z4 := by
            obtain ⟨z1, rfl⟩ := hz4
            exact drew2 _ _ _
          have HW := Lib.hid (HK.out.drewN z4)
          have hyW := hy.drewN z4
          have hbW := belowDrawn lo w z4
          clear ck ck0
          generalize w.drewN z4 = W at *
          obtain ⟨pr, hpr⟩ : ∃ pr : Option Addr, (if c = k + 1 then some (⟨g, 0, none⟩ : Addr) else some ⟨g, k + 1, none⟩) = pr := ⟨_, rfl⟩
          have hy1 : (k : Int) + 1 ≤ (c : Int) := by omega
          have hy2 : (0 : Int) ≤ (k : Int) + 1 := by omega
          have hy3 : k + 1 ≤ c := by omega
          have hy4 : ¬ ((c : Int) < (k : Int) + 1) := by omega
          have hy5 : ¬ ((k : Int) + 1 < 0) := by omega
        · have hcA : k + 1 ≤ n := by omega
          have HR := Lib.hid (hpr ▸ HW.out.outer.rws.dropIf hcap.1 (k + 1))
          have hsW := hbW.size
          have HN : Hid (putL xss ys = putIn xss ys (k + 1)) := Lib.hid (putL_succ (by rw [hl.out]; exact hpk) (by simpa [beqL] using hsm))
          go_wp2_with (at_builtin; refine append_rows rfl _ _ rfl _ W.heap.size _ _ _ _ _ rfl (Own2.empty W).outer _ _ _ (rows.drop (k + 1)) rfl (Rws.below HR.out (boxed W _)) (by omega) (by simp) ?_; intro p6 c6 W6 ho6 hg6; refine Hid.out ?_)
          refine Lib.hid ?_
          have hb6 : Below W.heap.size W W6 := (boxed W _).trans (hg6.below (by simp) (fun a ha => ((Own2.empty W).outer.lt a ha).1))
          simp only [Nat.zero_add, List.map_nil, List.nil_append] at ho6
          have HW6 := Lib.hid (HW.out.below hb6)
          have hy6 := hyW.below hb6
          have hs6 := hb6.size
          clear HW hyW
          go_wp2_with fail
          refine wp_region_u 10 11 (fun _ => True) (by kernel_rfl) rfl (by (try dsimp only); try trivial) (fun hHeld => ?_)
          first
            | (refine WalkU.take (i := 0) (v := ?_) rfl (by kernel_rfl) (by kernel_rfl) (by kernel_rfl) (by kernel_rfl) (fun _ _ _ h => h) (Or.inl ⟨by rfl, ?_⟩) hHeld ?_
               rotate_left
               · (intro w hSw; (try dsimp only at hSw); go_simp; try with_reducible rfl)
               try simp only [Act.put, List.setIfInBounds_toArray, List.set_cons_zero, List.set_cons_succ])
            | (refine WalkU.take (i := 0) (v := undef) rfl (by kernel_rfl) (by kernel_rfl) (by kernel_rfl) (by kernel_rfl) (fun _ _ _ h => h) (Or.inr ⟨by rfl, rfl⟩) hHeld ?_
               try simp only [Act.put, List.setIfInBounds_toArray, List.set_cons_zero, List.set_cons_succ])
            | (refine WalkU.one (i := 0) rfl (by kernel_rfl) (fun K hK => ?_)
               first
                 | (first | (refine step_append_ints rfl (.tmp 42) (.tmp 43) rfl _ W6.heap.size _ _ _ _ _ rfl (Own.empty W6.drew) _ _ _ _ rfl (hy6.drew.alloc _) (by omega) (by simp) ?_; intro p5 c5 W5 ho5 hg5; simp only [Nat.zero_add, List.nil_append] at ho5; have hb5 : Below W6.heap.size W6 W5 := ((drewBelow W6).trans (boxed W6.drew _)).trans (hg5.belowO (Own.empty W6.drew) (by simp)); have hv7 := ((HW6.out.outer.pre hcA).below hb5).below (boxed W5 (.cells #[.slice p5 m c5] 29)); have hs5 := hb5.size; have hr7 := (ho6.below hb5).below (boxed W5 (.cells #[.slice p5 m c5] 29))) | (refine step_append_row rfl (.tmp 41) (.tmp 45) rfl _ lo _ _ _ _ _ rfl hv7 _ _ _ _ rfl (cellNew _ _ _) (by omega) (by simp; omega) ?_; intro p7 c7 W7 ho7 hg7; have hR7 := (hr7.kept hg7.by_ (blkNe hgl (Nat.le_trans hsW (Nat.le_refl _)) ho6)).rws; have hs7 := hg7.by_.size) | (refine step_append_rows rfl (.tmp 46) (.tmp 47) rfl _ lo _ _ _ _ _ rfl ho7 _ _ _ _ rfl hR7 (by omega) (by simp at hs7; omega) ?_; intro p9 c9 W9 ho9 hg9))
                 | (go_simp; (first | (refine step_append_ints rfl (.tmp 42) (.tmp 43) rfl _ W6.heap.size _ _ _ _ _ rfl (Own.empty W6.drew) _ _ _ _ rfl (hy6.drew.alloc _) (by omega) (by simp) ?_; intro p5 c5 W5 ho5 hg5; simp only [Nat.zero_add, List.nil_append] at ho5; have hb5 : Below W6.heap.size W6 W5 := ((drewBelow W6).trans (boxed W6.drew _)).trans (hg5.belowO (Own.empty W6.drew) (by simp)); have hv7 := ((HW6.out.outer.pre hcA).below hb5).below (boxed W5 (.cells #[.slice p5 m c5] 29)); have hs5 := hb5.size; have hr7 := (ho6.below hb5).below (boxed W5 (.cells #[.slice p5 m c5] 29))) | (refine step_append_row rfl (.tmp 41) (.tmp 45) rfl _ lo _ _ _ _ _ rfl hv7 _ _ _ _ rfl (cellNew _ _ _) (by omega) (by simp; omega) ?_; intro p7 c7 W7 ho7 hg7; have hR7 := (hr7.kept hg7.by_ (blkNe hgl (Nat.le_trans hsW (Nat.le_refl _)) ho6)).rws; have hs7 := hg7.by_.size) | (refine step_append_rows rfl (.tmp 46) (.tmp 47) rfl _ lo _ _ _ _ _ rfl ho7 _ _ _ _ rfl hR7 (by omega) (by simp at hs7; omega) ?_; intro p9 c9 W9 ho9 hg9)))
                 | go_simp
               refine hK.out _ _ ?_ (fun hHeld => ?_)
               · ((try dsimp only); try trivial)
               clear hK K
               try simp only [Act.put, List.setIfInBounds_toArray, List.set_cons_zero, List.set_cons_succ])
          first
            | (refine WalkU.take (i := 1) (v := ?_) rfl (by kernel_rfl) (by kernel_rfl) (by kernel_rfl) (by kernel_rfl) (fun _ _ _ h => h) (Or.inl ⟨by rfl, ?_⟩) hHeld ?_
               rotate_left
               · (intro w hSw; (try dsimp only at hSw); go_simp; try with_reducible rfl)
               try simp only [Act.put, List.setIfInBounds_toArray, List.set_cons_zero, List.set_cons_succ])
            | (refine WalkU.take (i := 1) (v := undef) rfl (by kernel_rfl) (by kernel_rfl) (by kernel_rfl) (by kernel_rfl) (fun _ _ _ h => h) (Or.inr ⟨by rfl, rfl⟩) hHeld ?_
               try simp only [Act.put, List.setIfInBounds_toArray, List.set_cons_zero, List.set_cons_succ])
            | (refine WalkU.one (i := 1) rfl (by kernel_rfl) (fun K hK => ?_)
               first
                 | (first | (refine step_append_ints rfl (.tmp 42) (.tmp 43) rfl _ W6.heap.size _ _ _ _ _ rfl (Own.empty W6.drew) _ _ _ _ rfl (hy6.drew.alloc _) (by omega) (by simp) ?_; intro p5 c5 W5 ho5 hg5; simp only [Nat.zero_add, List.nil_append] at ho5; have hb5 : Below W6.heap.size W6 W5 := ((drewBelow W6).trans (boxed W6.drew _)).trans (hg5.belowO (Own.empty W6.drew) (by simp)); have hv7 := ((HW6.out.outer.pre hcA).below hb5).below (boxed W5 (.cells #[.slice p5 m c5] 29)); have hs5 := hb5.size; have hr7 := (ho6.below hb5).below (boxed W5 (.cells #[.slice p5 m c5] 29))) | (refine step_append_row rfl (.tmp 41) (.tmp 45) rfl _ lo _ _ _ _ _ rfl hv7 _ _ _ _ rfl (cellNew _ _ _) (by omega) (by simp; omega) ?_; intro p7 c7 W7 ho7 hg7; have hR7 := (hr7.kept hg7.by_ (blkNe hgl (Nat.le_trans hsW (Nat.le_refl _)) ho6)).rws; have hs7 := hg7.by_.size) | (refine step_append_rows rfl (.tmp 46) (.tmp 47) rfl _ lo _ _ _ _ _ rfl ho7 _ _ _ _ rfl hR7 (by omega) (by simp at hs7; omega) ?_; intro p9 c9 W9 ho9 hg9))
                 | (go_simp; (first | (refine step_append_ints rfl (.tmp 42) (.tmp 43) rfl _ W6.heap.size _ _ _ _ _ rfl (Own.empty W6.drew) _ _ _ _ rfl (hy6.drew.alloc _) (by omega) (by simp) ?_; intro p5 c5 W5 ho5 hg5; simp only [Nat.zero_add, List.nil_append] at ho5; have hb5 : Below W6.heap.size W6 W5 := ((drewBelow W6).trans (boxed W6.drew _)).trans (hg5.belowO (Own.empty W6.drew) (by simp)); have hv7 := ((HW6.out.outer.pre hcA).below hb5).below (boxed W5 (.cells #[.slice p5 m c5] 29)); have hs5 := hb5.size; have hr7 := (ho6.below hb5).below (boxed W5 (.cells #[.slice p5 m c5] 29))) | (refine step_append_row rfl (.tmp 41) (.tmp 45) rfl _ lo _ _ _ _ _ rfl hv7 _ _ _ _ rfl (cellNew _ _ _) (by omega) (by simp; omega) ?_; intro p7 c7 W7 ho7 hg7; have hR7 := (hr7.kept hg7.by_ (blkNe hgl (Nat.le_trans hsW (Nat.le_refl _)) ho6)).rws; have hs7 := hg7.by_.size) | (refine step_append_rows rfl (.tmp 46) (.tmp 47) rfl _ lo _ _ _ _ _ rfl ho7 _ _ _ _ rfl hR7 (by omega) (by simp at hs7; omega) ?_; intro p9 c9 W9 ho9 hg9)))
                 | go_simp
               refine hK.out _ _ ?_ (fun hHeld => ?_)
               · ((try dsimp only); try trivial)
               clear hK K
               try simp only [Act.put, List.setIfInBounds_toArray, List.set_cons_zero, List.set_cons_succ])
          first
            | (refine WalkU.take (i := 2) (v := ?_) rfl (by kernel_rfl) (by kernel_rfl) (by kernel_rfl) (by kernel_rfl) (fun _ _ _ h => h) (Or.inl ⟨by rfl, ?_⟩) hHeld ?_
               rotate_left
               · (intro w hSw; (try dsimp only at hSw); go_simp; try with_reducible rfl)
               try simp only [Act.put, List.setIfInBounds_toArray, List.set_cons_zero, List.set_cons_succ])
            | (refine WalkU.take (i := 2) (v := undef) rfl (by kernel_rfl) (by kernel_rfl) (by kernel_rfl) (by kernel_rfl) (fun _ _ _ h => h) (Or.inr ⟨by rfl, rfl⟩) hHeld ?_
               try simp only [Act.put, List.setIfInBounds_toArray, List.set_cons_zero, List.set_cons_succ])
            | (refine WalkU.one (i := 2) rfl (by kernel_rfl) (fun K hK => ?_)
               first
                 | (first | (refine step_append_ints rfl (.tmp 42) (.tmp 43) rfl _ W6.heap.size _ _ _ _ _ rfl (Own.empty W6.drew) _ _ _ _ rfl (hy6.drew.alloc _) (by omega) (by simp) ?_; intro p5 c5 W5 ho5 hg5; simp only [Nat.zero_add, List.nil_append] at ho5; have hb5 : Below W6.heap.size W6 W5 := ((drewBelow W6).trans (boxed W6.drew _)).trans (hg5.belowO (Own.empty W6.drew) (by simp)); have hv7 := ((HW6.out.outer.pre hcA).below hb5).below (boxed W5 (.cells #[.slice p5 m c5] 29)); have hs5 := hb5.size; have hr7 := (ho6.below hb5).below (boxed W5 (.cells #[.slice p5 m c5] 29))) | (refine step_append_row rfl (.tmp 41) (.tmp 45) rfl _ lo _ _ _ _ _ rfl hv7 _ _ _ _ rfl (cellNew _ _ _) (by omega) (by simp; omega) ?_; intro p7 c7 W7 ho7 hg7; have hR7 := (hr7.kept hg7.by_ (blkNe hgl (Nat.le_trans hsW (Nat.le_refl _)) ho6)).rws; have hs7 := hg7.by_.size) | (refine step_append_rows rfl (.tmp 46) (.tmp 47) rfl _ lo _ _ _ _ _ rfl ho7 _ _ _ _ rfl hR7 (by omega) (by simp at hs7; omega) ?_; intro p9 c9 W9 ho9 hg9))
                 | (go_simp; (first | (refine step_append_ints rfl (.tmp 42) (.tmp 43) rfl _ W6.heap.size _ _ _ _ _ rfl (Own.empty W6.drew) _ _ _ _ rfl (hy6.drew.alloc _) (by omega) (by simp) ?_; intro p5 c5 W5 ho5 hg5; simp only [Nat.zero_add, List.nil_append] at ho5; have hb5 : Below W6.heap.size W6 W5 := ((drewBelow W6).trans (boxed W6.drew _)).trans (hg5.belowO (Own.empty W6.drew) (by simp)); have hv7 := ((HW6.out.outer.pre hcA).below hb5).below (boxed W5 (.cells #[.slice p5 m c5] 29)); have hs5 := hb5.size; have hr7 := (ho6.below hb5).below (boxed W5 (.cells #[.slice p5 m c5] 29))) | (refine step_append_row rfl (.tmp 41) (.tmp 45) rfl _ lo _ _ _ _ _ rfl hv7 _ _ _ _ rfl (cellNew _ _ _) (by omega) (by simp; omega) ?_; intro p7 c7 W7 ho7 hg7; have hR7 := (hr7.kept hg7.by_ (blkNe hgl (Nat.le_trans hsW (Nat.le_refl _)) ho6)).rws; have hs7 := hg7.by_.size) | (refine step_append_rows rfl (.tmp 46) (.tmp 47) rfl _ lo _ _ _ _ _ rfl ho7 _ _ _ _ rfl hR7 (by omega) (by simp at hs7; omega) ?_; intro p9 c9 W9 ho9 hg9)))
                 | go_simp
               refine hK.out _ _ ?_ (fun hHeld => ?_)
               · ((try dsimp only); try trivial)
               clear hK K
               try simp only [Act.put, List.setIfInBounds_toArray, List.set_cons_zero, List.set_cons_succ])
          first
            | (refine WalkU.take (i := 4) (v := ?_) rfl (by kernel_rfl) (by kernel_rfl) (by kernel_rfl) (by kernel_rfl) (fun _ _ _ h => h) (Or.inl ⟨by rfl, ?_⟩) hHeld ?_
               rotate_left
               · (intro w hSw; (try dsimp only at hSw); go_simp; try with_reducible rfl)
               try simp only [Act.put, List.setIfInBounds_toArray, List.set_cons_zero, List.set_cons_succ])
            | (refine WalkU.take (i := 4) (v := undef) rfl (by kernel_rfl) (by kernel_rfl) (by kernel_rfl) (by kernel_rfl) (fun _ _ _ h => h) (Or.inr ⟨by rfl, rfl⟩) hHeld ?_
               try simp only [Act.put, List.setIfInBounds_toArray, List.set_cons_zero, List.set_cons_succ])
            | (refine WalkU.one (i := 4) rfl (by kernel_rfl) (fun K hK => ?_)
               first
                 | (first | (refine step_append_ints rfl (.tmp 42) (.tmp 43) rfl _ W6.heap.size _ _ _ _ _ rfl (Own.empty W6.drew) _ _ _ _ rfl (hy6.drew.alloc _) (by omega) (by simp) ?_; intro p5 c5 W5 ho5 hg5; simp only [Nat.zero_add, List.nil_append] at ho5; have hb5 : Below W6.heap.size W6 W5 := ((drewBelow W6).trans (boxed W6.drew _)).trans (hg5.belowO (Own.empty W6.drew) (by simp)); have hv7 := ((HW6.out.outer.pre hcA).below hb5).below (boxed W5 (.cells #[.slice p5 m c5] 29)); have hs5 := hb5.size; have hr7 := (ho6.below hb5).below (boxed W5 (.cells #[.slice p5 m c5] 29))) | (refine step_append_row rfl (.tmp 41) (.tmp 45) rfl _ lo _ _ _ _ _ rfl hv7 _ _ _ _ rfl (cellNew _ _ _) (by omega) (by simp; omega) ?_; intro p7 c7 W7 ho7 hg7; have hR7 := (hr7.kept hg7.by_ (blkNe hgl (Nat.le_trans hsW (Nat.le_refl _)) ho6)).rws; have hs7 := hg7.by_.size) | (refine step_append_rows rfl (.tmp 46) (.tmp 47) rfl _ lo _ _ _ _ _ rfl ho7 _ _ _ _ rfl hR7 (by omega) (by simp at hs7; omega) ?_; intro p9 c9 W9 ho9 hg9))
                 | (go_simp; (first | (refine step_append_ints rfl (.tmp 42) (.tmp 43) rfl _ W6.heap.size _ _ _ _ _ rfl (Own.empty W6.drew) _ _ _ _ rfl (hy6.drew.alloc _) (by omega) (by simp) ?_; intro p5 c5 W5 ho5 hg5; simp only [Nat.zero_add, List.nil_append] at ho5; have hb5 : Below W6.heap.size W6 W5 := ((drewBelow W6).trans (boxed W6.drew _)).trans (hg5.belowO (Own.empty W6.drew) (by simp)); have hv7 := ((HW6.out.outer.pre hcA).below hb5).below (boxed W5 (.cells #[.slice p5 m c5] 29)); have hs5 := hb5.size; have hr7 := (ho6.below hb5).below (boxed W5 (.cells #[.slice p5 m c5] 29))) | (refine step_append_row rfl (.tmp 41) (.tmp 45) rfl _ lo _ _ _ _ _ rfl hv7 _ _ _ _ rfl (cellNew _ _ _) (by omega) (by simp; omega) ?_; intro p7 c7 W7 ho7 hg7; have hR7 := (hr7.kept hg7.by_ (blkNe hgl (Nat.le_trans hsW (Nat.le_refl _)) ho6)).rws; have hs7 := hg7.by_.size) | (refine step_append_rows rfl (.tmp 46) (.tmp 47) rfl _ lo _ _ _ _ _ rfl ho7 _ _ _ _ rfl hR7 (by omega) (by simp at hs7; omega) ?_; intro p9 c9 W9 ho9 hg9)))
                 | go_simp
               refine hK.out _ _ ?_ (fun hHeld => ?_)
               · ((try dsimp only); try trivial)
               clear hK K
               try simp only [Act.put, List.setIfInBounds_toArray, List.set_cons_zero, List.set_cons_succ])
          first
            | (refine WalkU.take (i := 8) (v := ?_) rfl (by kernel_rfl) (by kernel_rfl) (by kernel_rfl) (by kernel_rfl) (fun _ _ _ h => h) (Or.inl ⟨by rfl, ?_⟩) hHeld ?_
               rotate_left
               · (intro w hSw; (try dsimp only at hSw); go_simp; try with_reducible rfl)
               try simp only [Act.put, List.setIfInBounds_toArray, List.set_cons_zero, List.set_cons_succ])
            | (refine WalkU.take (i := 8) (v := undef) rfl (by kernel_rfl) (by kernel_rfl) (by kernel_rfl) (by kernel_rfl) (fun _ _ _ h => h) (Or.inr ⟨by rfl, rfl⟩) hHeld ?_
               try simp only [Act.put, List.setIfInBounds_toArray, List.set_cons_zero, List.set_cons_succ])
            | (refine WalkU.one (i := 8) rfl (by kernel_rfl) (fun K hK => ?_)
               first
                 | (first | (refine step_append_ints rfl (.tmp 42) (.tmp 43) rfl _ W6.heap.size _ _ _ _ _ rfl (Own.empty W6.drew) _ _ _ _ rfl (hy6.drew.alloc _) (by omega) (by simp) ?_; intro p5 c5 W5 ho5 hg5; simp only [Nat.zero_add, List.nil_append] at ho5; have hb5 : Below W6.heap.size W6 W5 := ((drewBelow W6).trans (boxed W6.drew _)).trans (hg5.belowO (Own.empty W6.drew) (by simp)); have hv7 := ((HW6.out.outer.pre hcA).below hb5).below (boxed W5 (.cells #[.slice p5 m c5] 29)); have hs5 := hb5.size; have hr7 := (ho6.below hb5).below (boxed W5 (.cells #[.slice p5 m c5] 29))) | (refine step_append_row rfl (.tmp 41) (.tmp 45) rfl _ lo _ _ _ _ _ rfl hv7 _ _ _ _ rfl (cellNew _ _ _) (by omega) (by simp; omega) ?_; intro p7 c7 W7 ho7 hg7; have hR7 := (hr7.kept hg7.by_ (blkNe hgl (Nat.le_trans hsW (Nat.le_refl _)) ho6)).rws; have hs7 := hg7.by_.size) | (refine step_append_rows rfl (.tmp 46) (.tmp 47) rfl _ lo _ _ _ _ _ rfl ho7 _ _ _ _ rfl hR7 (by omega) (by simp at hs7; omega) ?_; intro p9 c9 W9 ho9 hg9))
                 | (go_simp; (first | (refine step_append_ints rfl (.tmp 42) (.tmp 43) rfl _ W6.heap.size _ _ _ _ _ rfl (Own.empty W6.drew) _ _ _ _ rfl (hy6.drew.alloc _) (by omega) (by simp) ?_; intro p5 c5 W5 ho5 hg5; simp only [Nat.zero_add, List.nil_append] at ho5; have hb5 : Below W6.heap.size W6 W5 := ((drewBelow W6).trans (boxed W6.drew _)).trans (hg5.belowO (Own.empty W6.drew) (by simp)); have hv7 := ((HW6.out.outer.pre hcA).below hb5).below (boxed W5 (.cells #[.slice p5 m c5] 29)); have hs5 := hb5.size; have hr7 := (ho6.below hb5).below (boxed W5 (.cells #[.slice p5 m c5] 29))) | (refine step_append_row rfl (.tmp 41) (.tmp 45) rfl _ lo _ _ _ _ _ rfl hv7 _ _ _ _ rfl (cellNew _ _ _) (by omega) (by simp; omega) ?_; intro p7 c7 W7 ho7 hg7; have hR7 := (hr7.kept hg7.by_ (blkNe hgl (Nat.le_trans hsW (Nat.le_refl _)) ho6)).rws; have hs7 := hg7.by_.size) | (refine step_append_rows rfl (.tmp 46) (.tmp 47) rfl _ lo _ _ _ _ _ rfl ho7 _ _ _ _ rfl hR7 (by omega) (by simp at hs7; omega) ?_; intro p9 c9 W9 ho9 hg9)))
                 | go_simp
               refine hK.out _ _ ?_ (fun hHeld => ?_)
               · ((try dsimp only); try trivial)
               clear hK K
               try simp only [Act.put, List.setIfInBounds_toArray, List.set_cons_zero, List.set_cons_succ])
          first
            | (refine WalkU.take (i := 3) (v := ?_) rfl (by kernel_rfl) (by kernel_rfl) (by kernel_rfl) (by kernel_rfl) (fun _ _ _ h => h) (Or.inl ⟨by rfl, ?_⟩) hHeld ?_
               rotate_left
               · (intro w hSw; (try dsimp only at hSw); go_simp; try with_reducible rfl)
               try simp only [Act.put, List.setIfInBounds_toArray, List.set_cons_zero, List.set_cons_succ])
            | (refine WalkU.take (i := 3) (v := undef) rfl (by kernel_rfl) (by kernel_rfl) (by kernel_rfl) (by kernel_rfl) (fun _ _ _ h => h) (Or.inr ⟨by rfl, rfl⟩) hHeld ?_
               try simp only [Act.put, List.setIfInBounds_toArray, List.set_cons_zero, List.set_cons_succ])
            | (refine WalkU.one (i := 3) rfl (by kernel_rfl) (fun K hK => ?_)
               first
                 | (first | (refine step_append_ints rfl (.tmp 42) (.tmp 43) rfl _ W6.heap.size _ _ _ _ _ rfl (Own.empty W6.drew) _ _ _ _ rfl (hy6.drew.alloc _) (by omega) (by simp) ?_; intro p5 c5 W5 ho5 hg5; simp only [Nat.zero_add, List.nil_append] at ho5; have hb5 : Below W6.heap.size W6 W5 := ((drewBelow W6).trans (boxed W6.drew _)).trans (hg5.belowO (Own.empty W6.drew) (by simp)); have hv7 := ((HW6.out.outer.pre hcA).below hb5).below (boxed W5 (.cells #[.slice p5 m c5] 29)); have hs5 := hb5.size; have hr7 := (ho6.below hb5).below (boxed W5 (.cells #[.slice p5 m c5] 29))) | (refine step_append_row rfl (.tmp 41) (.tmp 45) rfl _ lo _ _ _ _ _ rfl hv7 _ _ _ _ rfl (cellNew _ _ _) (by omega) (by simp; omega) ?_; intro p7 c7 W7 ho7 hg7; have hR7 := (hr7.kept hg7.by_ (blkNe hgl (Nat.le_trans hsW (Nat.le_refl _)) ho6)).rws; have hs7 := hg7.by_.size) | (refine step_append_rows rfl (.tmp 46) (.tmp 47) rfl _ lo _ _ _ _ _ rfl ho7 _ _ _ _ rfl hR7 (by omega) (by simp at hs7; omega) ?_; intro p9 c9 W9 ho9 hg9))
                 | (go_simp; (first | (refine step_append_ints rfl (.tmp 42) (.tmp 43) rfl _ W6.heap.size _ _ _ _ _ rfl (Own.empty W6.drew) _ _ _ _ rfl (hy6.drew.alloc _) (by omega) (by simp) ?_; intro p5 c5 W5 ho5 hg5; simp only [Nat.zero_add, List.nil_append] at ho5; have hb5 : Below W6.heap.size W6 W5 := ((drewBelow W6).trans (boxed W6.drew _)).trans (hg5.belowO (Own.empty W6.drew) (by simp)); have hv7 := ((HW6.out.outer.pre hcA).below hb5).below (boxed W5 (.cells #[.slice p5 m c5] 29)); have hs5 := hb5.size; have hr7 := (ho6.below hb5).below (boxed W5 (.cells #[.slice p5 m c5] 29))) | (refine step_append_row rfl (.tmp 41) (.tmp 45) rfl _ lo _ _ _ _ _ rfl hv7 _ _ _ _ rfl (cellNew _ _ _) (by omega) (by simp; omega) ?_; intro p7 c7 W7 ho7 hg7; have hR7 := (hr7.kept hg7.by_ (blkNe hgl (Nat.le_trans hsW (Nat.le_refl _)) ho6)).rws; have hs7 := hg7.by_.size) | (refine step_append_rows rfl (.tmp 46) (.tmp 47) rfl _ lo _ _ _ _ _ rfl ho7 _ _ _ _ rfl hR7 (by omega) (by simp at hs7; omega) ?_; intro p9 c9 W9 ho9 hg9)))
                 | go_simp
               refine hK.out _ _ ?_ (fun hHeld => ?_)
               · ((try dsimp only); try trivial)
               clear hK K
               try simp only [Act.put, List.setIfInBounds_toArray, List.set_cons_zero, List.set_cons_succ])
          first
            | (refine WalkU.take (i := 5) (v := ?_) rfl (by kernel_rfl) (by kernel_rfl) (by kernel_rfl) (by kernel_rfl) (fun _ _ _ h => h) (Or.inl ⟨by rfl, ?_⟩) hHeld ?_
               rotate_left
               · (intro w hSw; (try dsimp only at hSw); go_simp; try with_reducible rfl)
               try simp only [Act.put, List.setIfInBounds_toArray, List.set_cons_zero, List.set_cons_succ])
            | (refine WalkU.take (i := 5) (v := undef) rfl (by kernel_rfl) (by kernel_rfl) (by kernel_rfl) (by kernel_rfl) (fun _ _ _ h => h) (Or.inr ⟨by rfl, rfl⟩) hHeld ?_
               try simp only [Act.put, List.setIfInBounds_toArray, List.set_cons_zero, List.set_cons_succ])
            | (refine WalkU.one (i := 5) rfl (by kernel_rfl) (fun K hK => ?_)
               first
                 | (first | (refine step_append_ints rfl (.tmp 42) (.tmp 43) rfl _ W6.heap.size _ _ _ _ _ rfl (Own.empty W6.drew) _ _ _ _ rfl (hy6.drew.alloc _) (by omega) (by simp) ?_; intro p5 c5 W5 ho5 hg5; simp only [Nat.zero_add, List.nil_append] at ho5; have hb5 : Below W6.heap.size W6 W5 := ((drewBelow W6).trans (boxed W6.drew _)).trans (hg5.belowO (Own.empty W6.drew) (by simp)); have hv7 := ((HW6.out.outer.pre hcA).below hb5).below (boxed W5 (.cells #[.slice p5 m c5] 29)); have hs5 := hb5.size; have hr7 := (ho6.below hb5).below (boxed W5 (.cells #[.slice p5 m c5] 29))) | (refine step_append_row rfl (.tmp 41) (.tmp 45) rfl _ lo _ _ _ _ _ rfl hv7 _ _ _ _ rfl (cellNew _ _ _) (by omega) (by simp; omega) ?_; intro p7 c7 W7 ho7 hg7; have hR7 := (hr7.kept hg7.by_ (blkNe hgl (Nat.le_trans hsW (Nat.le_refl _)) ho6)).rws; have hs7 := hg7.by_.size) | (refine step_append_rows rfl (.tmp 46) (.tmp 47) rfl _ lo _ _ _ _ _ rfl ho7 _ _ _ _ rfl hR7 (by omega) (by simp at hs7; omega) ?_; intro p9 c9 W9 ho9 hg9))
                 | (go_simp; (first | (refine step_append_ints rfl (.tmp 42) (.tmp 43) rfl _ W6.heap.size _ _ _ _ _ rfl (Own.empty W6.drew) _ _ _ _ rfl (hy6.drew.alloc _) (by omega) (by simp) ?_; intro p5 c5 W5 ho5 hg5; simp only [Nat.zero_add, List.nil_append] at ho5; have hb5 : Below W6.heap.size W6 W5 := ((drewBelow W6).trans (boxed W6.drew _)).trans (hg5.belowO (Own.empty W6.drew) (by simp)); have hv7 := ((HW6.out.outer.pre hcA).below hb5).below (boxed W5 (.cells #[.slice p5 m c5] 29)); have hs5 := hb5.size; have hr7 := (ho6.below hb5).below (boxed W5 (.cells #[.slice p5 m c5] 29))) | (refine step_append_row rfl (.tmp 41) (.tmp 45) rfl _ lo _ _ _ _ _ rfl hv7 _ _ _ _ rfl (cellNew _ _ _) (by omega) (by simp; omega) ?_; intro p7 c7 W7 ho7 hg7; have hR7 := (hr7.kept hg7.by_ (blkNe hgl (Nat.le_trans hsW (Nat.le_refl _)) ho6)).rws; have hs7 := hg7.by_.size) | (refine step_append_rows rfl (.tmp 46) (.tmp 47) rfl _ lo _ _ _ _ _ rfl ho7 _ _ _ _ rfl hR7 (by omega) (by simp at hs7; omega) ?_; intro p9 c9 W9 ho9 hg9)))
                 | go_simp
               refine hK.out _ _ ?_ (fun hHeld => ?_)
               · ((try dsimp only); try trivial)
               clear hK K
               try simp only [Act.put, List.setIfInBounds_toArray, List.set_cons_zero, List.set_cons_succ])
          first
            | (refine WalkU.take (i := 6) (v := ?_) rfl (by kernel_rfl) (by kernel_rfl) (by kernel_rfl) (by kernel_rfl) (fun _ _ _ h => h) (Or.inl ⟨by rfl, ?_⟩) hHeld ?_
               rotate_left
               · (intro w hSw; (try dsimp only at hSw); go_simp; try with_reducible rfl)
               try simp only [Act.put, List.setIfInBounds_toArray, List.set_cons_zero, List.set_cons_succ])
            | (refine WalkU.take (i := 6) (v := undef) rfl (by kernel_rfl) (by kernel_rfl) (by kernel_rfl) (by kernel_rfl) (fun _ _ _ h => h) (Or.inr ⟨by rfl, rfl⟩) hHeld ?_
               try simp only [Act.put, List.setIfInBounds_toArray, List.set_cons_zero, List.set_cons_succ])
            | (refine WalkU.one (i := 6) rfl (by kernel_rfl) (fun K hK => ?_)
               first
                 | (first | (refine step_append_ints rfl (.tmp 42) (.tmp 43) rfl _ W6.heap.size _ _ _ _ _ rfl (Own.empty W6.drew) _ _ _ _ rfl (hy6.drew.alloc _) (by omega) (by simp) ?_; intro p5 c5 W5 ho5 hg5; simp only [Nat.zero_add, List.nil_append] at ho5; have hb5 : Below W6.heap.size W6 W5 := ((drewBelow W6).trans (boxed W6.drew _)).trans (hg5.belowO (Own.empty W6.drew) (by simp)); have hv7 := ((HW6.out.outer.pre hcA).below hb5).below (boxed W5 (.cells #[.slice p5 m c5] 29)); have hs5 := hb5.size; have hr7 := (ho6.below hb5).below (boxed W5 (.cells #[.slice p5 m c5] 29))) | (refine step_append_row rfl (.tmp 41) (.tmp 45) rfl _ lo _ _ _ _ _ rfl hv7 _ _ _ _ rfl (cellNew _ _ _) (by omega) (by simp; omega) ?_; intro p7 c7 W7 ho7 hg7; have hR7 := (hr7.kept hg7.by_ (blkNe hgl (Nat.le_trans hsW (Nat.le_refl _)) ho6)).rws; have hs7 := hg7.by_.size) | (refine step_append_rows rfl (.tmp 46) (.tmp 47) rfl _ lo _ _ _ _ _ rfl ho7 _ _ _ _ rfl hR7 (by omega) (by simp at hs7; omega) ?_; intro p9 c9 W9 ho9 hg9))
                 | (go_simp; (first | (refine step_append_ints rfl (.tmp 42) (.tmp 43) rfl _ W6.heap.size _ _ _ _ _ rfl (Own.empty W6.drew) _ _ _ _ rfl (hy6.drew.alloc _) (by omega) (by simp) ?_; intro p5 c5 W5 ho5 hg5; simp only [Nat.zero_add, List.nil_append] at ho5; have hb5 : Below W6.heap.size W6 W5 := ((drewBelow W6).trans (boxed W6.drew _)).trans (hg5.belowO (Own.empty W6.drew) (by simp)); have hv7 := ((HW6.out.outer.pre hcA).below hb5).below (boxed W5 (.cells #[.slice p5 m c5] 29)); have hs5 := hb5.size; have hr7 := (ho6.below hb5).below (boxed W5 (.cells #[.slice p5 m c5] 29))) | (refine step_append_row rfl (.tmp 41) (.tmp 45) rfl _ lo _ _ _ _ _ rfl hv7 _ _ _ _ rfl (cellNew _ _ _) (by omega) (by simp; omega) ?_; intro p7 c7 W7 ho7 hg7; have hR7 := (hr7.kept hg7.by_ (blkNe hgl (Nat.le_trans hsW (Nat.le_refl _)) ho6)).rws; have hs7 := hg7.by_.size) | (refine step_append_rows rfl (.tmp 46) (.tmp 47) rfl _ lo _ _ _ _ _ rfl ho7 _ _ _ _ rfl hR7 (by omega) (by simp at hs7; omega) ?_; intro p9 c9 W9 ho9 hg9)))
                 | go_simp
               refine hK.out _ _ ?_ (fun hHeld => ?_)
               · ((try dsimp only); try trivial)
               clear hK K
               try simp only [Act.put, List.setIfInBounds_toArray, List.set_cons_zero, List.set_cons_succ])
          first
            | (refine WalkU.take (i := 7) (v := ?_) rfl (by kernel_rfl) (by kernel_rfl) (by kernel_rfl) (by kernel_rfl) (fun _ _ _ h => h) (Or.inl ⟨by rfl, ?_⟩) hHeld ?_
               rotate_left
               · (intro w hSw; (try dsimp only at hSw); go_simp; try with_reducible rfl)
               try simp only [Act.put, List.setIfInBounds_toArray, List.set_cons_zero, List.set_cons_succ])
            | (refine WalkU.take (i := 7) (v := undef) rfl (by kernel_rfl) (by kernel_rfl) (by kernel_rfl) (by kernel_rfl) (fun _ _ _ h => h) (Or.inr ⟨by rfl, rfl⟩) hHeld ?_
               try simp only [Act.put, List.setIfInBounds_toArray, List.set_cons_zero, List.set_cons_succ])
            | (refine WalkU.one (i := 7) rfl (by kernel_rfl) (fun K hK => ?_)
               first
                 | (first | (refine step_append_ints rfl (.tmp 42) (.tmp 43) rfl _ W6.heap.size _ _ _ _ _ rfl (Own.empty W6.drew) _ _ _ _ rfl (hy6.drew.alloc _) (by omega) (by simp) ?_; intro p5 c5 W5 ho5 hg5; simp only [Nat.zero_add, List.nil_append] at ho5; have hb5 : Below W6.heap.size W6 W5 := ((drewBelow W6).trans (boxed W6.drew _)).trans (hg5.belowO (Own.empty W6.drew) (by simp)); have hv7 := ((HW6.out.outer.pre hcA).below hb5).below (boxed W5 (.cells #[.slice p5 m c5] 29)); have hs5 := hb5.size; have hr7 := (ho6.below hb5).below (boxed W5 (.cells #[.slice p5 m c5] 29))) | (refine step_append_row rfl (.tmp 41) (.tmp 45) rfl _ lo _ _ _ _ _ rfl hv7 _ _ _ _ rfl (cellNew _ _ _) (by omega) (by simp; omega) ?_; intro p7 c7 W7 ho7 hg7; have hR7 := (hr7.kept hg7.by_ (blkNe hgl (Nat.le_trans hsW (Nat.le_refl _)) ho6)).rws; have hs7 := hg7.by_.size) | (refine step_append_rows rfl (.tmp 46) (.tmp 47) rfl _ lo _ _ _ _ _ rfl ho7 _ _ _ _ rfl hR7 (by omega) (by simp at hs7; omega) ?_; intro p9 c9 W9 ho9 hg9))
                 | (go_simp; (first | (refine step_append_ints rfl (.tmp 42) (.tmp 43) rfl _ W6.heap.size _ _ _ _ _ rfl (Own.empty W6.drew) _ _ _ _ rfl (hy6.drew.alloc _) (by omega) (by simp) ?_; intro p5 c5 W5 ho5 hg5; simp only [Nat.zero_add, List.nil_append] at ho5; have hb5 : Below W6.heap.size W6 W5 := ((drewBelow W6).trans (boxed W6.drew _)).trans (hg5.belowO (Own.empty W6.drew) (by simp)); have hv7 := ((HW6.out.outer.pre hcA).below hb5).below (boxed W5 (.cells #[.slice p5 m c5] 29)); have hs5 := hb5.size; have hr7 := (ho6.below hb5).below (boxed W5 (.cells #[.slice p5 m c5] 29))) | (refine step_append_row rfl (.tmp 41) (.tmp 45) rfl _ lo _ _ _ _ _ rfl hv7 _ _ _ _ rfl (cellNew _ _ _) (by omega) (by simp; omega) ?_; intro p7 c7 W7 ho7 hg7; have hR7 := (hr7.kept hg7.by_ (blkNe hgl (Nat.le_trans hsW (Nat.le_refl _)) ho6)).rws; have hs7 := hg7.by_.size) | (refine step_append_rows rfl (.tmp 46) (.tmp 47) rfl _ lo _ _ _ _ _ rfl ho7 _ _ _ _ rfl hR7 (by omega) (by simp at hs7; omega) ?_; intro p9 c9 W9 ho9 hg9)))
                 | go_simp
               refine hK.out _ _ ?_ (fun hHeld => ?_)
               · ((try dsimp only); try trivial)
               clear hK K
               try simp only [Act.put, List.setIfInBounds_toArray, List.set_cons_zero, List.set_cons_succ])
          first
            | (refine WalkU.take (i := 9) (v := ?_) rfl (by kernel_rfl) (by kernel_rfl) (by kernel_rfl) (by kernel_rfl) (fun _ _ _ h => h) (Or.inl ⟨by rfl, ?_⟩) hHeld ?_
               rotate_left
               · (intro w hSw; (try dsimp only at hSw); go_simp; try with_reducible rfl)
               try simp only [Act.put, List.setIfInBounds_toArray, List.set_cons_zero, List.set_cons_succ])
            | (refine WalkU.take (i := 9) (v := undef) rfl (by kernel_rfl) (by kernel_rfl) (by kernel_rfl) (by kernel_rfl) (fun _ _ _ h => h) (Or.inr ⟨by rfl, rfl⟩) hHeld ?_
               try simp only [Act.put, List.setIfInBounds_toArray, List.set_cons_zero, List.set_cons_succ])
            | (refine WalkU.one (i := 9) rfl (by kernel_rfl) (fun K hK => ?_)
               first
                 | (first | (refine step_append_ints rfl (.tmp 42) (.tmp 43) rfl _ W6.heap.size _ _ _ _ _ rfl (Own.empty W6.drew) _ _ _ _ rfl (hy6.drew.alloc _) (by omega) (by simp) ?_; intro p5 c5 W5 ho5 hg5; simp only [Nat.zero_add, List.nil_append] at ho5; have hb5 : Below W6.heap.size W6 W5 := ((drewBelow W6).trans (boxed W6.drew _)).trans (hg5.belowO (Own.empty W6.drew) (by simp)); have hv7 := ((HW6.out.outer.pre hcA).below hb5).below (boxed W5 (.cells #[.slice p5 m c5] 29)); have hs5 := hb5.size; have hr7 := (ho6.below hb5).below (boxed W5 (.cells #[.slice p5 m c5] 29))) | (refine step_append_row rfl (.tmp 41) (.tmp 45) rfl _ lo _ _ _ _ _ rfl hv7 _ _ _ _ rfl (cellNew _ _ _) (by omega) (by simp; omega) ?_; intro p7 c7 W7 ho7 hg7; have hR7 := (hr7.kept hg7.by_ (blkNe hgl (Nat.le_trans hsW (Nat.le_refl _)) ho6)).rws; have hs7 := hg7.by_.size) | (refine step_append_rows rfl (.tmp 46) (.tmp 47) rfl _ lo _ _ _ _ _ rfl ho7 _ _ _ _ rfl hR7 (by omega) (by simp at hs7; omega) ?_; intro p9 c9 W9 ho9 hg9))
                 | (go_simp; (first | (refine step_append_ints rfl (.tmp 42) (.tmp 43) rfl _ W6.heap.size _ _ _ _ _ rfl (Own.empty W6.drew) _ _ _ _ rfl (hy6.drew.alloc _) (by omega) (by simp) ?_; intro p5 c5 W5 ho5 hg5; simp only [Nat.zero_add, List.nil_append] at ho5; have hb5 : Below W6.heap.size W6 W5 := ((drewBelow W6).trans (boxed W6.drew _)).trans (hg5.belowO (Own.empty W6.drew) (by simp)); have hv7 := ((HW6.out.outer.pre hcA).below hb5).below (boxed W5 (.cells #[.slice p5 m c5] 29)); have hs5 := hb5.size; have hr7 := (ho6.below hb5).below (boxed W5 (.cells #[.slice p5 m c5] 29))) | (refine step_append_row rfl (.tmp 41) (.tmp 45) rfl _ lo _ _ _ _ _ rfl hv7 _ _ _ _ rfl (cellNew _ _ _) (by omega) (by simp; omega) ?_; intro p7 c7 W7 ho7 hg7; have hR7 := (hr7.kept hg7.by_ (blkNe hgl (Nat.le_trans hsW (Nat.le_refl _)) ho6)).rws; have hs7 := hg7.by_.size) | (refine step_append_rows rfl (.tmp 46) (.tmp 47) rfl _ lo _ _ _ _ _ rfl ho7 _ _ _ _ rfl hR7 (by omega) (by simp at hs7; omega) ?_; intro p9 c9 W9 ho9 hg9)))
                 | go_simp
               refine hK.out _ _ ?_ (fun hHeld => ?_)
               · ((try dsimp only); try trivial)
               clear hK K
               try simp only [Act.put, List.setIfInBounds_toArray, List.set_cons_zero, List.set_cons_succ])
          first
            | (refine WalkU.last (i := 10) rfl rfl (by kernel_rfl) (by kernel_rfl) (fun K hK => ?_)
               first
                 | (first | (refine step_append_ints rfl (.tmp 42) (.tmp 43) rfl _ W6.heap.size _ _ _ _ _ rfl (Own.empty W6.drew) _ _ _ _ rfl (hy6.drew.alloc _) (by omega) (by simp) ?_; intro p5 c5 W5 ho5 hg5; simp only [Nat.zero_add, List.nil_append] at ho5; have hb5 : Below W6.heap.size W6 W5 := ((drewBelow W6).trans (boxed W6.drew _)).trans (hg5.belowO (Own.empty W6.drew) (by simp)); have hv7 := ((HW6.out.outer.pre hcA).below hb5).below (boxed W5 (.cells #[.slice p5 m c5] 29)); have hs5 := hb5.size; have hr7 := (ho6.below hb5).below (boxed W5 (.cells #[.slice p5 m c5] 29))) | (refine step_append_row rfl (.tmp 41) (.tmp 45) rfl _ lo _ _ _ _ _ rfl hv7 _ _ _ _ rfl (cellNew _ _ _) (by omega) (by simp; omega) ?_; intro p7 c7 W7 ho7 hg7; have hR7 := (hr7.kept hg7.by_ (blkNe hgl (Nat.le_trans hsW (Nat.le_refl _)) ho6)).rws; have hs7 := hg7.by_.size) | (refine step_append_rows rfl (.tmp 46) (.tmp 47) rfl _ lo _ _ _ _ _ rfl ho7 _ _ _ _ rfl hR7 (by omega) (by simp at hs7; omega) ?_; intro p9 c9 W9 ho9 hg9))
                 | (go_simp; (first | (refine step_append_ints rfl (.tmp 42) (.tmp 43) rfl _ W6.heap.size _ _ _ _ _ rfl (Own.empty W6.drew) _ _ _ _ rfl (hy6.drew.alloc _) (by omega) (by simp) ?_; intro p5 c5 W5 ho5 hg5; simp only [Nat.zero_add, List.nil_append] at ho5; have hb5 : Below W6.heap.size W6 W5 := ((drewBelow W6).trans (boxed W6.drew _)).trans (hg5.belowO (Own.empty W6.drew) (by simp)); have hv7 := ((HW6.out.outer.pre hcA).below hb5).below (boxed W5 (.cells #[.slice p5 m c5] 29)); have hs5 := hb5.size; have hr7 := (ho6.below hb5).below (boxed W5 (.cells #[.slice p5 m c5] 29))) | (refine step_append_row rfl (.tmp 41) (.tmp 45) rfl _ lo _ _ _ _ _ rfl hv7 _ _ _ _ rfl (cellNew _ _ _) (by omega) (by simp; omega) ?_; intro p7 c7 W7 ho7 hg7; have hR7 := (hr7.kept hg7.by_ (blkNe hgl (Nat.le_trans hsW (Nat.le_refl _)) ho6)).rws; have hs7 := hg7.by_.size) | (refine step_append_rows rfl (.tmp 46) (.tmp 47) rfl _ lo _ _ _ _ _ rfl ho7 _ _ _ _ rfl hR7 (by omega) (by simp at hs7; omega) ?_; intro p9 c9 W9 ho9 hg9)))
                 | go_simp
               refine hK.out _ _ ?_
               clear hK K
               try simp only [Act.put, List.setIfInBounds_toArray, List.set_cons_zero, List.set_cons_succ])
          go_wp2
          go_ret
          have hT : 29 ≠ 3 := by decide
          have hs9 := hg9.by_.size
          have hs7' : W5.heap.size ≤ W7.heap.size := by simp at hs7; omega
          have hne7 : ∀ {lo' hi' : Nat} {q' : Option Addr} {n' c' : Nat} {zs : List Int}, Own W5 lo' hi' q' n' c' zs → Own W9 lo' hi' q' n' c' zs := fun hz => by
            have h5 := hz.below (boxed W5 (.cells #[.slice p5 m c5] 29))
            have h7 := h5.kept hg7.by_ (hv7.ne h5.v hT)
            exact h7.kept hg9.by_ (ho7.ne h7.v hT)
          obtain ⟨_, rfl, ho9⟩ : ∃ N, N = n + 1 ∧ OwnV W9 29 1 lo W9.heap.size p9 N c9 _ := ⟨_, by omega, ho9⟩
          have hfin := HW6.out.put ((hne7 ho5).widen (by omega : w.heap.size ≤ W6.heap.size) (by omega : W5.heap.size ≤ W9.heap.size)) (by omega) (Nat.le_refl _) (by omega) (k + 1) hcA (fun j hj => hne7 ((HW6.out.inner j hj).below hb5)) (by simpa [List.map_take, List.map_drop, Row.val] using ho9)
          rcases ho9.form with ⟨_, h0, _⟩ | ⟨g9, rfl, _⟩
          · omega
          rw [← HN.out] at hfin
          have hfN : ∀ N, N = n + 1 → Own2 W9 lo W9.heap.size (some ⟨g9, 0, none⟩) N c9 _ _ := fun N hN => hN.symm ▸ hfin
          refine ⟨g9, _, c9, _, rfl, hfN _ (by omega), ?_⟩
          refine hbW.trans ((hb6.mono (by omega)).trans ((hb5.mono (by omega)).trans (((boxed W5 _).mono (by omega)).trans ((hg7.below (by simp; omega) ?_).trans (hg9.below (by omega) fun a ha => (ho7.lt a ha).1)))))
          exact fun a ha => by injection ha with ha; subst ha; exact hlog
        · go_wp2_with fail
          go_ret
          rw [putL_same (by rw [hl.out]; exact hpk) (by simpa [beqL] using hsm)]
          exact ⟨_, _, _, _, rfl, HW.out.up, hbW⟩
      · go_wp2_with fail
        refine (l2Before_any _ _ _ _ _ _ _ _ (by omega) (hy.drewN z) (hik.drewN z)).mono ?_
        rw [hbf]
        rintro e w1 ⟨rfl, z1, rfl⟩
        go_wp2_with fail
        go_roundw
        case rel => exact ⟨k, by omega, by go_num, (putAt_yes hbf).symm.trans hput.out, by first | exact ⟨_, rfl⟩ | exact drew2 _ _ _⟩
        case measure => simp [intOf]

end Go.Proofs.YthdonnkekggbbaaGreatDoor

/- Plain geometry of the plane: turns, chains of a hull (the lower one, top first), their uniqueness. No program in sight. Conditions: none. -/
namespace Go.Proofs.YthdonnkekggbbaaGreatDoor
set_option linter.unusedVariables false
set_option linter.unusedSimpArgs false
set_option maxRecDepth 100000

abbrev Pt := Int × Int
def cr (u v : Pt) : Int := u.1 * v.2 - u.2 * v.1
def sb (a b : Pt) : Pt := (a.1 - b.1, a.2 - b.2)
/-- Positive if the way from a over b to c turns to the left. -/
def tn (a b c : Pt) : Int := cr (sb b a) (sb c a)
def lx (a b : Pt) : Prop := a.1 < b.1 ∨ (a.1 = b.1 ∧ a.2 < b.2)
def posV (u : Pt) : Prop := 0 < u.1 ∨ (u.1 = 0 ∧ 0 < u.2)

theorem lx.pos {a b : Pt} (h : lx a b) : posV (sb b a) := by
  unfold lx at h; unfold posV sb; simp only; omega
theorem lx.trans {a b c : Pt} (h : lx a b) (h' : lx b c) : lx a c := by
  unfold lx at *; omega
theorem lx.irrefl {a : Pt} (h : lx a a) : False := by unfold lx at h; omega
theorem lx_total (a b : Pt) : lx a b ∨ a = b ∨ lx b a := by
  unfold lx
  by_cases h : a = b
  · exact .inr (.inl h)
  · have : ¬ (a.1 = b.1 ∧ a.2 = b.2) := fun ⟨h1, h2⟩ => h (Prod.ext h1 h2)
    omega

theorem cr_anti (u v : Pt) : cr u v = - cr v u := by unfold cr; grind
/-- Directions of the half plane are ordered by their slopes. -/
theorem slope_trans {u v w : Pt} (hu : posV u) (hv : posV v) (hw : posV w) (h1 : 0 ≤ cr u v) (h2 : 0 ≤ cr v w) : 0 ≤ cr u w := by
  have hu1 : 0 ≤ u.1 := by unfold posV at hu; omega
  have hw1 : 0 ≤ w.1 := by unfold posV at hw; omega
  rcases hv with hv | ⟨hv0, hv⟩
  · have e : v.1 * cr u w = u.1 * cr v w + w.1 * cr u v := by unfold cr; grind
    have h3 : 0 ≤ v.1 * cr u w := by
      rw [e]; exact Int.add_nonneg (Int.mul_nonneg hu1 h2) (Int.mul_nonneg hw1 h1)
    by_cases h : 0 ≤ cr u w
    · exact h
    · have := Int.mul_neg_of_pos_of_neg hv (show cr u w < 0 by omega)
      omega
  · have e1 : cr v w = - (v.2 * w.1) := by unfold cr; rw [hv0]; grind
    have hw0 : w.1 = 0 := by
      by_cases h : w.1 = 0
      · exact h
      · have := Int.mul_pos hv (show 0 < w.1 by omega)
        omega
    have hw2 : 0 < w.2 := by unfold posV at hw; omega
    have e2 : cr u w = u.1 * w.2 := by unfold cr; rw [hw0]; grind
    rw [e2]
    exact Int.mul_nonneg hu1 (by omega)
theorem slope_lt_le {u v w : Pt} (hu : posV u) (hv : posV v) (hw : posV w) (h1 : 0 < cr u v) (h2 : 0 ≤ cr v w) : 0 < cr u w := by
  by_cases h : 0 < cr u w
  · exact h
  · have := slope_trans hv hw hu h2 (by rw [cr_anti]; omega)
    rw [cr_anti] at this
    omega
theorem slope_le_lt {u v w : Pt} (hu : posV u) (hv : posV v) (hw : posV w) (h1 : 0 ≤ cr u v) (h2 : 0 < cr v w) : 0 < cr u w := by
  by_cases h : 0 < cr u w
  · exact h
  · have := slope_trans hw hu hv (by rw [cr_anti]; omega) h1
    rw [cr_anti] at this
    omega

theorem tn_rot (a b c : Pt) : tn a b c = tn b c a := by unfold tn cr sb; grind
theorem tn_swap (a b c : Pt) : tn a b c = - tn a c b := by unfold tn cr sb; grind
theorem tn_step (a b c : Pt) : tn a b c = cr (sb b a) (sb c b) := by unfold tn cr sb; grind
theorem tn_back (a b s : Pt) : tn a b s = cr (sb b s) (sb b a) := by unfold tn cr sb; grind
theorem tn_aab (a b : Pt) : tn a b a = 0 := by unfold tn cr sb; grind
theorem tn_abb (a b : Pt) : tn a b b = 0 := by unfold tn cr sb; grind
theorem tn_aac (a b : Pt) : tn a a b = 0 := by unfold tn cr sb; grind

/-- Two turns to the left in a row, in the order of the plane. -/
theorem turns_trans {c a b x : Pt} (h1 : lx c a) (h2 : lx a b) (h3 : lx b x) (t1 : 0 < tn c a b) (t2 : 0 < tn a b x) : 0 < tn c a x ∧ 0 < tn c b x := by
  rw [tn_step] at t1 t2
  have h4 := slope_lt_le h1.pos h2.pos h3.pos t1 (by omega)
  have e1 : tn c a x = cr (sb a c) (sb b a) + cr (sb a c) (sb x b) := by unfold tn cr sb; grind
  have e2 : tn c b x = cr (sb b a) (sb x b) + cr (sb a c) (sb x b) := by unfold tn cr sb; grind
  omega

/-! ### Stacks, top first -/
def DescR : List Pt → Prop
  | b :: a :: r => lx a b ∧ DescR (a :: r)
  | _ => True
def ConvR : List Pt → Prop
  | c :: b :: a :: r => 0 < tn a b c ∧ ConvR (b :: a :: r)
  | _ => True
def EdgeR (S : List Pt) : List Pt → Prop
  | b :: a :: r => (∀ s ∈ S, 0 ≤ tn a b s) ∧ EdgeR S (a :: r)
  | _ => True

theorem DescR.tail {b : Pt} {r : List Pt} (h : DescR (b :: r)) : DescR r := by
  cases r with
  | nil => trivial
  | cons a r => exact h.2
theorem ConvR.tail {b : Pt} {r : List Pt} (h : ConvR (b :: r)) : ConvR r := by
  cases r with
  | nil => trivial
  | cons a r =>
    cases r with
    | nil => trivial
    | cons c r => exact h.2
theorem EdgeR.tail {S : List Pt} {b : Pt} {r : List Pt} (h : EdgeR S (b :: r)) : EdgeR S r := by
  cases r with
  | nil => trivial
  | cons a r => exact h.2
theorem EdgeR.mono {S S' : List Pt} (hs : ∀ s ∈ S', s ∈ S) : ∀ {r : List Pt}, EdgeR S r → EdgeR S' r
  | [], _ => trivial
  | [_], _ => trivial
  | b :: a :: r, h => ⟨fun s h' => h.1 s (hs s h'), EdgeR.mono hs (r := a :: r) h.2⟩
theorem DescR.lt_head {b : Pt} : ∀ {r : List Pt}, DescR (b :: r) → ∀ a ∈ r, lx a b
  | [], _, a, h => by simp at h
  | c :: r, hd, a, h => by
    rcases List.mem_cons.1 h with rfl | h
    · exact hd.1
    · exact (DescR.lt_head hd.2 a h).trans hd.1
theorem DescR.ge_last {b0 : Pt} : ∀ {r : List Pt}, DescR r → r.getLast? = some b0 → ∀ a ∈ r, a = b0 ∨ lx b0 a
  | [], _, _, a, h => by simp at h
  | [c], _, hl, a, h => by simp at hl h; exact .inl (h.trans hl)
  | c :: d :: r, hd, hl, a, h => by
    rw [List.getLast?_cons_cons] at hl
    rcases List.mem_cons.1 h with rfl | h
    · rcases DescR.ge_last hd.2 hl d (by simp) with rfl | h2
      · exact .inr hd.1
      · exact .inr (h2.trans hd.1)
    · exact DescR.ge_last hd.2 hl a h

/-- The top of a chain that turns to the left lies to the left of each side below. -/
theorem edge_top {x : Pt} : ∀ {st : List Pt}, DescR (x :: st) → ConvR (x :: st) → EdgeR [x] st
  | [], _, _ => trivial
  | [_], _, _ => trivial
  | [b, a], hd, hc => ⟨fun s hs => by
      rw [List.mem_singleton] at hs; subst hs; exact Int.le_of_lt hc.1, trivial⟩
  | b :: a :: c :: r, hd, hc => by
    refine ⟨fun s hs => ?_, ?_⟩
    · rw [List.mem_singleton] at hs; subst hs; exact Int.le_of_lt hc.1
    · have h := turns_trans hd.2.2.1 hd.2.1 hd.1 hc.2.1 hc.1
      refine edge_top (st := a :: c :: r) ⟨hd.2.1.trans hd.1, hd.2.2⟩ ⟨h.1, hc.tail.tail⟩

theorem EdgeR.both {S S' : List Pt} : ∀ {r : List Pt}, EdgeR S r → EdgeR S' r → EdgeR (S ++ S') r
  | [], _, _ => trivial
  | [_], _, _ => trivial
  | b :: a :: r, h, h' => ⟨fun s hs => (List.mem_append.1 hs).elim (h.1 s) (h'.1 s), EdgeR.both (r := a :: r) h.2 h'.2⟩

/-- A point is pushed onto a chain; those that don't turn to the left any more are popped. -/
def pushC {α : Type} (t : α → α → α → Int) : List α → α → List α
  | b :: a :: r, x => if t a b x ≤ 0 then pushC t (a :: r) x else x :: b :: a :: r
  | [b], x => [x, b]
  | [], x => [x]
def chainR {α : Type} (t : α → α → α → Int) (l : List α) : List α := l.foldl (pushC t) []
def hullOf {α : Type} (t : α → α → α → Int) (l : List α) : List α := (chainR t l).reverse.dropLast ++ (chainR t l.reverse).reverse.dropLast

/-- What a chain is: its sides have all points on the left. -/
structure Hul (D st : List Pt) (mn mx : Pt) : Prop where
  desc : DescR st
  conv : ConvR st
  edge : EdgeR D st
  low : st.getLast? = some mn
  high : st.head? = some mx
  sub : ∀ a ∈ st, a ∈ D
  least : ∀ s ∈ D, s = mn ∨ lx mn s

theorem push_ok {x : Pt} {D : List Pt} {mn : Pt} (hx : ∀ s ∈ D, lx s x) : ∀ (st : List Pt) (mx : Pt), Hul D st mn mx → (∀ s ∈ D, lx mx s → 0 ≤ tn mx x s) → Hul (D ++ [x]) (pushC tn st x) mn x
  | [], mx, h, _ => by have := h.high; simp at this
  | [b], mx, h, hup => by
    have h1 := h.high; have h2 := h.low
    simp only [List.head?_cons, List.getLast?_singleton, Option.some.injEq] at h1 h2
    subst h1
    have hbD : b ∈ D := h.sub b (by simp)
    refine ⟨⟨hx b hbD, trivial⟩, trivial, ⟨fun s hs => ?_, trivial⟩, by simp [pushC, h2], by simp [pushC], fun a ha => ?_, fun s hs => ?_⟩
    · rcases List.mem_append.1 hs with hs | hs
      · rcases h.least s hs with e | e
        · rw [e, ← h2, tn_aab]; omega
        · rw [← h2] at e; exact hup s hs e
      · rw [List.mem_singleton] at hs; rw [hs, tn_abb]; omega
    · simp only [pushC, List.mem_cons, List.not_mem_nil, or_false] at ha
      rcases ha with rfl | rfl
      · simp
      · exact List.mem_append_left _ hbD
    · rcases List.mem_append.1 hs with hs | hs
      · exact h.least s hs
      · rw [List.mem_singleton] at hs; rw [hs, ← h2]; exact .inr (hx b hbD)
  | b :: a :: r, mx, h, hup => by
    have h1 := h.high
    simp only [List.head?_cons, Option.some.injEq] at h1
    subst h1
    have hbD : b ∈ D := h.sub b (by simp)
    have haD : a ∈ D := h.sub a (by simp)
    have hab := h.desc.1
    rw [pushC]
    split
    · rename_i ht
      refine push_ok hx (a :: r) a ⟨h.desc.tail, h.conv.tail, h.edge.tail, by simpa using h.low, rfl, fun c hc => h.sub c (List.mem_cons_of_mem _ hc), h.least⟩ fun s hs hlt => ?_
      have e1 := h.edge.1 s hs
      exact slope_trans (hx a haD).pos hab.pos hlt.pos (by rw [cr_anti]; unfold tn at ht; omega) e1
    · rename_i ht
      have ht' : 0 < tn a b x := by omega
      have hd : DescR (x :: b :: a :: r) := ⟨hx b hbD, h.desc⟩
      have hc : ConvR (x :: b :: a :: r) := ⟨ht', h.conv⟩
      refine ⟨hd, hc, ⟨fun s hs => ?_, h.edge.both (edge_top hd hc)⟩, by simpa using h.low, rfl, fun c hc => ?_, fun s hs => ?_⟩
      · rcases List.mem_append.1 hs with hs | hs
        · rcases lx_total b s with e | e | e
          · exact hup s hs e
          · rw [← e, tn_aab]; omega
          · have e1 := h.edge.1 s hs
            rw [tn_back] at e1
            have e2 : 0 < cr (sb b a) (sb x b) := by rw [← tn_step]; exact ht'
            have e3 := slope_le_lt e.pos hab.pos (hx b hbD).pos e1 e2
            have e4 : tn b x s = cr (sb b s) (sb x b) := by unfold tn cr sb; grind
            omega
        · rw [List.mem_singleton] at hs; rw [hs, tn_abb]; omega
      · rcases List.mem_cons.1 hc with rfl | hc
        · simp
        · exact List.mem_append_left _ (h.sub c hc)
      · rcases List.mem_append.1 hs with hs | hs
        · exact h.least s hs
        · rw [List.mem_singleton] at hs; subst hs
          rcases h.least b hbD with e | e
          · rw [← e]; exact .inr (hx b hbD)
          · exact .inr (e.trans (hx b hbD))

theorem fold_ok {mn : Pt} : ∀ (S D st : List Pt) (mx : Pt), Hul D st mn mx → (∀ s ∈ D, s = mx ∨ lx s mx) → (mx :: S).Pairwise lx → Hul (D ++ S) (S.foldl (pushC tn) st) mn ((mx :: S).getLast (by simp))
  | [], D, st, mx, h, _, _ => by simpa using h
  | x :: S, D, st, mx, h, hD, hp => by
    have hmx : lx mx x := (List.pairwise_cons.1 hp).1 x (by simp)
    have hx : ∀ s ∈ D, lx s x := fun s hs => by
      rcases hD s hs with rfl | h2
      · exact hmx
      · exact h2.trans hmx
    have h1 := push_ok hx st mx h fun s hs hlt => by
      rcases hD s hs with rfl | h2
      · exact absurd hlt fun h => h.irrefl
      · exact absurd (hlt.trans h2) fun h => h.irrefl
    have h2 := fold_ok S (D ++ [x]) (pushC tn st x) x h1 (fun s hs => by
      rcases List.mem_append.1 hs with hs | hs
      · exact .inr (hx s hs)
      · rw [List.mem_singleton] at hs; exact .inl hs) (List.pairwise_cons.1 hp).2
    rw [List.append_assoc] at h2
    simpa using h2

/-- The chain of points in order. -/
theorem chain_ok (x : Pt) (S : List Pt) (hp : (x :: S).Pairwise lx) : Hul (x :: S) (chainR tn (x :: S)) x ((x :: S).getLast (by simp)) := by
  have h0 : Hul [x] [x] x x := ⟨trivial, trivial, trivial, rfl, rfl, fun a h => h, fun s hs => .inl (by simpa using hs)⟩
  have := fold_ok S [x] [x] x h0 (fun s hs => .inl (by simpa using hs)) hp
  simpa [chainR, pushC] using this

/-- A chain is told by its points. -/
theorem chain_uniq : ∀ (A B : List Pt), DescR A → DescR B → ConvR A → ConvR B → A.head? = B.head? → A.getLast? = B.getLast? → EdgeR B A → EdgeR A B → A = B
  | [], [], _, _, _, _, _, _, _, _ => rfl
  | [], b :: B, _, _, _, _, h, _, _, _ => by simp at h
  | a :: A, [], _, _, _, _, h, _, _, _ => by simp at h
  | [a], [b], _, _, _, _, h, _, _, _ => by simpa using h
  | [a], b :: b1 :: B, _, hB, _, _, h, hl, _, _ => by
    simp only [List.head?_cons, Option.some.injEq] at h; subst h
    have hl' : (a :: b1 :: B).getLast? = some a := by rw [← hl]; rfl
    rw [List.getLast?_cons_cons] at hl'
    rcases DescR.ge_last hB.2 hl' b1 (by simp) with e | e
    · exact absurd hB.1 (by rw [e]; exact fun h => h.irrefl)
    · exact absurd (e.trans hB.1) fun h => h.irrefl
  | a :: a1 :: A, [b], hA, _, _, _, h, hl, _, _ => by
    simp only [List.head?_cons, Option.some.injEq] at h; subst h
    have hl' : (a :: a1 :: A).getLast? = some a := by rw [hl]; rfl
    rw [List.getLast?_cons_cons] at hl'
    rcases DescR.ge_last hA.2 hl' a1 (by simp) with e | e
    · exact absurd hA.1 (by rw [e]; exact fun h => h.irrefl)
    · exact absurd (e.trans hA.1) fun h => h.irrefl
  | a :: a1 :: A, b :: b1 :: B, hA, hB, cA, cB, h, hl, eA, eB => by
    simp only [List.head?_cons, Option.some.injEq] at h; subst h
    have t1 : 0 ≤ tn a1 a b1 := eA.1 b1 (by simp)
    have t2 : 0 ≤ tn b1 a a1 := eB.1 a1 (by simp)
    have e12 : tn a1 a b1 = - tn b1 a a1 := by unfold tn cr sb; grind
    have hz : tn a1 a b1 = 0 := by omega
    have hz' : cr (sb a b1) (sb a a1) = 0 := by rw [← tn_back]; exact hz
    have key : a1 = b1 := by
      rcases lx_total a1 b1 with e | e | e
      · -- b1 lies between
        exfalso
        rw [List.getLast?_cons_cons, List.getLast?_cons_cons] at hl
        cases B with
        | nil =>
          simp only [List.getLast?_singleton] at hl
          rcases DescR.ge_last hA.2 hl a1 (by simp) with e' | e'
          · rw [e'] at e; exact e.irrefl
          · exact (e.trans e').irrefl
        | cons b2 B =>
          have c1 : 0 < cr (sb b1 b2) (sb a b1) := by rw [← tn_step]; exact cB.1
          have c2 : 0 ≤ tn b2 b1 a1 := eB.2.1 a1 (by simp)
          rw [tn_back] at c2
          have p1 := hB.2.1.pos; have p2 := hB.1.pos; have p3 := e.pos
          have e0 : cr (sb a b1) (sb b1 a1) = 0 := by unfold cr sb at *; grind
          have := slope_lt_le p1 p2 p3 c1 (by omega)
          rw [cr_anti] at this
          omega
      · exact e
      · exfalso
        rw [List.getLast?_cons_cons, List.getLast?_cons_cons] at hl
        cases A with
        | nil =>
          simp only [List.getLast?_singleton] at hl
          rcases DescR.ge_last hB.2 hl.symm b1 (by simp) with e' | e'
          · rw [e'] at e; exact e.irrefl
          · exact (e.trans e').irrefl
        | cons a2 A =>
          have c1 : 0 < cr (sb a1 a2) (sb a a1) := by rw [← tn_step]; exact cA.1
          have c2 : 0 ≤ tn a2 a1 b1 := eA.2.1 b1 (by simp)
          rw [tn_back] at c2
          have p1 := hA.2.1.pos; have p2 := hA.1.pos; have p3 := e.pos
          have e0 : cr (sb a a1) (sb a1 b1) = 0 := by unfold cr sb at *; grind
          have := slope_lt_le p1 p2 p3 c1 (by omega)
          rw [cr_anti] at this
          omega
    subst key
    have := chain_uniq (a1 :: A) (a1 :: B) hA.2 hB.2 cA.tail cB.tail rfl (by rw [List.getLast?_cons_cons, List.getLast?_cons_cons] at hl; exact hl) (eA.2.mono fun s hs => List.mem_cons_of_mem _ hs) (eB.2.mono fun s hs => List.mem_cons_of_mem _ hs)
    rw [this]

end Go.Proofs.YthdonnkekggbbaaGreatDoor

/- Plain geometry of the plane: a polygon told by its turns is its own hull, and a hull is such a polygon. No program in sight. Conditions: none. -/
namespace Go.Proofs.YthdonnkekggbbaaGreatDoor
set_option linter.unusedVariables false
set_option linter.unusedSimpArgs false
set_option maxRecDepth 100000

/-- Triples with neighbours, out of triples of neighbours. -/
theorem span_all {T : Nat → Nat → Nat → Prop} {lo hi : Nat} (h0 : ∀ i, lo ≤ i → i + 2 ≤ hi → T i (i + 1) (i + 2))
    (hs : ∀ i j k l, lo ≤ i → i < j → j < k → k < l → l ≤ hi → T i j k → T j k l → T i j l ∧ T i k l) :
    ∀ d i, lo ≤ i → i + 2 + d ≤ hi → T i (i + 1) (i + 2 + d) ∧ T i (i + 1 + d) (i + 2 + d) := by
  intro d
  induction d with
  | zero => intro i h1 h2; exact ⟨h0 i h1 h2, h0 i h1 h2⟩
  | succ d ih =>
    intro i h1 h2
    have e1 := (ih i h1 (by omega)).1
    have e2 := (ih (i + 1) (by omega) (by omega)).2
    rw [show i + 1 + 1 + d = i + 2 + d by omega, show i + 1 + 2 + d = i + 2 + (d + 1) by omega] at e2
    have := hs i (i + 1) (i + 2 + d) (i + 2 + (d + 1)) h1 (by omega) (by omega) (by omega) h2 e1 e2
    rw [show i + 1 + (d + 1) = i + 2 + d by omega]
    exact this
theorem span_first {T : Nat → Nat → Nat → Prop} {lo hi : Nat} (h0 : ∀ i, lo ≤ i → i + 2 ≤ hi → T i (i + 1) (i + 2))
    (hs : ∀ i j k l, lo ≤ i → i < j → j < k → k < l → l ≤ hi → T i j k → T j k l → T i j l ∧ T i k l) {i k : Nat} (h1 : lo ≤ i) (h2 : i + 2 ≤ k) (h3 : k ≤ hi) : T i (i + 1) k := by
  have := (span_all h0 hs (k - i - 2) i h1 (by omega)).1
  rwa [show i + 2 + (k - i - 2) = k by omega] at this
theorem span_last {T : Nat → Nat → Nat → Prop} {lo hi : Nat} (h0 : ∀ i, lo ≤ i → i + 2 ≤ hi → T i (i + 1) (i + 2))
    (hs : ∀ i j k l, lo ≤ i → i < j → j < k → k < l → l ≤ hi → T i j k → T j k l → T i j l ∧ T i k l) {i k : Nat} (h1 : lo ≤ i) (h2 : i < k) (h3 : k + 1 ≤ hi) : T i k (k + 1) := by
  have := (span_all h0 hs (k - i - 1) i h1 (by omega)).2
  rwa [show i + 1 + (k - i - 1) = k by omega, show i + 2 + (k - i - 1) = k + 1 by omega] at this

/-! ### Stacks by index -/
def seg (Q : Nat → Pt) (lo : Nat) : Nat → List Pt
  | 0 => [Q lo]
  | k + 1 => Q (lo + k + 1) :: seg Q lo k

theorem seg_rev (Q : Nat → Pt) (lo : Nat) : ∀ k, (seg Q lo k).reverse = (List.range (k + 1)).map fun i => Q (lo + i)
  | 0 => by simp [seg, List.range_succ]
  | k + 1 => by
    rw [seg, List.reverse_cons, seg_rev Q lo k, List.range_succ (n := k + 1), List.map_append]
    simp [Nat.add_assoc]
theorem seg_drop (Q : Nat → Pt) (lo k : Nat) : (seg Q lo k).reverse.dropLast = (List.range k).map fun i => Q (lo + i) := by
  rw [seg_rev, List.range_succ, List.map_append]
  simp
theorem seg_head (Q : Nat → Pt) (lo k : Nat) : (seg Q lo k).head? = some (Q (lo + k)) := by
  cases k <;> rfl
theorem seg_last (Q : Nat → Pt) (lo : Nat) : ∀ k, (seg Q lo k).getLast? = some (Q lo)
  | 0 => rfl
  | k + 1 => by
    have := seg_last Q lo k
    rw [seg]
    cases h : seg Q lo k with
    | nil => rw [h] at this; simp at this
    | cons a r => rw [List.getLast?_cons_cons, ← h]; exact this
theorem seg_cons (Q : Nat → Pt) (lo k : Nat) : ∃ r, seg Q lo k = Q (lo + k) :: r := by
  cases k with
  | zero => exact ⟨[], rfl⟩
  | succ k => exact ⟨_, rfl⟩
theorem seg_length (Q : Nat → Pt) (lo : Nat) : ∀ k, (seg Q lo k).length = k + 1
  | 0 => rfl
  | k + 1 => by rw [seg, List.length_cons, seg_length Q lo k]
theorem seg_mem {Q : Nat → Pt} {lo : Nat} {a : Pt} : ∀ {k}, a ∈ seg Q lo k ↔ ∃ i, i ≤ k ∧ a = Q (lo + i)
  | 0 => by
    simp only [seg, List.mem_singleton]
    exact ⟨fun h => ⟨0, by omega, h⟩, fun ⟨i, h, e⟩ => by
      obtain rfl : i = 0 := by omega
      exact e⟩
  | k + 1 => by
    rw [seg, List.mem_cons, seg_mem (k := k)]
    constructor
    · rintro (h | ⟨i, h, e⟩)
      · exact ⟨k + 1, by omega, h⟩
      · exact ⟨i, by omega, e⟩
    · rintro ⟨i, h, e⟩
      by_cases hi : i = k + 1
      · subst hi; exact .inl e
      · exact .inr ⟨i, by omega, e⟩
theorem seg_desc {Q : Nat → Pt} {lo : Nat} : ∀ {k}, (∀ i, i < k → lx (Q (lo + i)) (Q (lo + i + 1))) → DescR (seg Q lo k)
  | 0, _ => trivial
  | k + 1, h => by
    have ih := seg_desc (k := k) fun i hi => h i (by omega)
    have h1 := h k (by omega)
    rw [seg]
    obtain ⟨r, e⟩ := seg_cons Q lo k
    rw [e] at ih ⊢
    exact ⟨h1, ih⟩
theorem seg_desc' {Q : Nat → Pt} {lo : Nat} : ∀ {k}, DescR (seg Q lo k) → ∀ i, i < k → lx (Q (lo + i)) (Q (lo + i + 1))
  | 0, _, i, hi => by omega
  | k + 1, h, i, hi => by
    rw [seg] at h
    obtain ⟨r, e⟩ := seg_cons Q lo k
    rw [e] at h
    by_cases hk : i = k
    · subst hk; exact h.1
    · exact seg_desc' (k := k) (by rw [e]; exact h.2) i (by omega)
theorem seg_conv {Q : Nat → Pt} {lo : Nat} : ∀ {k}, (∀ i, i + 2 ≤ k → 0 < tn (Q (lo + i)) (Q (lo + i + 1)) (Q (lo + i + 2))) → ConvR (seg Q lo k)
  | 0, _ => trivial
  | 1, _ => trivial
  | k + 2, h => by
    have ih := seg_conv (k := k + 1) fun i hi => h i (by omega)
    have h1 := h k (by omega)
    rw [seg] at ih
    rw [seg, seg]
    obtain ⟨r, e⟩ := seg_cons Q lo k
    rw [e] at ih ⊢
    exact ⟨h1, ih⟩
theorem seg_conv' {Q : Nat → Pt} {lo : Nat} : ∀ {k}, ConvR (seg Q lo k) → ∀ i, i + 2 ≤ k → 0 < tn (Q (lo + i)) (Q (lo + i + 1)) (Q (lo + i + 2))
  | 0, _, i, hi => by omega
  | 1, _, i, hi => by omega
  | k + 2, h, i, hi => by
    rw [seg, seg] at h
    obtain ⟨r, e⟩ := seg_cons Q lo k
    rw [e] at h
    by_cases hk : i = k
    · subst hk; exact h.1
    · exact seg_conv' (k := k + 1) (by rw [seg, e]; exact h.2) i (by omega)
theorem seg_edge {S : List Pt} {Q : Nat → Pt} {lo : Nat} : ∀ {k}, (∀ i, i < k → ∀ s ∈ S, 0 ≤ tn (Q (lo + i)) (Q (lo + i + 1)) s) → EdgeR S (seg Q lo k)
  | 0, _ => trivial
  | k + 1, h => by
    have ih := seg_edge (k := k) fun i hi => h i (by omega)
    have h1 := h k (by omega)
    rw [seg]
    obtain ⟨r, e⟩ := seg_cons Q lo k
    rw [e] at ih ⊢
    exact ⟨h1, ih⟩
theorem seg_edge' {S : List Pt} {Q : Nat → Pt} {lo : Nat} : ∀ {k}, EdgeR S (seg Q lo k) → ∀ i, i < k → ∀ s ∈ S, 0 ≤ tn (Q (lo + i)) (Q (lo + i + 1)) s
  | 0, _, i, hi => by omega
  | k + 1, h, i, hi => by
    rw [seg] at h
    obtain ⟨r, e⟩ := seg_cons Q lo k
    rw [e] at h
    by_cases hk : i = k
    · subst hk; exact h.1
    · exact seg_edge' (k := k) (by rw [e]; exact h.2) i (by omega)
theorem seg_map (f : Pt → Pt) (Q : Nat → Pt) (lo : Nat) : ∀ k, (seg Q lo k).map f = seg (fun i => f (Q i)) lo k
  | 0 => rfl
  | k + 1 => by rw [seg, List.map_cons, seg_map f Q lo k, seg]
theorem seg_congr {Q Q' : Nat → Pt} {lo : Nat} : ∀ {k}, (∀ i, i ≤ k → Q (lo + i) = Q' (lo + i)) → seg Q lo k = seg Q' lo k
  | 0, h => by simpa [seg] using h 0 (by omega)
  | k + 1, h => by rw [seg, seg, seg_congr (k := k) fun i hi => h i (by omega), Nat.add_assoc, h (k + 1) (by omega)]
/-- Each stack is one by index. -/
theorem seg_of (st : List Pt) (h : st ≠ []) : ∃ Q, st = seg Q 0 (st.length - 1) := by
  refine ⟨fun i => st.reverse.getD i (0, 0), ?_⟩
  have hl : 0 < st.length := List.length_pos_iff.2 h
  have := seg_rev (fun i => st.reverse.getD i (0, 0)) 0 (st.length - 1)
  rw [← List.reverse_inj, this, show st.length - 1 + 1 = st.length by omega]
  refine List.ext_getElem (by simp) fun i h1 h2 => ?_
  simp only [List.length_reverse] at h1
  simp [List.getD, h1]

/-! ### The upper side is the lower side of the mirrored points -/
def ng (a : Pt) : Pt := (-a.1, -a.2)
theorem ng_ng (a : Pt) : ng (ng a) = a := by simp [ng]
theorem ng_inj {a b : Pt} (h : ng a = ng b) : a = b := by rw [← ng_ng a, h, ng_ng]
theorem tn_ng (a b c : Pt) : tn (ng a) (ng b) (ng c) = tn a b c := by unfold tn cr sb ng; grind
theorem lx_ng {a b : Pt} : lx (ng a) (ng b) ↔ lx b a := by unfold lx ng; simp only; omega
theorem ng_mem {a : Pt} {S : List Pt} : ng a ∈ S.map ng ↔ a ∈ S := by
  rw [List.mem_map]
  exact ⟨fun ⟨b, hb, e⟩ => ng_inj e ▸ hb, fun h => ⟨a, h, rfl⟩⟩
theorem map_ng_ng (l : List Pt) : (l.map ng).map ng = l := by
  rw [List.map_map]
  have : (ng ∘ ng) = id := funext ng_ng
  rw [this, List.map_id]

theorem pushC_map {α β : Type} {t : α → α → α → Int} {t' : β → β → β → Int} (f : α → β) (h : ∀ a b c, t' (f a) (f b) (f c) = t a b c) (x : α) : ∀ st, (pushC t st x).map f = pushC t' (st.map f) (f x)
  | [] => rfl
  | [_] => rfl
  | b :: a :: r => by
    rw [pushC, List.map_cons, List.map_cons, pushC, h]
    split
    · rw [pushC_map f h x (a :: r), List.map_cons]
    · rfl
theorem foldC_map {α β : Type} {t : α → α → α → Int} {t' : β → β → β → Int} (f : α → β) (h : ∀ a b c, t' (f a) (f b) (f c) = t a b c)   : ∀ (l st : List α), (l.foldl (pushC t) st).map f = (l.map f).foldl (pushC t') (st.map f)
  | [], _ => rfl
  | x :: l, st => by rw [List.foldl_cons, foldC_map f h l, pushC_map f h, List.map_cons, List.foldl_cons]
theorem chainR_map {α β : Type} {t : α → α → α → Int} {t' : β → β → β → Int} (f : α → β) (h : ∀ a b c, t' (f a) (f b) (f c) = t a b c) (l : List α) : (chainR t l).map f = chainR t' (l.map f) := foldC_map f h l []
theorem hullOf_map {α β : Type} {t : α → α → α → Int} {t' : β → β → β → Int} (f : α → β) (h : ∀ a b c, t' (f a) (f b) (f c) = t a b c) (l : List α) : (hullOf t l).map f = hullOf t' (l.map f) := by
  unfold hullOf
  rw [List.map_append, List.map_dropLast, List.map_dropLast, List.map_reverse, List.map_reverse, chainR_map f h, chainR_map f h, List.map_reverse]
theorem pushC_length {α : Type} {t : α → α → α → Int} (x : α) : ∀ st, (pushC t st x).length ≤ st.length + 1
  | [] => by simp [pushC]
  | [_] => by simp [pushC]
  | b :: a :: r => by
    rw [pushC]
    split
    · have := pushC_length (t := t) x (a :: r)
      simp only [List.length_cons] at this ⊢; omega
    · simp
theorem foldC_length {α : Type} {t : α → α → α → Int} : ∀ (l st : List α), (l.foldl (pushC t) st).length ≤ st.length + l.length
  | [], st => by simp
  | x :: l, st => by
    have h1 := foldC_length (t := t) l (pushC t st x)
    have h2 := pushC_length (t := t) x st
    simp only [List.foldl_cons, List.length_cons] at *; omega
theorem hullOf_length {α : Type} (t : α → α → α → Int) (l : List α) : (hullOf t l).length ≤ 2 * (l.length - 1) := by
  have h1 := foldC_length (t := t) l []
  have h2 := foldC_length (t := t) l.reverse []
  simp only [hullOf, List.length_append, List.length_dropLast, List.length_reverse, chainR, List.length_nil] at *; omega

theorem pairwise_last {x : Pt} : ∀ {S : List Pt}, (x :: S).Pairwise lx → ∀ s ∈ x :: S, s = (x :: S).getLast (by simp) ∨ lx s ((x :: S).getLast (by simp))
  | [], _, s, hs => .inl (by simpa using hs)
  | y :: S, h, s, hs => by
    have hp := List.pairwise_cons.1 h
    rw [List.getLast_cons (by simp)]
    rcases List.mem_cons.1 hs with rfl | hs
    · rcases pairwise_last hp.2 y (by simp) with e | e
      · rw [← e]; exact .inr (hp.1 y (by simp))
      · exact .inr ((hp.1 y (by simp)).trans e)
    · exact pairwise_last hp.2 s hs

/-- Both sides of the hull of points in order. -/
theorem sides_ok (S : List Pt) (h : S ≠ []) (hp : S.Pairwise lx) : ∃ mn mx, Hul S (chainR tn S) mn mx ∧ Hul (S.map ng) ((chainR tn S.reverse).map ng) (ng mx) (ng mn) ∧ mn ∈ S ∧ mx ∈ S ∧ (∀ s ∈ S, s = mx ∨ lx s mx) := by
  obtain ⟨x, S', rfl⟩ := List.exists_cons_of_ne_nil h
  have h1 := chain_ok x S' hp
  have hlast := pairwise_last hp
  generalize hmx : (x :: S').getLast (by simp) = mx at *
  have hmxS : mx ∈ x :: S' := by rw [← hmx]; exact List.getLast_mem _
  have hrev : ((x :: S').reverse.map ng).Pairwise lx := by
    rw [List.pairwise_map, List.pairwise_reverse]
    exact hp.imp fun h => lx_ng.2 h
  have hne : (x :: S').reverse.map ng ≠ [] := by simp
  obtain ⟨y, R, hR⟩ := List.exists_cons_of_ne_nil hne
  rw [hR] at hrev
  have h2 := chain_ok y R hrev
  have hy : y = ng mx := by
    have e : ((x :: S').reverse.map ng).head? = some (ng mx) := by
      rw [List.head?_map, List.head?_reverse, List.getLast?_eq_some_getLast (by simp), hmx]; rfl
    rw [hR] at e
    simpa using e
  have hl : (y :: R).getLast (by simp) = ng x := by
    have e : ((x :: S').reverse.map ng).getLast? = some (ng x) := by
      rw [List.getLast?_map, List.getLast?_reverse]; rfl
    rw [hR, List.getLast?_eq_some_getLast (by simp)] at e
    simpa using e
  rw [hl, ← hR, ← chainR_map ng tn_ng, hy] at h2
  have hmem : ∀ a, a ∈ (x :: S').reverse.map ng ↔ a ∈ (x :: S').map ng := fun a => by simp only [List.mem_map, List.mem_reverse]
  exact ⟨x, mx, h1, ⟨h2.desc, h2.conv, h2.edge.mono fun s hs => (hmem s).2 hs, h2.low, h2.high, fun a ha => (hmem a).1 (h2.sub a ha), fun s hs => h2.least s ((hmem s).2 hs)⟩, by simp, hmxS, hlast⟩

end Go.Proofs.YthdonnkekggbbaaGreatDoor

/- Plain geometry of the plane: a polygon told by its turns is the hull of its corners. No program in sight. Conditions: none. -/
namespace Go.Proofs.YthdonnkekggbbaaGreatDoor
set_option linter.unusedVariables false
set_option linter.unusedSimpArgs false
set_option maxRecDepth 100000

/-- What the program asks of a polygon: all turns go to the left, the first corner is the least one, the triangles at it go around. -/
structure Fan (n : Nat) (P : Nat → Pt) : Prop where
  n3 : 3 ≤ n
  first : ∀ k, 0 < k → k < n → lx (P 0) (P k)
  fan : ∀ k, 0 < k → k + 1 < n → 0 < tn (P 0) (P k) (P (k + 1))
  loc : ∀ k, k < n → 0 < tn (P k) (P ((k + 1) % n)) (P ((k + 2) % n))

def cyc (n : Nat) (P : Nat → Pt) (i : Nat) : Pt := P (i % n)
theorem cyc_lt {n : Nat} {P : Nat → Pt} {i : Nat} (h : i < n) : cyc n P i = P i := by rw [cyc, Nat.mod_eq_of_lt h]
theorem cyc_n {n : Nat} {P : Nat → Pt} : cyc n P n = P 0 := by rw [cyc, Nat.mod_self]
theorem cyc_n1 {n : Nat} {P : Nat → Pt} (h : 1 < n) : cyc n P (n + 1) = P 1 := by rw [cyc, Nat.add_mod_left, Nat.mod_eq_of_lt h]
theorem Fan.turn {n : Nat} {P : Nat → Pt} (h : Fan n P) {k : Nat} (hk : k < n) : 0 < tn (cyc n P k) (cyc n P (k + 1)) (cyc n P (k + 2)) := by
  rw [cyc_lt hk]; exact h.loc k hk
theorem Fan.in3 {n : Nat} {P : Nat → Pt} (h : Fan n P) {k : Nat} (hk : k + 2 < n) : 0 < tn (P k) (P (k + 1)) (P (k + 2)) := by
  have := h.turn (k := k) (by omega)
  rwa [cyc_lt (by omega), cyc_lt (by omega), cyc_lt hk] at this

theorem tn_brk (o a b c : Pt) : tn a b c = cr (sb a o) (sb b o) + cr (sb b o) (sb c o) - cr (sb a o) (sb c o) := by unfold tn cr sb; grind
theorem pluck (a b c d : Pt) : cr a c * cr b d = cr a b * cr c d + cr a d * cr b c := by unfold cr; grind
theorem plk {a b c d e f : Int} (hp : d * e = a * c + f * b) (ha : 0 < a) (hb : 0 < b) (hc : 0 < c) (hd : 0 < d) (he : 0 < e) (t1 : d < a + b) (t2 : e < b + c) : f < a + e ∧ f < d + c := by
  have m1 : d * e < (a + b) * e := Int.mul_lt_mul_of_pos_right t1 he
  have m2 : a * e < a * (b + c) := Int.mul_lt_mul_of_pos_left t2 ha
  have m3 : d * e < d * (b + c) := Int.mul_lt_mul_of_pos_left t2 hd
  have m4 : d * c < (a + b) * c := Int.mul_lt_mul_of_pos_right t1 hc
  constructor
  · have : b * f < b * (a + e) := by
      have e1 : b * f = d * e - a * c := by rw [hp, Int.mul_comm b f]; omega
      have e2 : (a + b) * e = a * e + b * e := by rw [Int.add_mul]
      have e3 : a * (b + c) = a * b + a * c := by rw [Int.mul_add]
      have e4 : b * (a + e) = a * b + b * e := by rw [Int.mul_add, Int.mul_comm b a]
      omega
    exact Int.lt_of_mul_lt_mul_left this (by omega)
  · have : b * f < b * (d + c) := by
      have e1 : b * f = d * e - a * c := by rw [hp, Int.mul_comm b f]; omega
      have e2 : d * (b + c) = b * d + d * c := by rw [Int.mul_add, Int.mul_comm d b]
      have e3 : (a + b) * c = a * c + b * c := by rw [Int.add_mul]
      have e4 : b * (d + c) = b * d + b * c := by rw [Int.mul_add]
      omega
    exact Int.lt_of_mul_lt_mul_left this (by omega)

/-- The corners go around the first one. -/
theorem Fan.around {n : Nat} {P : Nat → Pt} (h : Fan n P) : ∀ d i, 0 < i → i + 1 + d < n → 0 < cr (sb (P i) (P 0)) (sb (P (i + 1 + d)) (P 0)) := by
  intro d
  induction d with
  | zero => intro i h0 h1; exact h.fan i h0 h1
  | succ d ih =>
    intro i h0 h1
    exact slope_lt_le (h.first i h0 (by omega)).pos (h.first (i + 1 + d) (by omega) (by omega)).pos (h.first (i + 1 + (d + 1)) (by omega) h1).pos (ih i h0 (by omega)) (Int.le_of_lt (h.fan (i + 1 + d) (by omega) (by omega)))
theorem Fan.brk {n : Nat} {P : Nat → Pt} (h : Fan n P) {i j : Nat} (h0 : 0 < i) (h1 : i < j) (h2 : j < n) : 0 < cr (sb (P i) (P 0)) (sb (P j) (P 0)) := by
  have := h.around (j - i - 1) i h0 (by omega)
  rwa [show i + 1 + (j - i - 1) = j by omega] at this

theorem Fan.step {n : Nat} {P : Nat → Pt} (h : Fan n P) : ∀ i j k l, 1 ≤ i → i < j → j < k → k < l → l ≤ n - 1 → 0 < tn (P i) (P j) (P k) → 0 < tn (P j) (P k) (P l) → 0 < tn (P i) (P j) (P l) ∧ 0 < tn (P i) (P k) (P l) := by
  intro i j k l h1 h2 h3 h4 h5 t1 t2
  rw [tn_brk (P 0)] at t1 t2 ⊢
  rw [tn_brk (P 0) (P i) (P k) (P l)]
  have hp := pluck (sb (P i) (P 0)) (sb (P j) (P 0)) (sb (P k) (P 0)) (sb (P l) (P 0))
  have := plk hp (h.brk (by omega) h2 (by omega)) (h.brk (by omega) h3 (by omega)) (h.brk (by omega) h4 (by omega)) (h.brk (i := i) (j := k) (by omega) (by omega) (by omega)) (h.brk (i := j) (j := l) (by omega) (by omega) (by omega)) (by omega) (by omega)
  omega

/-- No corner lies to the right of a side. -/
theorem Fan.left {n : Nat} {P : Nat → Pt} (h : Fan n P) {i s : Nat} (hi : i < n) (hs : s < n) (h1 : s ≠ i) (h2 : s ≠ (i + 1) % n) : 0 < tn (cyc n P i) (cyc n P (i + 1)) (P s) := by
  have h3 := h.n3
  by_cases e0 : i = 0
  · subst e0
    rw [Nat.mod_eq_of_lt (by omega)] at h2
    rw [cyc_lt hi, cyc_lt (by omega)]
    exact h.brk (i := 1) (j := s) (by omega) (by omega) hs
  · by_cases en : i + 1 = n
    · rw [en, cyc_n, cyc_lt hi, tn_rot (P i)]
      rw [en, Nat.mod_self] at h2
      exact h.brk (i := s) (j := i) (by omega) (by omega) hi
    · rw [Nat.mod_eq_of_lt (by omega)] at h2
      rw [cyc_lt hi, cyc_lt (by omega)]
      by_cases es : s = 0
      · subst es
        rw [← tn_rot]
        exact h.fan i (by omega) (by omega)
      · have H0 : ∀ i, 1 ≤ i → i + 2 ≤ n - 1 → 0 < tn (P i) (P (i + 1)) (P (i + 2)) := fun i _ hi => h.in3 (by omega)
        by_cases hlt : s < i
        · rw [← tn_rot]
          exact span_last (T := fun i j k => 0 < tn (P i) (P j) (P k)) H0 h.step (by omega) hlt (by omega)
        · exact span_first (T := fun i j k => 0 < tn (P i) (P j) (P k)) H0 h.step (by omega) (by omega) (by omega)
theorem Fan.left' {n : Nat} {P : Nat → Pt} (h : Fan n P) {i s : Nat} (hi : i < n) (hs : s < n) : 0 ≤ tn (cyc n P i) (cyc n P (i + 1)) (P s) := by
  by_cases h1 : s = i
  · subst h1; rw [cyc_lt hi, tn_aab]; omega
  · by_cases h2 : s = (i + 1) % n
    · rw [h2]
      show 0 ≤ tn _ (P ((i + 1) % n)) _
      rw [tn_abb]; omega
    · exact Int.le_of_lt (h.left hi hs h1 h2)

/-- The corners go up, then down. -/
theorem Fan.valley {n : Nat} {P : Nat → Pt} (h : Fan n P) {j : Nat} (h0 : 2 ≤ j) (h1 : j + 1 < n) (hd : lx (P j) (P (j - 1))) : lx (P (j + 1)) (P j) := by
  rcases lx_total (P j) (P (j + 1)) with e | e | e
  · exfalso
    have p0 := h.first j (by omega) (by omega)
    have t1 := h.in3 (k := j - 1) (by omega)
    rw [show j - 1 + 1 = j by omega, show j - 1 + 2 = j + 1 by omega] at t1
    have t2 := h.fan (j - 1) (by omega) (by omega)
    rw [show j - 1 + 1 = j by omega] at t2
    have t3 := h.fan j (by omega) h1
    have c1 : 0 < cr (sb (P (j + 1)) (P j)) (sb (P (j - 1)) (P j)) := by
      rw [tn_rot] at t1; exact t1
    have c2 : 0 < cr (sb (P (j - 1)) (P j)) (sb (P j) (P 0)) := by
      have e2 : tn (P 0) (P (j - 1)) (P j) = cr (sb (P (j - 1)) (P j)) (sb (P j) (P 0)) := by unfold tn cr sb; grind
      rw [← e2]; exact t2
    have c3 : 0 < cr (sb (P j) (P 0)) (sb (P (j + 1)) (P j)) := by rw [← tn_step]; exact t3
    have := slope_lt_le e.pos hd.pos p0.pos c1 (by omega)
    rw [cr_anti] at this
    omega
  · exfalso
    have := h.turn (k := j) (by omega)
    rw [cyc_lt (by omega), cyc_lt h1, ← e, tn_aac] at this
    omega
  · exact e
theorem Fan.uni {n : Nat} {P : Nat → Pt} (h : Fan n P) : ∃ m, 0 < m ∧ m < n ∧ (∀ i, i < m → lx (cyc n P i) (cyc n P (i + 1))) ∧ ∀ i, m ≤ i → i < n → lx (cyc n P (i + 1)) (cyc n P i) := by
  have h3 := h.n3
  have hup : lx (P 0) (P 1) := h.first 1 (by omega) (by omega)
  have key : ∀ t, 1 ≤ t → t ≤ n → (∀ i, i < t → lx (cyc n P i) (cyc n P (i + 1))) ∨ ∃ m, 0 < m ∧ m < t ∧ (∀ i, i < m → lx (cyc n P i) (cyc n P (i + 1))) ∧ ∀ i, m ≤ i → i < t → lx (cyc n P (i + 1)) (cyc n P i) := by
    intro t
    induction t with
    | zero => intro h1; omega
    | succ t ih =>
      intro _ ht
      by_cases ht0 : t = 0
      · subst ht0
        refine .inl fun i hi => ?_
        obtain rfl : i = 0 := by omega
        rw [cyc_lt (by omega), cyc_lt (by omega)]
        exact hup
      rcases ih (by omega) (by omega) with ha | ⟨m, m0, m1, m2, m3⟩
      · rcases lx_total (cyc n P t) (cyc n P (t + 1)) with e | e | e
        · refine .inl fun i hi => ?_
          by_cases hi' : i = t
          · subst hi'; exact e
          · exact ha i (by omega)
        · exfalso
          have := h.turn (k := t) (by omega)
          rw [← e, tn_aac] at this
          omega
        · refine .inr ⟨t, by omega, by omega, ha, fun i h1 h2 => ?_⟩
          obtain rfl : i = t := by omega
          exact e
      · refine .inr ⟨m, m0, by omega, m2, fun i h1 h2 => ?_⟩
        by_cases hi' : i < t
        · exact m3 i h1 hi'
        · obtain rfl : i = t := by omega
          by_cases hn : i + 1 = n
          · rw [hn, cyc_n, cyc_lt (by omega)]
            exact h.first i (by omega) (by omega)
          · have hd := m3 (i - 1) (by omega) (by omega)
            rw [show i - 1 + 1 = i by omega, cyc_lt (by omega), cyc_lt (by omega)] at hd
            rw [cyc_lt (by omega), cyc_lt (by omega)]
            exact h.valley (by omega) (by omega) hd
  rcases key n (by omega) (Nat.le_refl _) with ha | ⟨m, m0, m1, m2, m3⟩
  · exfalso
    have h1 := ha (n - 1) (by omega)
    rw [show n - 1 + 1 = n by omega, cyc_n, cyc_lt (by omega)] at h1
    exact (h1.trans (h.first (n - 1) (by omega) (by omega))).irrefl
  · exact ⟨m, m0, m1, m2, m3⟩

theorem up_all {Q : Nat → Pt} {m : Nat} (h : ∀ i, i < m → lx (Q i) (Q (i + 1))) : ∀ d i, i + d ≤ m → Q i = Q (i + d) ∨ lx (Q i) (Q (i + d))
  | 0, i, _ => .inl rfl
  | d + 1, i, hi => by
    have h1 := h (i + d) (by omega)
    rcases up_all h d i (by omega) with e | e
    · rw [e]; exact .inr h1
    · exact .inr (e.trans h1)

theorem lx_antisymm {a b : Pt} (h1 : a = b ∨ lx a b) (h2 : b = a ∨ lx b a) : a = b := by
  rcases h1 with h1 | h1
  · exact h1
  · rcases h2 with h2 | h2
    · exact h2.symm
    · exact absurd (h1.trans h2) fun h => h.irrefl

/-- A polygon is its own hull. -/
theorem Fan.hull {n : Nat} {P : Nat → Pt} (h : Fan n P) {S : List Pt} (hp : S.Pairwise lx) (hm : ∀ a, a ∈ S ↔ ∃ i, i < n ∧ a = P i) : hullOf tn S = (List.range n).map P := by
  have h3 := h.n3
  have hne : S ≠ [] := fun e => by
    have := (hm (P 0)).2 ⟨0, by omega, rfl⟩
    rw [e] at this; simp at this
  obtain ⟨mn, mx, hL, hU, hmn, hmx, hgr⟩ := sides_ok S hne hp
  obtain ⟨m, m0, m1, m2, m3⟩ := h.uni
  have hQS : ∀ i, cyc n P i ∈ S := fun i => (hm _).2 ⟨i % n, Nat.mod_lt _ (by omega), rfl⟩
  have hmn0 : mn = P 0 := by
    obtain ⟨i, hi, e⟩ := (hm mn).1 hmn
    have h1 := hL.least (P 0) ((hm _).2 ⟨0, by omega, rfl⟩)
    refine lx_antisymm (by rcases h1 with h1 | h1; exact .inl h1.symm; exact .inr h1) ?_
    by_cases hi0 : i = 0
    · subst hi0; exact .inl e.symm
    · rw [e]; exact .inr (h.first i (by omega) hi)
  have hmx0 : mx = P m := by
    obtain ⟨i, hi, e⟩ := (hm mx).1 hmx
    refine lx_antisymm ?_ ?_
    · rw [e]
      by_cases him : i ≤ m
      · have := up_all m2 (m - i) i (by omega)
        rw [show i + (m - i) = m by omega, cyc_lt hi, cyc_lt m1] at this
        exact this
      · have := up_all (Q := fun j => cyc n P (n - j)) (m := n - m) (fun j hj => by
          have := m3 (n - (j + 1)) (by omega) (by omega)
          rwa [show n - (j + 1) + 1 = n - j by omega] at this) (i - m) (n - i) (by omega)
        rw [show n - (n - i) = i by omega, show n - (n - i + (i - m)) = m by omega, cyc_lt hi, cyc_lt m1] at this
        exact this
    · rcases hgr (P m) ((hm _).2 ⟨m, m1, rfl⟩) with e | e
      · exact .inl e
      · exact .inr e
  have eL : chainR tn S = seg (cyc n P) 0 m := by
    refine chain_uniq _ _ hL.desc (seg_desc fun i hi => by simpa using m2 i hi) hL.conv (seg_conv fun i hi => by simpa using h.turn (k := i) (by omega)) ?_ ?_ (hL.edge.mono fun s hs => ?_) (seg_edge fun i hi s hs => ?_)
    · rw [hL.high, seg_head, Nat.zero_add, cyc_lt m1, hmx0]
    · rw [hL.low, seg_last, cyc_lt (by omega), hmn0]
    · obtain ⟨i, _, e⟩ := seg_mem.1 hs
      rw [e]; exact hQS _
    · obtain ⟨j, hj, e⟩ := (hm s).1 (hL.sub s hs)
      rw [e, Nat.zero_add]
      exact h.left' (by omega) hj
  have eU : (chainR tn S.reverse).map ng = (seg (cyc n P) m (n - m)).map ng := by
    rw [seg_map]
    refine chain_uniq _ _ hU.desc (seg_desc fun i hi => lx_ng.2 (m3 (m + i) (by omega) (by omega))) hU.conv (seg_conv fun i hi => by rw [tn_ng]; exact h.turn (k := m + i) (by omega)) ?_ ?_ (hU.edge.mono fun s hs => ?_) (seg_edge fun i hi s hs => ?_)
    · rw [hU.high, seg_head, show m + (n - m) = n by omega, cyc_n, hmn0]
    · rw [hU.low, seg_last, cyc_lt m1, hmx0]
    · obtain ⟨i, _, e⟩ := seg_mem.1 hs
      rw [e]; exact ng_mem.2 (hQS _)
    · have h1 := hU.sub s hs
      rw [List.mem_map] at h1
      obtain ⟨a, ha, rfl⟩ := h1
      obtain ⟨j, hj, e⟩ := (hm a).1 ha
      rw [tn_ng, e]
      exact h.left' (by omega) hj
  have eU' : chainR tn S.reverse = seg (cyc n P) m (n - m) := by
    rw [← map_ng_ng (chainR tn S.reverse), eU, map_ng_ng]
  unfold hullOf
  rw [eL, eU', seg_drop, seg_drop]
  refine List.ext_getElem (by simp; omega) fun i h1 h2 => ?_
  simp only [List.length_map, List.length_range] at h2
  rw [List.getElem_append]
  split
  · simp [cyc_lt h2]
  · rename_i hi
    simp only [List.length_map, List.length_range] at hi
    simp only [List.getElem_map, List.getElem_range, List.length_map, List.length_range]
    rw [show m + (i - m) = i by omega, cyc_lt h2]

end Go.Proofs.YthdonnkekggbbaaGreatDoor

/- Plain geometry of the plane: a hull of three corners or more is a polygon as the program asks it. No program in sight. Conditions: none. -/
namespace Go.Proofs.YthdonnkekggbbaaGreatDoor
set_option linter.unusedVariables false
set_option linter.unusedSimpArgs false
set_option maxRecDepth 100000

theorem up_lt {Q : Nat → Pt} {m : Nat} (h : ∀ i, i < m → lx (Q i) (Q (i + 1))) {i j : Nat} (hij : i < j) (hj : j ≤ m) : lx (Q i) (Q j) := by
  rcases up_all h (j - (i + 1)) (i + 1) (by omega) with e | e
  · rw [show i + 1 + (j - (i + 1)) = j by omega] at e
    rw [← e]; exact h i (by omega)
  · rw [show i + 1 + (j - (i + 1)) = j by omega] at e
    exact (h i (by omega)).trans e
theorem conv_step {Q : Nat → Pt} {m : Nat} (h : ∀ i, i < m → lx (Q i) (Q (i + 1))) : ∀ i j k l, 0 ≤ i → i < j → j < k → k < l → l ≤ m → 0 < tn (Q i) (Q j) (Q k) → 0 < tn (Q j) (Q k) (Q l) → 0 < tn (Q i) (Q j) (Q l) ∧ 0 < tn (Q i) (Q k) (Q l) :=
  fun i j k l _ h2 h3 h4 h5 t1 t2 => turns_trans (up_lt h h2 (by omega)) (up_lt h h3 (by omega)) (up_lt h h4 h5) t1 t2

theorem junction {S : List Pt} {A B : Nat → Pt} {m t : Nat} (hm : 1 ≤ m) (ht : 1 ≤ t) (hn : 3 ≤ m + t) (asc : ∀ i, i < m → lx (A i) (A (i + 1))) (desc : ∀ i, i < t → lx (B (i + 1)) (B i))
    (cA : ∀ i, i + 2 ≤ m → 0 < tn (A i) (A (i + 1)) (A (i + 2))) (cB : ∀ i, i + 2 ≤ t → 0 < tn (B i) (B (i + 1)) (B (i + 2)))
    (eA : ∀ i, i < m → ∀ s ∈ S, 0 ≤ tn (A i) (A (i + 1)) s) (eB : ∀ i, i < t → ∀ s ∈ S, 0 ≤ tn (B i) (B (i + 1)) s)
    (mA : ∀ i, i ≤ m → A i ∈ S) (mB : ∀ i, i ≤ t → B i ∈ S) (hx : A m = B 0) : 0 < tn (A (m - 1)) (A m) (B 1) := by
  have h0 := eA (m - 1) (by omega) (B 1) (mB 1 ht)
  rw [show m - 1 + 1 = m by omega] at h0
  by_cases hz : tn (A (m - 1)) (A m) (B 1) = 0
  · exfalso
    have la : lx (A (m - 1)) (A m) := by have := asc (m - 1) (by omega); rwa [show m - 1 + 1 = m by omega] at this
    have lb : lx (B 1) (A m) := by rw [hx]; exact desc 0 (by omega)
    rw [tn_back] at hz
    have key : ∀ s, s ∈ S → lx s (A m) → cr (sb (A m) (B 1)) (sb (A m) s) = 0 := fun s hs hlt => by
      have e1 := eA (m - 1) (by omega) s hs
      rw [show m - 1 + 1 = m by omega, tn_back] at e1
      have e2 := eB 0 (by omega) s hs
      rw [← hx] at e2
      have e3 : tn (A m) (B (0 + 1)) s = cr (sb (A m) (B 1)) (sb (A m) s) := by unfold tn cr sb; grind
      rw [e3] at e2
      have e4 := slope_trans hlt.pos la.pos lb.pos e1 (by rw [cr_anti]; omega)
      rw [cr_anti] at e4
      omega
    by_cases h2 : 2 ≤ m
    · have t1 := cA (m - 2) (by omega)
      rw [show m - 2 + 1 = m - 1 by omega, show m - 2 + 2 = m by omega] at t1
      have lc : lx (A (m - 2)) (A m) := up_lt asc (by omega) (Nat.le_refl _)
      have k1 := key _ (mA (m - 2) (by omega)) lc
      have e5 := slope_trans la.pos lb.pos lc.pos (by rw [cr_anti]; omega) (by omega)
      have e6 : tn (A (m - 2)) (A (m - 1)) (A m) = - cr (sb (A m) (A (m - 1))) (sb (A m) (A (m - 2))) := by unfold tn cr sb; grind
      omega
    · have t1 := cB 0 (by omega)
      have lc : lx (B 2) (A m) := by rw [hx]; exact (desc 1 (by omega)).trans (desc 0 (by omega))
      have k1 := key _ (mB 2 (by omega)) lc
      have e6 : tn (B 0) (B (0 + 1)) (B (0 + 2)) = cr (sb (A m) (B 1)) (sb (A m) (B 2)) := by rw [hx]; unfold tn cr sb; grind
      omega
  · omega

/-- A hull of three corners or more is a polygon. -/
theorem hull_fan {S : List Pt} (hp : S.Pairwise lx) {n : Nat} {P : Nat → Pt} (h3 : 3 ≤ n) (he : hullOf tn S = (List.range n).map P) : Fan n P := by
  have hne : S ≠ [] := fun e => by
    have := congrArg List.length he
    rw [e] at this
    simp [hullOf, chainR] at this
    omega
  obtain ⟨mn, mx, hL, hU, hmn, hmx, hgr⟩ := sides_ok S hne hp
  unfold hullOf at he
  have hLn : chainR tn S ≠ [] := fun e => by have := hL.high; rw [e] at this; simp at this
  have hUn : chainR tn S.reverse ≠ [] := fun e => by have := hU.high; rw [e] at this; simp at this
  obtain ⟨A, heA⟩ := seg_of _ hLn
  obtain ⟨B, heB⟩ := seg_of _ hUn
  generalize (chainR tn S).length - 1 = m at heA
  generalize (chainR tn S.reverse).length - 1 = t at heB
  rw [heA] at hL he
  rw [heB] at hU he
  rw [seg_map] at hU
  rw [seg_drop, seg_drop] at he
  simp only [Nat.zero_add] at he
  have A0 : A 0 = mn := by have := hL.low; rw [seg_last] at this; simpa using this
  have Am : A m = mx := by have := hL.high; rw [seg_head] at this; simpa using this
  have B0 : B 0 = mx := by have := hU.low; rw [seg_last] at this; exact ng_inj (by simpa using this)
  have Bt : B t = mn := by have := hU.high; rw [seg_head] at this; exact ng_inj (by simpa using this)
  have asc : ∀ i, i < m → lx (A i) (A (i + 1)) := fun i hi => by have := seg_desc' hL.desc i hi; simpa using this
  have desc : ∀ i, i < t → lx (B (i + 1)) (B i) := fun i hi => by have := seg_desc' hU.desc i hi; simp only [Nat.zero_add] at this; exact lx_ng.1 this
  have cA : ∀ i, i + 2 ≤ m → 0 < tn (A i) (A (i + 1)) (A (i + 2)) := fun i hi => by have := seg_conv' hL.conv i hi; simpa using this
  have cB : ∀ i, i + 2 ≤ t → 0 < tn (B i) (B (i + 1)) (B (i + 2)) := fun i hi => by have := seg_conv' hU.conv i hi; simp only [Nat.zero_add, tn_ng] at this; exact this
  have eA : ∀ i, i < m → ∀ s ∈ S, 0 ≤ tn (A i) (A (i + 1)) s := fun i hi s hs => by have := seg_edge' hL.edge i hi s hs; simpa using this
  have eB : ∀ i, i < t → ∀ s ∈ S, 0 ≤ tn (B i) (B (i + 1)) s := fun i hi s hs => by have := seg_edge' hU.edge i hi (ng s) (ng_mem.2 hs); simp only [Nat.zero_add, tn_ng] at this; exact this
  have mA : ∀ i, i ≤ m → A i ∈ S := fun i hi => hL.sub _ (seg_mem.2 ⟨i, hi, by rw [Nat.zero_add]⟩)
  have mB : ∀ i, i ≤ t → B i ∈ S := fun i hi => ng_mem.1 (hU.sub _ (seg_mem.2 ⟨i, hi, by rw [Nat.zero_add]⟩))
  have hlen : m + t = n := by have := congrArg List.length he; simpa using this
  have hm1 : 1 ≤ m := by
    by_cases h0 : m = 0
    · exfalso
      subst h0
      have := up_lt (Q := fun j => B (t - j)) (m := t) (fun j hj => by
        have := desc (t - (j + 1)) (by omega)
        rwa [show t - (j + 1) + 1 = t - j by omega] at this) (i := 0) (j := t) (by omega) (Nat.le_refl _)
      simp only [Nat.sub_zero, Nat.sub_self] at this
      rw [Bt, B0, ← A0, ← Am] at this
      exact this.irrefl
    · omega
  have ht1 : 1 ≤ t := by
    by_cases h0 : t = 0
    · exfalso
      subst h0
      have := up_lt asc (i := 0) (j := m) (by omega) (Nat.le_refl _)
      rw [A0, Am, ← Bt, ← B0] at this
      exact this.irrefl
    · omega
  have PA : ∀ k, k < m → P k = A k := fun k hk => by
    have := congrArg (fun l => l[k]?) he
    simp only [List.getElem?_append_left (show k < ((List.range m).map A).length by simpa using hk), List.getElem?_map, List.getElem?_range hk, List.getElem?_range (show k < n by omega), Option.map_some, Option.some.injEq] at this
    exact this.symm
  have PB : ∀ j, j < t → P (m + j) = B j := fun j hj => by
    have := congrArg (fun l => l[m + j]?) he
    simp only [List.getElem?_append_right (show ((List.range m).map A).length ≤ m + j by simp), List.getElem?_map, List.length_map, List.length_range, Nat.add_sub_cancel_left, List.getElem?_range hj, List.getElem?_range (show m + j < n by omega), Option.map_some, Option.some.injEq] at this
    exact this.symm
  have hC : ∀ i, i ≤ m → cyc n P i = A i := fun i hi => by
    rw [cyc_lt (by omega)]
    by_cases h : i < m
    · exact PA i h
    · obtain rfl : i = m := by omega
      have := PB 0 (by omega)
      rw [Nat.add_zero] at this
      rw [this, B0, Am]
  have hD : ∀ j, j ≤ t → cyc n P (m + j) = B j := fun j hj => by
    by_cases h : j < t
    · rw [cyc_lt (by omega)]; exact PB j h
    · obtain rfl : j = t := by omega
      rw [hlen, cyc_n, PA 0 (by omega), A0, Bt]
  have hE : cyc n P (n + 1) = A 1 := by rw [cyc_n1 (by omega), ← cyc_lt (n := n) (P := P) (show 1 < n by omega), hC 1 (by omega)]
  have J1 := junction hm1 ht1 (by omega) asc desc cA cB eA eB mA mB (Am.trans B0.symm)
  have J2 := junction (S := S.map ng) (A := fun i => ng (B i)) (B := fun i => ng (A i)) ht1 hm1 (by omega) (fun i hi => lx_ng.2 (desc i hi)) (fun i hi => lx_ng.2 (asc i hi))
    (fun i hi => by rw [tn_ng]; exact cB i hi) (fun i hi => by rw [tn_ng]; exact cA i hi)
    (fun i hi s hs => by obtain ⟨a, ha, rfl⟩ := List.mem_map.1 hs; rw [tn_ng]; exact eB i hi a ha) (fun i hi s hs => by obtain ⟨a, ha, rfl⟩ := List.mem_map.1 hs; rw [tn_ng]; exact eA i hi a ha)
    (fun i hi => ng_mem.2 (mB i hi)) (fun i hi => ng_mem.2 (mA i hi)) (congrArg ng (Bt.trans A0.symm))
  simp only [tn_ng] at J2
  refine ⟨h3, fun k hk0 hk => ?_, fun k hk0 hk => ?_, fun k hk => ?_⟩
  · rw [← cyc_lt (n := n) (P := P) hk, ← cyc_lt (n := n) (P := P) (show 0 < n by omega), hC 0 (by omega)]
    by_cases h : k ≤ m
    · rw [hC k h]; exact up_lt asc hk0 h
    · have e := hD (k - m) (by omega)
      rw [show m + (k - m) = k by omega] at e
      rw [e, A0, ← Bt]
      have := up_lt (Q := fun j => B (t - j)) (m := t) (fun j hj => by
        have := desc (t - (j + 1)) (by omega)
        rwa [show t - (j + 1) + 1 = t - j by omega] at this) (i := 0) (j := t - (k - m)) (by omega) (by omega)
      simp only [Nat.sub_zero] at this
      rwa [show t - (t - (k - m)) = k - m by omega] at this
  · rw [← cyc_lt (n := n) (P := P) (show k < n by omega), ← cyc_lt (n := n) (P := P) (show 0 < n by omega), ← cyc_lt (n := n) (P := P) hk, hC 0 (by omega)]
    by_cases h : k + 1 ≤ m
    · rw [hC k (by omega), hC (k + 1) h]
      exact span_last (T := fun i j k => 0 < tn (A i) (A j) (A k)) (lo := 0) (hi := m) (fun i _ hi => cA i hi) (conv_step asc) (Nat.zero_le _) hk0 h
    · have e := hD (k - m) (by omega)
      have e' := hD (k - m + 1) (by omega)
      rw [show m + (k - m) = k by omega] at e
      rw [show m + (k - m + 1) = k + 1 by omega] at e'
      rw [e, e', A0, ← Bt, tn_rot]
      -- downwards: the mirrored side read upwards
      have asc' : ∀ i, i < t → lx (ng (B i)) (ng (B (i + 1))) := fun i hi => lx_ng.2 (desc i hi)
      have := span_first (T := fun i j k => 0 < tn (ng (B i)) (ng (B j)) (ng (B k))) (lo := 0) (hi := t) (fun i _ hi => by rw [tn_ng]; exact cB i hi) (conv_step asc') (i := k - m) (k := t) (Nat.zero_le _) (by omega) (Nat.le_refl _)
      simp only [tn_ng] at this
      exact this
  · show 0 < tn (P k) (cyc n P (k + 1)) (cyc n P (k + 2))
    rw [← cyc_lt (n := n) (P := P) hk]
    by_cases h1 : k + 2 ≤ m
    · rw [hC k (by omega), hC (k + 1) (by omega), hC (k + 2) h1]; exact cA k h1
    · by_cases h2 : k + 1 = m
      · have e := hD 1 ht1
        rw [show k + 2 = m + 1 by omega, e, hC k (by omega), h2, hC m (Nat.le_refl _), show k = m - 1 by omega]
        exact J1
      · have e := hD (k - m) (by omega)
        rw [show m + (k - m) = k by omega] at e
        have e1 := hD (k - m + 1) (by omega)
        rw [show m + (k - m + 1) = k + 1 by omega] at e1
        by_cases h4 : k + 1 = n
        · rw [show k + 2 = n + 1 by omega, hE, e, e1, show k - m + 1 = t by omega, show k - m = t - 1 by omega]
          exact J2
        · have e2 := hD (k - m + 2) (by omega)
          rw [show m + (k - m + 2) = k + 2 by omega] at e2
          rw [e, e1, e2]
          exact cB (k - m) (by omega)

end Go.Proofs.YthdonnkekggbbaaGreatDoor

/- Contracts of turns: the cross product of two lists of two numbers, differences, the turn at three points, in the program and in the reference. Conditions: lists of two numbers, bounds. -/
namespace Go.Proofs.YthdonnkekggbbaaGreatDoor
open Go.RowKit
set_option linter.unusedVariables false
set_option linter.unusedSimpArgs false
set_option maxRecDepth 100000

def ptOf (x : List Int) : Pt := (nth x 0, nth x 1)
def turnZ (a b c : List Int) : Int := tn (ptOf a) (ptOf b) (ptOf c)
/-- A point of the plane within bounds. -/
structure PtIn (m : Int) (x : List Int) : Prop where
  len : x.length = 2
  x0 : -m ≤ nth x 0
  x1 : nth x 0 ≤ m
  y0 : -m ≤ nth x 1
  y1 : nth x 1 ≤ m
theorem PtIn.wide {m m' : Int} {x : List Int} (h : PtIn m x) (hm : m ≤ m') : PtIn m' x := ⟨h.len, by have := h.x0; omega, by have := h.x1; omega, by have := h.y0; omega, by have := h.y1; omega⟩
theorem mulIn {a b : Int} {m : Int} (hm : 0 ≤ m) (a0 : -m ≤ a) (a1 : a ≤ m) (b0 : -m ≤ b) (b1 : b ≤ m) : -(m * m) ≤ a * b ∧ a * b ≤ m * m := by
  have h : (a * b).natAbs ≤ (m * m).natAbs := by
    rw [Int.natAbs_mul, Int.natAbs_mul]
    exact Nat.mul_le_mul (by omega) (by omega)
  have h2 : 0 ≤ m * m := Int.mul_nonneg hm hm
  omega

theorem cross_any (p q : Option Addr) (c d : Nat) (xs ys : List Int) (w : World) (hx : Ints w p 2 xs) (hy : Ints w q 2 ys) (bx : PtIn 4000 xs) (by_ : PtIn 4000 ys) :
    Calls Tryz.prog 75 #[.slice p 2 c, .slice q 2 d] w fun e w' => e = .returned (.int .i64 (cr (ptOf xs) (ptOf ys))) ∧ ∃ z, w' = w.drewN z := by
  obtain ⟨b, o, rfl, hc0⟩ := hx.cell 0 (by omega)
  obtain ⟨b', o', e', hc1⟩ := hx.cell 1 (by omega)
  injection e' with e'; injection e' with e1 e2
  subst e1; subst e2
  obtain ⟨g, u, rfl, hd0⟩ := hy.cell 0 (by omega)
  obtain ⟨g', u', e', hd1⟩ := hy.cell 1 (by omega)
  injection e' with e'; injection e' with e1 e2
  subst e1; subst e2
  rw [Nat.add_zero] at hc0 hd0
  obtain ⟨_, a0, a1, a2, a3⟩ := bx
  obtain ⟨_, b0, b1, b2, b3⟩ := by_
  have hcr : cr (ptOf xs) (ptOf ys) = nth xs 0 * nth ys 1 - nth xs 1 * nth ys 0 := rfl
  have Hcr := Lib.hid hcr
  clear hcr
  generalize nth xs 0 = x0 at *
  generalize nth xs 1 = x1 at *
  generalize nth ys 0 = y0 at *
  generalize nth ys 1 = y1 at *
  obtain ⟨m1, m2⟩ := mulIn (m := 4000) (by omega) a0 a1 b2 b3
  obtain ⟨m3, m4⟩ := mulIn (m := 4000) (by omega) a2 a3 b0 b1
  generalize hA : x0 * y1 = A at *
  generalize hB : x1 * y0 = B at *
  have hw1 : wrap64 (x0 * y1) = A := by rw [hA]; exact wrap64_id (by omega) (by omega)
  have hw2 : wrap64 (x1 * y0) = B := by rw [hB]; exact wrap64_id (by omega) (by omega)
  have hk1 : IntKind.i64.wrap (x0 * y1) = A := by rw [wrapEq, hw1]
  have hk2 : IntKind.i64.wrap (x1 * y0) = B := by rw [wrapEq, hw2]
  have hk3 : IntKind.i64.wrap (A - B) = A - B := by rw [wrapEq]; exact wrap64_id (by omega) (by omega)
  clear hA hB hw1 hw2
  go_enter Tryz.func75, Tryz.ntmps75
  go_wp2
  go_quiet (fail)
  go_wp2
  go_ret
  exact ⟨ret_int (by rw [Hcr.out]), _, rfl⟩

theorem specCross_any (p q : Option Addr) (c d : Nat) (xs ys : List Int) (w : World) (hx : Ints w p 2 xs) (hy : Ints w q 2 ys) (bx : PtIn 4000 xs) (by_ : PtIn 4000 ys) :
    Calls Tryz.prog 85 #[.slice p 2 c, .slice q 2 d] w fun e w' => e = .returned (.int .i64 (cr (ptOf xs) (ptOf ys))) ∧ ∃ z, w' = w.drewN z := by
  obtain ⟨b, o, rfl, hc0⟩ := hx.cell 0 (by omega)
  obtain ⟨b', o', e', hc1⟩ := hx.cell 1 (by omega)
  injection e' with e'; injection e' with e1 e2
  subst e1; subst e2
  obtain ⟨g, u, rfl, hd0⟩ := hy.cell 0 (by omega)
  obtain ⟨g', u', e', hd1⟩ := hy.cell 1 (by omega)
  injection e' with e'; injection e' with e1 e2
  subst e1; subst e2
  rw [Nat.add_zero] at hc0 hd0
  obtain ⟨_, a0, a1, a2, a3⟩ := bx
  obtain ⟨_, b0, b1, b2, b3⟩ := by_
  have hcr : cr (ptOf xs) (ptOf ys) = nth xs 0 * nth ys 1 - nth xs 1 * nth ys 0 := rfl
  have Hcr := Lib.hid hcr
  clear hcr
  generalize nth xs 0 = x0 at *
  generalize nth xs 1 = x1 at *
  generalize nth ys 0 = y0 at *
  generalize nth ys 1 = y1 at *
  obtain ⟨m1, m2⟩ := mulIn (m := 4000) (by omega) a0 a1 b2 b3
  obtain ⟨m3, m4⟩ := mulIn (m := 4000) (by omega) a2 a3 b0 b1
  generalize hA : x0 * y1 = A at *
  generalize hB : x1 * y0 = B at *
  have hw1 : wrap64 (x0 * y1) = A := by rw [hA]; exact wrap64_id (by omega) (by omega)
  have hw2 : wrap64 (x1 * y0) = B := by rw [hB]; exact wrap64_id (by omega) (by omega)
  have hk1 : IntKind.i64.wrap (x0 * y1) = A := by rw [wrapEq, hw1]
  have hk2 : IntKind.i64.wrap (x1 * y0) = B := by rw [wrapEq, hw2]
  have hk3 : IntKind.i64.wrap (A - B) = A - B := by rw [wrapEq]; exact wrap64_id (by omega) (by omega)
  clear hA hB hw1 hw2
  go_enter Tryz.func85, Tryz.ntmps85
  go_wp2
  go_quiet (fail)
  go_wp2
  go_ret
  exact ⟨ret_int (by rw [Hcr.out]), _, rfl⟩

/-- The difference of two points. -/
def minusL (xs ys : List Int) : List Int := [nth xs 0 - nth ys 0, nth xs 1 - nth ys 1]
theorem minus_in {m m' : Int} {xs ys : List Int} (bx : PtIn m xs) (by_ : PtIn m' ys) : PtIn (m + m') (minusL xs ys) := by
  obtain ⟨_, a0, a1, a2, a3⟩ := bx
  obtain ⟨_, b0, b1, b2, b3⟩ := by_
  exact ⟨rfl, (show -(m + m') ≤ nth xs 0 - nth ys 0 by omega), (show nth xs 0 - nth ys 0 ≤ m + m' by omega), (show -(m + m') ≤ nth xs 1 - nth ys 1 by omega), (show nth xs 1 - nth ys 1 ≤ m + m' by omega)⟩
theorem ptOf_minus (xs ys : List Int) : ptOf (minusL xs ys) = sb (ptOf xs) (ptOf ys) := rfl
theorem made2 (w : World) (a b : Int) : Own (w.alloc (.cells #[.int .i64 a, .int .i64 b] 3)) w.heap.size (w.heap.size + 1) (some ⟨w.heap.size, 0, none⟩) 2 2 [a, b] :=
  ⟨⟨rfl, .inr ⟨w.heap.size, 2, #[.int .i64 a, .int .i64 b], rfl, Nat.le_refl _, heap_alloc_new w _, Nat.le_refl _, by unfold maxLen; omega, rfl, rfl⟩⟩, fun a ha => by injection ha with ha; subst ha; exact Nat.lt_succ_self _⟩

theorem minus_any (p q : Option Addr) (c d : Nat) (xs ys : List Int) (w : World) (hx : Ints w p 2 xs) (hy : Ints w q 2 ys) (bx : PtIn 1000 xs) (by_ : PtIn 1000 ys) :
    Calls Tryz.prog 61 #[.slice p 2 c, .slice q 2 d] w (NewInts w 2 (minusL xs ys)) := by
  obtain ⟨b, o, rfl, hc0⟩ := hx.cell 0 (by omega)
  obtain ⟨b', o', e', hc1⟩ := hx.cell 1 (by omega)
  injection e' with e'; injection e' with e1 e2
  subst e1; subst e2
  obtain ⟨g, u, rfl, hd0⟩ := hy.cell 0 (by omega)
  obtain ⟨g', u', e', hd1⟩ := hy.cell 1 (by omega)
  injection e' with e'; injection e' with e1 e2
  subst e1; subst e2
  rw [Nat.add_zero] at hc0 hd0
  obtain ⟨_, a0, a1, a2, a3⟩ := bx
  obtain ⟨_, b0, b1, b2, b3⟩ := by_
  have hm : minusL xs ys = [nth xs 0 - nth ys 0, nth xs 1 - nth ys 1] := rfl
  have Hm := Lib.hid hm
  clear hm
  generalize nth xs 0 = x0 at *
  generalize nth xs 1 = x1 at *
  generalize nth ys 0 = y0 at *
  generalize nth ys 1 = y1 at *
  have hk1 : IntKind.i64.wrap (x0 - y0) = x0 - y0 := by rw [wrapEq]; exact wrap64_id (by omega) (by omega)
  have hk2 : IntKind.i64.wrap (x1 - y1) = x1 - y1 := by rw [wrapEq]; exact wrap64_id (by omega) (by omega)
  go_enter Tryz.func61, Tryz.ntmps61
  go_wp2
  go_still_tail 14, (by kernel_rfl)
  change wpList _ _ _ _ _ w.drew
  go_wp2
  go_ret
  refine ⟨_, _, rfl, ?_, ((Below.refl _ _).drew).alloc (Nat.le_refl _) _⟩
  rw [Hm.out]
  have := (made2 w.drew (x0 - y0) (x1 - y1)).up
  exact this

theorem turn_any (p q r : Option Addr) (c d f : Nat) (xs ys zs : List Int) (w : World) (hx : Ints w p 2 xs) (hy : Ints w q 2 ys) (hz : Ints w r 2 zs) (bx : PtIn 1000 xs) (by_ : PtIn 1000 ys) (bz : PtIn 1000 zs) :
    Calls Tryz.prog 40 #[.slice p 2 c, .slice q 2 d, .slice r 2 f] w fun e w' => e = .returned (.int .i64 (turnZ xs ys zs)) ∧ Below w.heap.size w w' := by
  have bq1 : PtIn 4000 (minusL ys xs) := (minus_in by_ bx).wide (by omega)
  have bq2 : PtIn 4000 (minusL zs xs) := (minus_in bz bx).wide (by omega)
  go_enter Tryz.func40, Tryz.ntmps40
  go_wp2_with fail
  refine (minus_any _ _ _ _ _ _ _ hy hx by_ bx).mono ?_
  rintro e w1 ⟨p1, c1, rfl, ho1, hb1⟩
  go_wp2_with fail
  refine (minus_any _ _ _ _ _ _ _ (hz.below hb1) (hx.below hb1) bz bx).mono ?_
  rintro e w2 ⟨p2, c2, rfl, ho2, hb2⟩
  have hT := Below.step hb1 hb2
  go_wp2_with fail
  refine (cross_any _ _ _ _ _ _ _ ((ho1.below hb2).ints) ho2.ints bq1 bq2).mono ?_
  rintro e w3 ⟨rfl, z, rfl⟩
  go_wp2_with fail
  go_ret
  exact ⟨rfl, Below.drawn hT z⟩

theorem less_minus {xs ys : List Int} (bx : PtIn 1000 xs) (by_ : PtIn 1000 ys) : lessW xs ys = minusL xs ys := by
  obtain ⟨l1, a0, a1, a2, a3⟩ := bx
  obtain ⟨l2, b0, b1, b2, b3⟩ := by_
  refine nth_ext (by rw [lessW_length, l1]; rfl) fun k hk => ?_
  rw [lessW_length, l1] at hk
  rw [lessW_nth (by omega)]
  match k, hk with
  | 0, _ => exact wrap64_id (by omega) (by omega)
  | 1, _ => exact wrap64_id (by omega) (by omega)
theorem specTurn_any (p q r : Option Addr) (c d f : Nat) (xs ys zs : List Int) (w : World) (hx : Ints w p 2 xs) (hy : Ints w q 2 ys) (hz : Ints w r 2 zs) (bx : PtIn 1000 xs) (by_ : PtIn 1000 ys) (bz : PtIn 1000 zs) :
    Calls Tryz.prog 79 #[.slice p 2 c, .slice q 2 d, .slice r 2 f] w fun e w' => e = .returned (.int .i64 (turnZ xs ys zs)) ∧ Below w.heap.size w w' := by
  have e0 := Lib.hid (show turnZ xs ys zs = cr (ptOf (minusL ys xs)) (ptOf (minusL zs ys)) by rw [ptOf_minus, ptOf_minus]; exact tn_step _ _ _)
  have e1 := Lib.hid (less_minus by_ bx)
  have e2 := Lib.hid (less_minus bz by_)
  have bq1 : PtIn 4000 (minusL ys xs) := (minus_in by_ bx).wide (by omega)
  have bq2 : PtIn 4000 (minusL zs ys) := (minus_in bz by_).wide (by omega)
  go_enter Tryz.func79, Tryz.ntmps79
  go_wp2_with fail
  refine (l2Less_any _ _ _ _ _ _ _ _ (by omega) hy hx).mono ?_
  rw [e1.out]
  rintro e w1 ⟨p1, c1, rfl, ho1, hb1⟩
  go_wp2_with fail
  refine (l2Less_any _ _ _ _ _ _ _ _ (by omega) (hz.below hb1) (hy.below hb1)).mono ?_
  rw [e2.out]
  rintro e w2 ⟨p2, c2, rfl, ho2, hb2⟩
  have hT := Below.step hb1 hb2
  go_wp2_with fail
  refine (specCross_any _ _ _ _ _ _ _ ((ho1.below hb2).ints) ho2.ints bq1 bq2).mono ?_
  rintro e w3 ⟨rfl, z, rfl⟩
  go_wp2_with fail
  go_ret
  exact ⟨ret_int e0.out.symm, Below.drawn hT z⟩

/-- A point of the plane, as both ask for one. -/
def isPt (m : Int) (x : List Int) : Bool := decide (x.length = 2) && allR x (-m) m
theorem isPt_in {m : Int} {x : List Int} (h : isPt m x = true) : PtIn m x := by
  unfold isPt at h
  rw [Bool.and_eq_true, decide_eq_true_eq] at h
  obtain ⟨hl, ha⟩ := h
  have key : ∀ k, k < 2 → -m ≤ nth x k ∧ nth x k ≤ m := fun k hk => by
    have := List.all_eq_true.1 ha (nth x k) (by rw [nth_eq (by omega)]; exact List.getElem_mem _)
    exact inR_true this
  exact ⟨hl, (key 0 (by omega)).1, (key 0 (by omega)).2, (key 1 (by omega)).1, (key 1 (by omega)).2⟩
theorem isPoint_any (p : Option Addr) (n c : Nat) (xs : List Int) (m : Int) (w : World) (hn : n ≤ 9223372036854775807) (hx : Ints w p n xs) (hm0 : 0 ≤ m) (hm1 : m ≤ 1000) :
    Calls Tryz.prog 36 #[.slice p n c, .int .i64 m] w fun e w' => e = .returned (.bool (isPt m xs)) ∧ w = w' := by
  have hl := Lib.hid hx.len
  by_cases h2 : n = 2
  · subst h2
    go_enter Tryz.func36, Tryz.ntmps36
    go_wp2_with (go_at_call 71; (with_reducible refine (allWithin_any _ _ _ _ _ _ _ hx (by omega)).mono ?_); rintro e w' ⟨rfl, rfl⟩)
    go_ret
    exact ⟨ret_bool (by rw [isPt, decide_eq_true hl.out, Bool.true_and]), rfl⟩
  · have hf : ((n : Int) == 2) = false := by simp; omega
    have H2 := Lib.hid h2
    clear h2
    go_enter Tryz.func36, Tryz.ntmps36
    go_wp2
    go_ret
    exact ⟨ret_bool (by rw [isPt, decide_eq_false (by rw [hl.out]; exact H2.out), Bool.false_and]), rfl⟩

end Go.Proofs.YthdonnkekggbbaaGreatDoor
