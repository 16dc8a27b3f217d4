/- Texts joined: IsMat Ops2 DetFns DetFns2 DetFns3 DetOf Apply Turn. -/
import Derived.Test.YtpfklkmmhdpphaaGreatDoorJnVecFns2
import Derived.Test.YtpfklkmmhdpphaaGreatDoorJnNum2

/- Contracts of both IsMatrix. Conditions: sizes. -/
namespace Go.Proofs.YtpfklkmmhdpphaaGreatDoor
open Go.RowKit
set_option linter.unusedVariables false
set_option linter.unusedSimpArgs false
set_option maxRecDepth 100000

/-- A row of a matrix with n columns. -/
def rowOk (n : Nat) (r : List Int) : Bool := decide (r.length = n) && allR r (-100) 100
def rowsOk (n : Nat) (xss : List (List Int)) : Bool := xss.all (rowOk n)
def isMat (xss : List (List Int)) : Bool := inR xss.length 1 3 && rowsOk xss.length xss

theorem rowsOk_step {n : Nat} {xss : List (List Int)} {k : Nat} (h : k < xss.length) (ha : rowsOk n (xss.take k) = true) (hr : rowOk n (nthR xss k) = true) : rowsOk n (xss.take (k + 1)) = true := by
  rw [take_nthR h]; simp_all [rowsOk]
theorem rowsOk_stop {n : Nat} {xss : List (List Int)} {k : Nat} (h : k < xss.length) (hr : rowOk n (nthR xss k) = false) : rowsOk n xss = false := by
  rw [nthR_eq h] at hr
  simp only [rowsOk, List.all_eq_false]
  exact ⟨xss[k], List.getElem_mem h, by simp [hr]⟩
theorem rowOk_yes {n : Nat} {r : List Int} (h1 : r.length = n) (h2 : allR r (-100) 100 = true) : rowOk n r = true := by simp [rowOk, h1, h2]
theorem rowOk_len {n : Nat} {r : List Int} (h1 : ¬ r.length = n) : rowOk n r = false := by simp [rowOk, h1]
theorem rowOk_no {n : Nat} {r : List Int} (h2 : allR r (-100) 100 = false) : rowOk n r = false := by simp [rowOk, h2]

end Go.Proofs.YtpfklkmmhdpphaaGreatDoor

/- append of a row to a slice of slices of numbers of the call's own. Conditions: sizes. -/
namespace Go.Proofs.YtpfklkmmhdpphaaGreatDoor
open Go.RowKit
set_option linter.unusedVariables false
set_option linter.unusedSimpArgs false
set_option maxRecDepth 100000

theorem Grow.within {W W' : World} {p p' : Option Addr} (h : Grow W W' p p') {lo : Nat} (h2 : ∀ a, p = some a → lo ≤ a.block) : Within lo W.heap.size W W' :=
  ⟨h.by_.os, h.by_.tape, h.by_.output, h.by_.size, fun k hk hd => h.by_.block k hk fun e => by
    cases p with
    | none => cases e
    | some a =>
      simp only [blk, Option.map_some, Option.some.injEq] at e
      have := h2 a rfl
      omega⟩

theorem wp_append_row {o : Oper} {a : Act} {K : Act → World → Prop} {Q : Exit → Act → World → Prop} (s x : Operand)
    (ho : o.op = .call { callee := .builtin .append, args := #[s, x], argTypes := #[52, 52] }) (W : World) (lo hi : Nat) (p : Option Addr) (n c : Nat) (vs : List Value)
    (hs : a.eval s = .slice p n c) (hown : OwnV W 30 1 lo hi p n c vs) (g : Nat) (q : Option Addr) (m d : Nat) (hx : a.eval x = .slice (some ⟨g, 0, none⟩) 1 1) (hc : W.cell? ⟨g, 0, none⟩ = some (.slice q m d))
    (hn : n ≤ 5864062010000) (hlo : lo ≤ W.heap.size)
    (h : ∀ p' c' W', OwnV W' 30 1 lo W'.heap.size p' (n + 1) c' (vs ++ [.slice q m d]) → Grow W W' p p' → K (a.put o.dst (.slice p' (n + 1) c')) W') :
    o.wp Tryz.prog a W K Q :=
  wp_appendV 30 52 1 24 (.slice none 0 0) Tryz.underlying52 Tryz.infoInts rfl (by decide) s x ho W lo hi p n c _ hs hown _ 1 1 [.slice q m d] hx rfl
    (fun _ => ⟨_, rfl, fun j v hv => by match j, hv with | 0, hv => simp at hv; subst hv; simpa [Addr.add] using hc⟩) (fun v hv => by simp at hv; subst hv; rfl) (by omega) (by unfold maxLen; omega) hlo
    fun p' c' W' h2 h3 => h p' c' W' h2 h3

theorem append_row {ops : Array Oper} {rest : List Oper} {o : Oper} {a : Act} {Q : Exit → Act → World → Prop} (hgd : o.guard = none) (s x : Operand)
    (ho : o.op = .call { callee := .builtin .append, args := #[s, x], argTypes := #[52, 52] }) (W : World) (lo hi : Nat) (p : Option Addr) (n c : Nat) (vs : List Value)
    (hs : a.eval s = .slice p n c) (hown : OwnV W 30 1 lo hi p n c vs) (g : Nat) (q : Option Addr) (m d : Nat) (hx : a.eval x = .slice (some ⟨g, 0, none⟩) 1 1) (hc : W.cell? ⟨g, 0, none⟩ = some (.slice q m d))
    (hn : n ≤ 5864062010000) (hlo : lo ≤ W.heap.size)
    (h : ∀ p' c' W', OwnV W' 30 1 lo W'.heap.size p' (n + 1) c' (vs ++ [.slice q m d]) → Grow W W' p p' → wpList Tryz.prog ops Q rest (a.put o.dst (.slice p' (n + 1) c')) W') :
    wpList Tryz.prog ops Q (o :: rest) a W :=
  wpList_plain hgd fun _ hK => wp_append_row s x ho W lo hi p n c vs hs hown g q m d hx hc hn hlo fun p' c' W' h2 h3 => hK _ _ (h p' c' W' h2 h3)

theorem step_append_row {ops : Array Oper} {o : Oper} {a : Act} {K : Act → World → Prop} {E : Prop} {Q : Exit → Act → World → Prop} (hgd : o.guard = none) (s x : Operand)
    (ho : o.op = .call { callee := .builtin .append, args := #[s, x], argTypes := #[52, 52] }) (W : World) (lo hi : Nat) (p : Option Addr) (n c : Nat) (vs : List Value)
    (hs : a.eval s = .slice p n c) (hown : OwnV W 30 1 lo hi p n c vs) (g : Nat) (q : Option Addr) (m d : Nat) (hx : a.eval x = .slice (some ⟨g, 0, none⟩) 1 1) (hc : W.cell? ⟨g, 0, none⟩ = some (.slice q m d))
    (hn : n ≤ 5864062010000) (hlo : lo ≤ W.heap.size)
    (h : ∀ p' c' W', OwnV W' 30 1 lo W'.heap.size p' (n + 1) c' (vs ++ [.slice q m d]) → Grow W W' p p' → K (a.put o.dst (.slice p' (n + 1) c')) W') :
    if Region.wanted o (yielded ops a.tmps) = true then Oper.wp Tryz.prog o a W K Q else E := by
  have hw : Region.wanted o (yielded ops a.tmps) = true := by simp [Region.wanted, hgd]
  rw [if_pos hw]
  exact wp_append_row s x ho W lo hi p n c vs hs hown g q m d hx hc hn hlo h

/-- The empty slice of slices. -/
theorem Own2.empty (w : World) : Own2 (w.alloc (.cells #[] 30)) w.heap.size (w.heap.size + 1) (some ⟨w.heap.size, 0, none⟩) 0 0 [] [] :=
  ⟨⟨World.ownsRow_made w #[] 0 (Nat.le_refl _) (Nat.zero_le _) rfl, fun a ha => by injection ha with ha; subst ha; exact Nat.lt_succ_self _⟩, rfl, fun k h => absurd h (by simp), List.Pairwise.nil⟩
theorem Own2.nil (w : World) (lo hi : Nat) : Own2 w lo hi none 0 0 [] [] := ⟨OwnV.nil _ _ _ _ _, rfl, fun k h => absurd h (by simp), List.Pairwise.nil⟩

/-- What a slice of slices is behind the append of a new row. w: where the row is known; W: at the append; W': behind it. -/
theorem Own2.app {w W W' : World} {lo mid : Nat} {p p' : Option Addr} {n c c' : Nat} {rows : List Row} {xss : List (List Int)} (h : Own2 w lo mid p n c rows xss)
    {hi : Nat} {q : Option Addr} {m d : Nat} {ys : List Int} (hr : Own w mid hi q m d ys) (hlm : lo ≤ mid)
    (hb : Below w.heap.size w W) (hv : OwnV W' 30 1 lo W'.heap.size p' (n + 1) c' (rows.map Row.val ++ [.slice q m d])) (hg : Grow W W' p p') :
    Own2 W' lo W'.heap.size p' (n + 1) c' (rows ++ [(q, m, d)]) (xss ++ [ys]) := by
  have hc := h.count
  have hl := h.len
  have hT : 30 ≠ 3 := by decide
  have keep : ∀ {lo' hi' : Nat} {q' : Option Addr} {n' c' : Nat} {zs : List Int}, lo ≤ lo' → Own w lo' hi' q' n' c' zs → Own W' lo W'.heap.size q' n' c' zs := fun hlo hz =>
    ((hz.below hb).kept (q := p) hg.by_ ((h.outer.below hb).ne (hz.below hb).v hT)).up.widen hlo (Nat.le_refl _)
  refine ⟨by simpa [Row.val] using hv, by simp [hl], fun k hk => ?_, ?_⟩
  · by_cases hkl : k < rows.length
    · have e : nthR (xss ++ [ys]) k = nthR xss k := by
        rw [nthR_eq (by simp; omega), nthR_eq (by omega), List.getElem_append_left]
      rw [e]
      simp only [List.getElem_append_left hkl]
      exact keep (Nat.le_refl _) (h.inner k hkl)
    · simp only [List.length_append, List.length_cons, List.length_nil] at hk
      obtain rfl : k = rows.length := by omega
      have e : nthR (xss ++ [ys]) rows.length = ys := by
        rw [nthR_eq (by simp; omega), List.getElem_append_right (by omega)]
        simp [hl]
      rw [e]
      simp only [List.getElem_append_right (Nat.le_refl _), Nat.sub_self, List.getElem_cons_zero]
      exact keep hlm hr
  · rw [List.pairwise_append]
    refine ⟨h.apart, List.pairwise_singleton _ _, fun r hr1 s hs => ?_⟩
    simp only [List.mem_singleton] at hs
    subst hs
    obtain ⟨j, hj, rfl⟩ := List.getElem_of_mem hr1
    exact (h.inner j hj).apart hr (.inl (Nat.le_refl _))

theorem Own2.drew {w : World} {lo hi : Nat} {p : Option Addr} {n c : Nat} {rows : List Row} {xss : List (List Int)} (h : Own2 w lo hi p n c rows xss) : Own2 w.drew lo hi p n c rows xss :=
  ⟨h.outer.drew, h.len, fun k hk => (h.inner k hk).drew, h.apart⟩
theorem Own2.drewN {w : World} {lo hi : Nat} {p : Option Addr} {n c : Nat} {rows : List Row} {xss : List (List Int)} (h : Own2 w lo hi p n c rows xss) (z : Nat) : Own2 (w.drewN z) lo hi p n c rows xss :=
  ⟨⟨h.outer.row, h.outer.top⟩, h.len, fun k hk => (h.inner k hk).drewN z, h.apart⟩

end Go.Proofs.YtpfklkmmhdpphaaGreatDoor

/- Contracts of minors and determinants. Conditions: sizes. -/
namespace Go.Proofs.YtpfklkmmhdpphaaGreatDoor
open Go.RowKit
set_option linter.unusedVariables false
set_option linter.unusedSimpArgs false
set_option maxRecDepth 100000

theorem Ints.take {w : World} {p : Option Addr} {n : Nat} {xs : List Int} (h : Ints w p n xs) {k : Nat} (hk : k ≤ n) : Ints w p k (xs.take k) := by
  have hl := h.len
  refine ⟨by simp; omega, fun i hi => ?_⟩
  obtain ⟨b, o, hp, hc⟩ := h.cell i (by omega)
  refine ⟨b, o, hp, ?_⟩
  rw [hc, nth_eq (by omega), nth_eq (by simp; omega)]
  simp
theorem Ints.drop {w : World} {b o n : Nat} {xs : List Int} (h : Ints w (some ⟨b, o, none⟩) n xs) (k : Nat) : Ints w (some ⟨b, o + k, none⟩) (n - k) (xs.drop k) := by
  have hl := h.len
  refine ⟨by simp; omega, fun i hi => ?_⟩
  obtain ⟨b', o', hp, hc⟩ := h.cell (k + i) (by omega)
  injection hp with hp
  injection hp with e1 e2
  subst e1; subst e2
  refine ⟨_, _, rfl, ?_⟩
  rw [Nat.add_assoc, hc, nth_eq (by omega), nth_eq (by simp; omega)]
  simp
theorem cutAt_len {r : List Int} {j : Nat} (h : j < r.length) : (cutAt r j).length = r.length - 1 := by simp [cutAt]; omega

theorem minor_any (p : Option Addr) (n c : Nat) (xss : List (List Int)) (i j m0 : Nat) (w : World) (hn : n ≤ 1000) (hx : Intss w p n xss) (hi : i ≤ 1000) (hj : j < m0) (hm0 : m0 ≤ 1000) (hrows : ∀ k, k < xss.length → (nthR xss k).length = m0) :
    Calls Tryz.prog 60 #[.slice p n c, .int .i64 i, .int .i64 j] w fun e w' => ∃ q m d, e = .returned (.slice q m d) ∧ OwnM w' w.heap.size w'.heap.size q m d (minorL xss i j) ∧ Below w.heap.size w w' := by
  have hl := Lib.hid hx.len
  have Hr := Lib.hid hrows
  clear hrows
  go_enter Tryz.func60, Tryz.ntmps60
  go_wp2
  go_loopw [7, 12] (fun v t wr => ∃ (k : Nat) (p' : Option Addr) (n' c' : Nat) (rows : List Row), k ≤ n ∧ t = .int .i64 k ∧ v = .slice p' n' c' ∧ Own2 wr w.heap.size wr.heap.size p' n' c' rows (minorTo xss i j k) ∧ n' ≤ k ∧ Below w.heap.size w wr) (fun _ t _ => n - (intOf t).toNat)
  case atStart => exact ⟨0, _, _, _, [], Nat.zero_le _, rfl, rfl, Own2.nil _ _ _, Nat.zero_le _, Below.refl _ _⟩
  case round =>
    obtain ⟨k, p', n', c', rows, hk, rfl, rfl, hown, hnk, hb⟩ := hrel
    by_cases hlt : k < n
    · obtain ⟨b, o, q, m, d, rfl, hc, hmd, hd, hi2⟩ := (hx.below hb).cellc k hlt
      have hml : m = m0 := by rw [← hi2.len]; exact Hr.out k (by rw [hl.out]; exact hlt)
      have hjm : j < m := by omega
      have hm1 : m ≤ 1000 := by omega
      clear hml
      by_cases hki : k = i
      · subst hki
        go_wp2
        go_roundw
        case rel => exact ⟨k + 1, _, _, _, rows, by omega, by go_num, rfl, by rw [minorTo, if_pos rfl]; exact hown, by omega, hb⟩
        case measure => simp [intOf]; omega
      · have hki' : ((k : Int) != (i : Int)) = true := by simp; omega
        obtain ⟨b2, o2, rfl, _⟩ := hi2.cell 0 (by omega)
        have hown' := hown.drew
        have ht := (hi2.drew).take (k := j) (by omega)
        have hjd : j ≤ d := by omega
        have hjd1 : j + 1 ≤ d := by omega
        have hlen : (cutAt (nthR xss k) j).length = m - 1 := by rw [cutAt_len (by rw [hi2.len]; exact hjm), hi2.len]
        have Hlen := Lib.hid hlen
        clear hlen
        have hmin : minorTo xss i j (k + 1) = minorTo xss i j k ++ [cutAt (nthR xss k) j] := by rw [minorTo, if_neg hki]
        have Hmin := Lib.hid hmin
        clear hmin
        by_cases hd1 : d = j + 1
        · subst hd1
          obtain rfl : m = j + 1 := by omega
          have hcut : ∀ W, Ints W (some ⟨b2, o2, none⟩) 0 ((nthR xss k).drop (j + 1)) := fun W => by
            rw [List.drop_eq_nil_of_le (by rw [hi2.len]; omega)]; exact Ints.nil _ _
          have Hcut := Lib.hid hcut
          clear hcut
          have s1 : IntKind.i64.wrap ((j : Int) + 1) = (j : Int) + 1 := IntWalk.i64_in _ (by omega)
          have s2 : ((j : Int) + 1).toNat = j + 1 := by omega
          have s3 : (0 : Int) ≤ (j : Int) + 1 := by omega
          have s4 : (j : Int) ≤ (j : Int) + 1 := by omega
          go_wp2
          go_region_law (first | (go_simp; go_at_call 76; refine (copyInts_any _ _ _ _ _ (by omega) ht).mono ?_; rintro e w1 ⟨p1, c1, rfl, ho1, hb1⟩; have hown1 := hown'.below hb1; have hbw1 : Below w.heap.size w w1 := hb.drew.trans (hb1.mono hb.size)) | (refine step_append_ints rfl (.tmp 24) (.tmp 28) rfl _ wr.heap.size _ _ _ _ _ rfl ho1 _ _ _ _ rfl (Hcut.out _) (by omega) hb1.size ?_; intro p2 c2 w2 ho2 hg2; have hown2 := hown1.within (hg2.within (fun a ha => (ho1.lt a ha).1)) (.inl (Nat.le_refl _)); have hbw2 : Below w.heap.size w w2 := hbw1.trans (hg2.below hbw1.size (fun a ha => Nat.le_trans hb.size (ho1.lt a ha).1))) | (refine step_append_row rfl (.tmp 20) (.tmp 30) rfl _ w.heap.size _ _ _ _ _ rfl (hown2.outer.alloc _) _ _ _ _ rfl (cellNew _ _ _) (by omega) (sizeNew hbw2 _) ?_; intro p3 c3 w3 ho3 hg3))
          all_goals
            have hb3 : Below w.heap.size w w3 := (hbw2.alloc hbw2.size _).trans (hg3.below (sizeNew hbw2 _) (fun a ha => (hown2.outer.lt a ha).1))
            have h3 := hown2.app ho2 hb.size (boxed _ _) ho3 hg3
            go_wp2
            go_roundw
            case rel => exact ⟨k + 1, _, _, _, _, by omega, by go_num, rfl, by rw [Hmin.out]; exact h3, by omega, hb3⟩
            case measure => simp [intOf]; omega
        · have s1 : IntKind.i64.wrap ((j : Int) + 1) = (j : Int) + 1 := IntWalk.i64_in _ (by omega)
          have s2 : ((j : Int) + 1).toNat = j + 1 := by omega
          have s3 : (0 : Int) ≤ (j : Int) + 1 := by omega
          have s4 : (j : Int) + 1 ≤ (m : Int) := by omega
          have s5 : (j : Int) + 1 ≤ (d : Int) := by omega
          have s6 : j + 1 ≤ m := by omega
          have s7 : Hid (j + (m - (j + 1)) = m - 1) := by show _ = _; omega
          go_wp2
          go_region_law (first | (go_simp; go_at_call 76; refine (copyInts_any _ _ _ _ _ (by omega) ht).mono ?_; rintro e w1 ⟨p1, c1, rfl, ho1, hb1⟩; have hown1 := hown'.below hb1; have hbw1 : Below w.heap.size w w1 := hb.drew.trans (hb1.mono hb.size); have hdr := ((hi2.drew).below hb1).drop (j + 1)) | (refine step_append_ints rfl (.tmp 24) (.tmp 28) rfl _ wr.heap.size _ _ _ _ _ rfl ho1 _ _ _ _ rfl hdr (by omega) hb1.size ?_; intro p2 c2 w2 ho2 hg2; have hown2 := hown1.within (hg2.within (fun a ha => (ho1.lt a ha).1)) (.inl (Nat.le_refl _)); have hbw2 : Below w.heap.size w w2 := hbw1.trans (hg2.below hbw1.size (fun a ha => Nat.le_trans hb.size (ho1.lt a ha).1))) | (refine step_append_row rfl (.tmp 20) (.tmp 30) rfl _ w.heap.size _ _ _ _ _ rfl (hown2.outer.alloc _) _ _ _ _ rfl (cellNew _ _ _) (by omega) (sizeNew hbw2 _) ?_; intro p3 c3 w3 ho3 hg3))
          all_goals
            have hb3 : Below w.heap.size w w3 := (hbw2.alloc hbw2.size _).trans (hg3.below (sizeNew hbw2 _) (fun a ha => (hown2.outer.lt a ha).1))
            have h3 := hown2.app ho2 hb.size (boxed _ _) ho3 hg3
            go_wp2
            go_roundw
            case rel => exact ⟨k + 1, _, _, _, _, by omega, by go_num, rfl, by rw [Hmin.out]; exact h3, by omega, hb3⟩
            case measure => simp [intOf]; omega
    · go_wp2
      go_ret
      obtain rfl : k = n := by omega
      refine ⟨_, _, _, rfl, ⟨rows, ?_⟩, hb⟩
      rw [show minorL xss i j = minorTo xss i j k by rw [minorL, hl.out]]
      exact hown


theorem minorTo_len (xss : List (List Int)) (i j k : Nat) : (minorTo xss i j k).length = if i < k then k - 1 else k := by
  induction k with
  | zero => simp [minorTo]
  | succ k ih =>
    rw [minorTo]
    split
    · rename_i h; subst h; rw [ih]; simp
    · rw [List.length_append, ih]
      simp only [List.length_cons, List.length_nil]
      split <;> split <;> omega
theorem minorTo_rows {xss : List (List Int)} {m0 : Nat} (h : ∀ k, k < xss.length → (nthR xss k).length = m0) {i j : Nat} (hj : j < m0) (k : Nat) (hk : k ≤ xss.length) :
    ∀ r ∈ minorTo xss i j k, r.length = m0 - 1 := by
  induction k with
  | zero => simp [minorTo]
  | succ k ih =>
    rw [minorTo]
    split
    · exact ih (by omega)
    · intro r hr
      rw [List.mem_append] at hr
      rcases hr with hr | hr
      · exact ih (by omega) r hr
      · simp only [List.mem_singleton] at hr
        subst hr
        rw [cutAt_len (by rw [h k (by omega)]; exact hj), h k (by omega)]
theorem Sq.minor {N : Nat} {xss : List (List Int)} (h : Sq (N + 1) xss) {i j : Nat} (hi : i < N + 1) (hj : j < N + 1) : Sq N (minorL xss i j) := by
  have hl := h.1
  refine ⟨by rw [minorL, minorTo_len, hl, if_pos hi]; omega, fun k hk => ?_⟩
  have hlen : (minorL xss i j).length = N := by rw [minorL, minorTo_len, hl, if_pos hi]; omega
  have hmem : nthR (minorL xss i j) k ∈ minorL xss i j := nthR_mem (by omega)
  have := minorTo_rows (m0 := N + 1) (fun k hk => h.2 k (by omega)) hj xss.length (Nat.le_refl _) _ hmem
  omega

theorem minor0_any (p : Option Addr) (n c : Nat) (xss : List (List Int)) (j N : Nat) (w : World) (hx : Intss w p n xss) (hN : N ≤ 3) (hs : Sq (N + 1) xss) (hj : j < N + 1) :
    Calls Tryz.prog 60 #[.slice p n c, .int .i64 0, .int .i64 j] w fun e w' => ∃ q m d, e = .returned (.slice q m d) ∧ OwnM w' w.heap.size w'.heap.size q m d (minorL xss 0 j) ∧ Below w.heap.size w w' := by
  have hl := hx.len
  have hl2 := hs.1
  have := minor_any p n c xss 0 j (N + 1) w (by omega) hx (by omega) hj (by omega) (fun k hk => hs.2 k (by omega))
  simpa using this

end Go.Proofs.YtpfklkmmhdpphaaGreatDoor

/- Contracts of determinants. Conditions: sizes. -/
namespace Go.Proofs.YtpfklkmmhdpphaaGreatDoor
open Go.RowKit
set_option linter.unusedVariables false
set_option linter.unusedSimpArgs false
set_option maxRecDepth 100000

theorem det_any (N : Nat) : ∀ (p : Option Addr) (n c : Nat) (xss : List (List Int)) (w : World), N ≤ 3 → Intss w p n xss → Sq N xss →
    Calls Tryz.prog 27 #[.slice p n c] w (Ret (.int .i64 (detF N xss)) w) := by
  induction N with
  | zero =>
    intro p n c xss w _ hx hs
    obtain rfl : n = 0 := by rw [← hx.len]; exact hs.1
    go_enter Tryz.func27, Tryz.ntmps27
    go_wp2_with fail
    go_ret
    exact Ret.same
  | succ N ih =>
    intro p n c xss w hN hx hs
    obtain rfl : n = N + 1 := by rw [← hx.len]; exact hs.1
    obtain ⟨b, o, q, m, d, rfl, hc, hmd, hd, hi⟩ := hx.cellc 0 (by omega)
    obtain rfl : m = N + 1 := by rw [← hi.len]; exact hs.2 0 (by omega)
    rw [Nat.add_zero] at hc
    have Hs := Lib.hid hs
    have Ih := Lib.hid ih
    clear hs ih
    have hne : ((N : Int) + 1 == 0) = false := by simp; omega
    go_enter Tryz.func27, Tryz.ntmps27
    go_wp2_with fail
    go_loopw [3, 4, 14] (fun a s t wr => ∃ k : Nat, k ≤ N + 1 ∧ t = .int .i64 k ∧ a = .int .i64 (detTo (detF N) xss k) ∧ s = .int .i64 (sgn k) ∧ Below w.heap.size w wr) (fun _ _ t _ => N + 1 - (intOf t).toNat)
    case atStart => exact ⟨0, Nat.zero_le _, rfl, rfl, rfl, Below.refl _ _⟩
    case round =>
      obtain ⟨k, hk, rfl, rfl, rfl, hb⟩ := hrel
      have hsg := sgn_or k
      have hsg1 : -1 ≤ sgn k ∧ sgn k ≤ 1 := by omega
      obtain ⟨hsg2, hsg3⟩ := hsg1
      clear hsg
      by_cases hlt : k < N + 1
      · obtain ⟨b2, o2, rfl, hc2⟩ := (hi.below hb).cell k hlt
        by_cases h0 : nth (nthR xss 0) k = 0
        · have h0' : (nth (nthR xss 0) k != 0) = false := by simp [h0]
          have Hstep : Hid (detTo (detF N) xss (k + 1) = detTo (detF N) xss k) := by show _ = _; rw [detTo, if_pos h0]
          clear h0
          go_wp2_with fail
          go_roundw
          case rel => exact ⟨k + 1, by omega, by go_num, by rw [Hstep.out], rfl, hb⟩
          case measure => simp [intOf]; omega
        · have h0' : (nth (nthR xss 0) k != 0) = true := by simp [h0]
          have Hstep : Hid (detTo (detF N) xss (k + 1) = wrap64 (detTo (detF N) xss k + wrap64 (wrap64 (sgn k * nth (nthR xss 0) k) * detF N (minorL xss 0 k)))) := by show _ = _; rw [detTo, if_neg h0]
          clear h0
          go_wp2_with fail
          refine (minor0_any _ _ _ _ _ N _ (hx.below hb) (by omega) Hs.out hlt).mono ?_
          rintro e w1 ⟨q1, m1, d1, rfl, ho1, hb1⟩
          go_wp2_with fail
          refine (Ih.out _ _ _ _ _ (by omega) ho1.rd (Hs.out.minor (by omega) hlt)).mono ?_
          rintro e w2 ⟨rfl, hb2⟩
          go_wp2_with fail
          go_roundw
          case rel => exact ⟨k + 1, by omega, by go_num, by rw [Hstep.out], rfl, hb.trans ((hb1.mono hb.size).trans (hb2.mono (Nat.le_trans hb.size hb1.size)))⟩
          case measure => simp [intOf]; omega
      · go_wp2_with fail
        go_ret
        obtain rfl : k = N + 1 := by omega
        exact ⟨rfl, hb⟩

def s3 (xss : List (List Int)) : Nat → Int
  | 0 => 0
  | k + 1 => wrap64 (s3 xss k + wrap64 (nth (nthR xss 0) k * wrap64 (wrap64 (nth (nthR xss 1) ((k + 1) % 3) * nth (nthR xss 2) ((k + 2) % 3)) - wrap64 (nth (nthR xss 1) ((k + 2) % 3) * nth (nthR xss 2) ((k + 1) % 3)))))

theorem l3Det_one (p : Option Addr) (c : Nat) (xss : List (List Int)) (w : World) (hx : Intss w p 1 xss) (hs : Sq 1 xss) :
    Calls Tryz.prog 90 #[.slice p 1 c] w (Ret (.int .i64 (detS xss)) w) := by
  obtain ⟨b, o, q, m, d, rfl, hc, hmd, hd, hi⟩ := hx.cellc 0 (by omega)
  obtain rfl : m = 1 := by rw [← hi.len]; exact hs.2 0 (by omega)
  obtain ⟨b2, o2, rfl, hc2⟩ := hi.cell 0 (by omega)
  rw [Nat.add_zero] at hc hc2
  obtain ⟨a, rfl⟩ := hs.one
  go_enter Tryz.func90, Tryz.ntmps90
  go_wp2_with fail
  go_ret
  exact ⟨rfl, Below.refl _ _⟩

theorem l3Det_two (p : Option Addr) (c : Nat) (xss : List (List Int)) (w : World) (hx : Intss w p 2 xss) (hs : Sq 2 xss) :
    Calls Tryz.prog 90 #[.slice p 2 c] w (Ret (.int .i64 (detS xss)) w) := by
  obtain ⟨b, o, q, m, d, rfl, hc, hmd, hd, hi⟩ := hx.cellc 0 (by omega)
  obtain ⟨b', o', q', m', d', hp, hc', hmd', hd', hi'⟩ := hx.cellc 1 (by omega)
  injection hp with hp
  injection hp with e1 e2
  subst e1; subst e2
  obtain rfl : m = 2 := by rw [← hi.len]; exact hs.2 0 (by omega)
  obtain rfl : m' = 2 := by rw [← hi'.len]; exact hs.2 1 (by omega)
  obtain ⟨b2, o2, rfl, k0⟩ := hi.cell 0 (by omega)
  obtain ⟨_, _, h1, k1⟩ := hi.cell 1 (by omega)
  injection h1 with h1
  injection h1 with e1 e2
  subst e1; subst e2
  obtain ⟨b3, o3, rfl, k2⟩ := hi'.cell 0 (by omega)
  obtain ⟨_, _, h1, k3⟩ := hi'.cell 1 (by omega)
  injection h1 with h1
  injection h1 with e1 e2
  subst e1; subst e2
  rw [Nat.add_zero] at hc k0 k2
  obtain ⟨x, y, z, t, rfl⟩ := hs.two
  simp only [nthR, nth, List.getD_cons_zero, List.getD_cons_succ] at k0 k1 k2 k3
  go_enter Tryz.func90, Tryz.ntmps90
  go_wp2_with fail
  go_quiet (fail)
  go_wp2_with fail
  go_ret
  exact ⟨rfl, Below.drawn (Below.refl _ _) _⟩

end Go.Proofs.YtpfklkmmhdpphaaGreatDoor

/- Contracts of the reference's determinant at three rows, and of both DetOf. Conditions: sizes. -/
namespace Go.Proofs.YtpfklkmmhdpphaaGreatDoor
open Go.RowKit
set_option linter.unusedVariables false
set_option linter.unusedSimpArgs false
set_option maxRecDepth 100000

theorem Ints.three {w : World} {q : Option Addr} {xs : List Int} (h : Ints w q 3 xs) : ∃ b o, q = some ⟨b, o, none⟩ ∧ w.cell? ⟨b, o, none⟩ = some (.int .i64 (nth xs 0)) ∧ w.cell? ⟨b, o + 1, none⟩ = some (.int .i64 (nth xs 1)) ∧ w.cell? ⟨b, o + 2, none⟩ = some (.int .i64 (nth xs 2)) := by
  obtain ⟨b, o, hq, h0⟩ := h.cell 0 (by omega)
  obtain ⟨b1, o1, hq1, h1⟩ := h.cell 1 (by omega)
  obtain ⟨b2, o2, hq2, h2⟩ := h.cell 2 (by omega)
  rw [hq] at hq1 hq2
  injection hq1 with hq1
  injection hq1 with e1 e2
  injection hq2 with hq2
  injection hq2 with e3 e4
  subst e1; subst e2; subst e3; subst e4
  exact ⟨b, o, hq, h0, h1, h2⟩
theorem Intss.three {w : World} {p : Option Addr} {xss : List (List Int)} (h : Intss w p 3 xss) (hs : Sq 3 xss) :
    ∃ b o q0 d0 q1 d1 q2 d2, p = some ⟨b, o, none⟩ ∧ w.cell? ⟨b, o, none⟩ = some (.slice q0 3 d0) ∧ w.cell? ⟨b, o + 1, none⟩ = some (.slice q1 3 d1) ∧ w.cell? ⟨b, o + 2, none⟩ = some (.slice q2 3 d2) ∧
      Ints w q0 3 (nthR xss 0) ∧ Ints w q1 3 (nthR xss 1) ∧ Ints w q2 3 (nthR xss 2) := by
  obtain ⟨b, o, q0, m0, d0, hq, h0, _, _, i0⟩ := h.cellc 0 (by omega)
  obtain ⟨b1, o1, q1, m1, d1, hq1, h1, _, _, i1⟩ := h.cellc 1 (by omega)
  obtain ⟨b2, o2, q2, m2, d2, hq2, h2, _, _, i2⟩ := h.cellc 2 (by omega)
  rw [hq] at hq1 hq2
  injection hq1 with hq1
  injection hq1 with e1 e2
  injection hq2 with hq2
  injection hq2 with e3 e4
  subst e1; subst e2; subst e3; subst e4
  obtain rfl : m0 = 3 := by rw [← i0.len]; exact hs.2 0 (by omega)
  obtain rfl : m1 = 3 := by rw [← i1.len]; exact hs.2 1 (by omega)
  obtain rfl : m2 = 3 := by rw [← i2.len]; exact hs.2 2 (by omega)
  exact ⟨b, o, q0, d0, q1, d1, q2, d2, hq, h0, h1, h2, i0, i1, i2⟩

theorem s3_detS {xss : List (List Int)} (hs : Sq 3 xss) : s3 xss 3 = detS xss := by
  obtain ⟨a, b, c, d, e, f, g, h, i, rfl⟩ := hs.three
  rfl

theorem l3Det_three (p : Option Addr) (c : Nat) (xss : List (List Int)) (w : World) (hx : Intss w p 3 xss) (hs : Sq 3 xss) :
    Calls Tryz.prog 90 #[.slice p 3 c] w (Ret (.int .i64 (detS xss)) w) := by
  obtain ⟨b, o, q0, d0, q1, d1, q2, d2, rfl, h0, h1, h2, i0, i1, i2⟩ := hx.three hs
  obtain ⟨b0, o0, rfl, a0, a1, a2⟩ := i0.three
  obtain ⟨b1, o1, rfl, e0, e1, e2⟩ := i1.three
  obtain ⟨b2, o2, rfl, g0, g1, g2⟩ := i2.three
  have Hs := Lib.hid (s3_detS hs)
  go_enter Tryz.func90, Tryz.ntmps90
  go_wp2_with fail
  go_loopw [3, 4] (fun a t wr => ∃ k : Nat, k ≤ 3 ∧ t = .int .i64 k ∧ a = .int .i64 (s3 xss k) ∧ Drawn w wr) (fun _ t _ => 3 - (intOf t).toNat)
  case atStart => exact ⟨0, by omega, rfl, rfl, Drawn.refl _⟩
  case round =>
    obtain ⟨k, hk, rfl, rfl, hD⟩ := hrel
    have h0 := (hD.cell _).trans h0
    have h1 := (hD.cell _).trans h1
    have h2 := (hD.cell _).trans h2
    have a0 := (hD.cell _).trans a0
    have a1 := (hD.cell _).trans a1
    have a2 := (hD.cell _).trans a2
    have e0 := (hD.cell _).trans e0
    have e1 := (hD.cell _).trans e1
    have e2 := (hD.cell _).trans e2
    have g0 := (hD.cell _).trans g0
    have g1 := (hD.cell _).trans g1
    have g2 := (hD.cell _).trans g2
    match k, hk with
    | 0, _ =>
      go_wp2_with fail
      go_quiet (fail)
      go_wp2_with fail
      go_roundw
      case rel => exact ⟨1, by omega, rfl, rfl, hD.more _⟩
      case measure => simp [intOf]
    | 1, _ =>
      go_wp2_with fail
      go_quiet (fail)
      go_wp2_with fail
      go_roundw
      case rel => exact ⟨2, by omega, rfl, rfl, hD.more _⟩
      case measure => simp [intOf]
    | 2, _ =>
      go_wp2_with fail
      go_quiet (fail)
      go_wp2_with fail
      go_roundw
      case rel => exact ⟨3, by omega, rfl, rfl, hD.more _⟩
      case measure => simp [intOf]
    | 3, _ =>
      go_wp2_with fail
      go_ret
      exact ⟨ret_int Hs.out, hD.below⟩

end Go.Proofs.YtpfklkmmhdpphaaGreatDoor

/- Contracts of both DetOf, IsUnimodular and LatticeIndex. Conditions: sizes. -/
namespace Go.Proofs.YtpfklkmmhdpphaaGreatDoor
open Go.RowKit
set_option linter.unusedVariables false
set_option linter.unusedSimpArgs false
set_option maxRecDepth 100000

theorem isMat_facts {xss : List (List Int)} (h : isMat xss = true) : Sq xss.length xss ∧ 1 ≤ xss.length ∧ xss.length ≤ 3 ∧ ∀ r ∈ xss, ∀ x ∈ r, -100 ≤ x ∧ x ≤ 100 := by
  simp only [isMat, Bool.and_eq_true, rowsOk, List.all_eq_true] at h
  obtain ⟨h1, h2⟩ := h
  have h3 := inR_true h1
  refine ⟨⟨rfl, fun k hk => ?_⟩, by omega, by omega, fun r hr x hx => ?_⟩
  · have := h2 _ (nthR_mem hk)
    simp only [rowOk, Bool.and_eq_true, decide_eq_true_eq] at this
    exact this.1
  · have := h2 r hr
    simp only [rowOk, Bool.and_eq_true, allR, List.all_eq_true] at this
    exact inR_true (this.2 x hx)

def detV (xss : List (List Int)) : Int := if isMat xss = true then detS xss else 0

theorem l3Det_any (p : Option Addr) (n c : Nat) (xss : List (List Int)) (w : World) (hx : Intss w p n xss) (hs : Sq n xss) (h1 : 1 ≤ n) (h3 : n ≤ 3) :
    Calls Tryz.prog 90 #[.slice p n c] w (Ret (.int .i64 (detS xss)) w) := by
  match n, h1, h3 with
  | 1, _, _ => exact l3Det_one _ _ _ _ hx hs
  | 2, _, _ => exact l3Det_two _ _ _ _ hx hs
  | 3, _, _ => exact l3Det_three _ _ _ _ hx hs

/-- The determinant of small numbers is the true one. -/
def det2 (a b c d : Int) : Int := a * d - b * c
theorem det2_abs {B a b c d : Int} (ha : Abs B a) (hb : Abs B b) (hc : Abs B c) (hd : Abs B d) : Abs (B * B + B * B) (a * d - b * c) := (ha.mul hd).sub (hb.mul hc)

theorem detS_abs {xss : List (List Int)} {n : Nat} (hs : Sq n xss) (h1 : 1 ≤ n) (h3 : n ≤ 3) (hr : ∀ r ∈ xss, ∀ x ∈ r, -100 ≤ x ∧ x ≤ 100) : Abs 6000000 (detS xss) := by
  match n, h1, h3 with
  | 1, _, _ =>
    obtain ⟨a, rfl⟩ := hs.one
    have ha : Abs 100 a := hr [a] (by simp) a (by simp)
    exact ha.mono (by omega)
  | 2, _, _ =>
    obtain ⟨a, b, c, d, rfl⟩ := hs.two
    have ha : Abs 100 a := hr [a, b] (by simp) a (by simp)
    have hb : Abs 100 b := hr [a, b] (by simp) b (by simp)
    have hc : Abs 100 c := hr [c, d] (by simp) c (by simp)
    have hd : Abs 100 d := hr [c, d] (by simp) d (by simp)
    rw [detS_two]
    have h := det2_abs ha hb hc hd
    rw [h.wrap (by omega)]
    exact h.mono (by omega)
  | 3, _, _ =>
    obtain ⟨a, b, c, d, e, f, g, h, i, rfl⟩ := hs.three
    have ha : Abs 100 a := hr [a, b, c] (by simp) a (by simp)
    have hb : Abs 100 b := hr [a, b, c] (by simp) b (by simp)
    have hc : Abs 100 c := hr [a, b, c] (by simp) c (by simp)
    have hd : Abs 100 d := hr [d, e, f] (by simp) d (by simp)
    have he : Abs 100 e := hr [d, e, f] (by simp) e (by simp)
    have hf : Abs 100 f := hr [d, e, f] (by simp) f (by simp)
    have hg : Abs 100 g := hr [g, h, i] (by simp) g (by simp)
    have hh : Abs 100 h := hr [g, h, i] (by simp) h (by simp)
    have hi : Abs 100 i := hr [g, h, i] (by simp) i (by simp)
    rw [detS_three]
    have h := ((ha.mul ((he.mul hi).sub (hf.mul hh))).sub (hb.mul ((hd.mul hi).sub (hf.mul hg)))).add (hc.mul ((hd.mul hh).sub (he.mul hg)))
    rw [h.wrap (by omega)]
    exact h.mono (by omega)

theorem detV_abs (xss : List (List Int)) : Abs 6000000 (detV xss) := by
  unfold detV
  split
  · rename_i h
    obtain ⟨hs, h1, h3, hr⟩ := isMat_facts h
    exact detS_abs hs h1 h3 hr
  · unfold Abs; omega

def unimV (xss : List (List Int)) : Bool := ((detV xss).natAbs : Int) == 1
def latV (xss : List (List Int)) : Int := ((detV xss).natAbs : Int)

end Go.Proofs.YtpfklkmmhdpphaaGreatDoor

/- Contracts of both ApplyMatrix. Conditions: sizes. -/
namespace Go.Proofs.YtpfklkmmhdpphaaGreatDoor
open Go.RowKit
set_option linter.unusedVariables false
set_option linter.unusedSimpArgs false
set_option maxRecDepth 100000

/-- A matrix applied to a list. -/
def applyW (xss : List (List Int)) (v : List Int) : List Int := xss.map fun r => dotW r v
theorem applyW_length (xss : List (List Int)) (v : List Int) : (applyW xss v).length = xss.length := by simp [applyW]
theorem applyW_take {xss : List (List Int)} {v : List Int} {k : Nat} (h : k < xss.length) : (applyW xss v).take (k + 1) = (applyW xss v).take k ++ [dotW (nthR xss k) v] := by
  rw [take_nth (by rw [applyW_length]; exact h), nth_eq (by rw [applyW_length]; exact h), nthR_eq h]
  simp [applyW]

def applyV (xss : List (List Int)) (v : List Int) : List Int × Bool := if isMat xss = true ∧ isVec v = true ∧ v.length = xss.length then vecIf (applyW xss v) else ([], false)
theorem applyV_len (xss : List (List Int)) (v : List Int) : (applyV xss v).1.length ≤ 3 := by
  unfold applyV
  split
  · exact vecIf_len _
  · simp

end Go.Proofs.YtpfklkmmhdpphaaGreatDoor

/- Contracts of l3Turn and l3Times. Conditions: sizes. -/
namespace Go.Proofs.YtpfklkmmhdpphaaGreatDoor
open Go.RowKit
set_option linter.unusedVariables false
set_option linter.unusedSimpArgs false
set_option maxRecDepth 100000

/-- Column j of a matrix. -/
def colL (xss : List (List Int)) (j : Nat) : List Int := xss.map fun r => nth r j
def turnL (xss : List (List Int)) : List (List Int) := (List.range xss.length).map (colL xss)
theorem colL_length (xss : List (List Int)) (j : Nat) : (colL xss j).length = xss.length := by simp [colL]
theorem turnL_length (xss : List (List Int)) : (turnL xss).length = xss.length := by simp [turnL]
theorem colL_nth {xss : List (List Int)} {j k : Nat} (h : k < xss.length) : nth (colL xss j) k = nth (nthR xss k) j := by
  rw [nth_eq (by rw [colL_length]; exact h), nthR_eq h]; simp [colL]
theorem turnL_nth {xss : List (List Int)} {k : Nat} (h : k < xss.length) : nthR (turnL xss) k = colL xss k := by
  rw [nthR_eq (by rw [turnL_length]; exact h)]; simp [turnL]
theorem colL_take {xss : List (List Int)} {j k : Nat} (h : k < xss.length) : (colL xss j).take (k + 1) = (colL xss j).take k ++ [nth (nthR xss k) j] := by
  rw [take_nth (by rw [colL_length]; exact h), colL_nth h]
theorem turnL_take {xss : List (List Int)} {k : Nat} (h : k < xss.length) : (turnL xss).take (k + 1) = (turnL xss).take k ++ [colL xss k] := by
  rw [take_nthR (by rw [turnL_length]; exact h), turnL_nth h]

/-- The product of two matrices. -/
def timesW (xss yss : List (List Int)) : List (List Int) := xss.map (applyW (turnL yss))
theorem timesW_length (xss yss : List (List Int)) : (timesW xss yss).length = xss.length := by simp [timesW]
theorem timesW_take {xss yss : List (List Int)} {k : Nat} (h : k < xss.length) : (timesW xss yss).take (k + 1) = (timesW xss yss).take k ++ [applyW (turnL yss) (nthR xss k)] := by
  rw [take_nthR (by rw [timesW_length]; exact h)]
  congr 2
  rw [nthR_eq (by rw [timesW_length]; exact h), nthR_eq h]; simp [timesW]

/-- A row that lies outside an interval of blocks. -/
def Off (lo hi : Nat) (p : Option Addr) : Prop := ∀ g, blk p = some g → g < lo ∨ hi ≤ g
theorem Off.grow {W W' : World} {lo hi : Nat} {p p' : Option Addr} (h : Off lo hi p) (hg : Grow W W' p p') (hh : hi ≤ W.heap.size) : Off lo hi p' := fun g e => by
  rcases hg.at_ with h1 | h1
  · exact h g (by rw [← h1, e])
  · rw [h1] at e; injection e with e; omega
theorem OwnM.off {W W' : World} {lo hi : Nat} {p p' q : Option Addr} {n c : Nat} {xss : List (List Int)} (h : OwnM W lo hi q n c xss) (ho : Off lo hi p) (hg : Grow W W' p p') : OwnM W' lo hi q n c xss := by
  cases p with
  | none => exact h.within (lo' := 0) (hi' := 0) ⟨hg.by_.os, hg.by_.tape, hg.by_.output, hg.by_.size, fun k hk _ => hg.by_.block k hk (by simp [blk])⟩ (.inr (Nat.zero_le _))
  | some a =>
    have h1 := ho a.block rfl
    exact h.within (lo' := a.block) (hi' := a.block + 1) ⟨hg.by_.os, hg.by_.tape, hg.by_.output, hg.by_.size, fun k hk hd => hg.by_.block k hk (by
      simp only [blk, Option.map_some, ne_eq, Option.some.injEq]; omega)⟩ (by omega)

theorem turnL_row {xss : List (List Int)} {k : Nat} (h : k < (turnL xss).length) : (nthR (turnL xss) k).length = xss.length := by
  rw [turnL_length] at h
  rw [turnL_nth h, colL_length]

end Go.Proofs.YtpfklkmmhdpphaaGreatDoor
