/- Contract of spec.l2Put. Conditions: sizes, lists of one length. -/
import Derived.Test.YteamihmolpaoeaaDoorPut
import Derived.Test.YteamihmolpaoeaaDoorWrap
namespace Go.Proofs.YteamihmolpaoeaaDoor
open Go.RowKit
set_option linter.unusedVariables false
set_option linter.unusedSimpArgs false
set_option maxRecDepth 100000

theorem putAt_no {xss : List (List Int)} {v : List Int} {k : Nat} (h : befL v (nthR xss k) = false) : putAt xss v (k + 1) = k + 1 := by simp [putAt, h]
theorem putAt_yes {xss : List (List Int)} {v : List Int} {k : Nat} (h : befL v (nthR xss k) = true) : putAt xss v (k + 1) = putAt xss v k := by simp [putAt, h]

theorem Own2.hdr {w : World} {lo hi g : Nat} {n c : Nat} {rows : List Row} {xss : List (List Int)} (h : Own2 w lo hi (some ⟨g, 0, none⟩) n c rows xss) {k : Nat} (hk : k < rows.length) : w.cell? ⟨g, k, none⟩ = some (.slice rows[k].1 rows[k].2.1 rows[k].2.2) := by
  have hc := h.count
  have := h.outer.cell (k := k) (by omega)
  rw [List.getElem?_map, List.getElem?_eq_getElem hk] at this
  exact this
theorem Rws.dropIf {w : World} {g n c : Nat} {ns : List Row} (h : Rws w (some ⟨g, 0, none⟩) n ns) (hc : n ≤ c) (k : Nat) : Rws w (if c = k then some ⟨g, 0, none⟩ else some ⟨g, k, none⟩) (n - k) (ns.drop k) := by
  by_cases e : c = k
  · rw [if_pos e, List.drop_eq_nil_of_le (by rw [h.1]; omega)]
    exact ⟨by simp; omega, fun j hj => absurd hj (by simp)⟩
  · rw [if_neg e]; exact h.drop k
theorem Rws.below {w w' : World} {q : Option Addr} {m : Nat} {ns : List Row} (h : Rws w q m ns) (hb : Below w.heap.size w w') : Rws w' q m ns :=
  ⟨h.1, fun j hj => by
    obtain ⟨g, o, e, hc⟩ := h.2 j hj
    exact ⟨g, o, e, (hb.cell (World.block_lt_of_cell? w _ hc)).trans hc⟩⟩
theorem blkNe {w : World} {E : TypeId} {g lo B hi : Nat} {q : Option Addr} {n c : Nat} {vs : List Value} (hg : g < lo) (hl : lo ≤ B) (h : OwnV w E 1 B hi q n c vs) : blk (some ⟨g, 0, none⟩) ≠ blk q ∨ q = none := by
  rcases h.form with ⟨rfl, _⟩ | ⟨g', rfl, h1, _⟩
  · exact .inr rfl
  · exact .inl (by simp [blk]; omega)
theorem putL_zero {xss : List (List Int)} {v : List Int} (h : putAt xss v 0 = putAt xss v xss.length) : putL xss v = putIn xss v 0 := by
  rw [putL, ← h]; simp [putAt]
theorem putL_succ {xss : List (List Int)} {v : List Int} {k : Nat} (h : putAt xss v xss.length = k + 1) (hne : nthR xss k ≠ v) : putL xss v = putIn xss v (k + 1) := by
  rw [putL, h, if_neg]; intro h2; exact hne h2.2
theorem putL_same {xss : List (List Int)} {v : List Int} {k : Nat} (h : putAt xss v xss.length = k + 1) (he : nthR xss k = v) : putL xss v = xss := by
  rw [putL, h, if_pos]; exact ⟨by omega, he⟩

set_option maxHeartbeats 8000000 in
theorem l2Put_any (lo g : Nat) (q : Option Addr) (n c m d : Nat) (rows : List Row) (xss : List (List Int)) (ys : List Int) (w : World) (hn : n ≤ 1000000) (hm : m ≤ 1000000) (h : Own2 w lo w.heap.size (some ⟨g, 0, none⟩) n c rows xss) (hy : Ints w q m ys) (hall : ∀ k, k < n → (nthR xss k).length = m) :
    Calls Tryd.prog 60 #[.slice (some ⟨g, 0, none⟩) n c, .slice q m d] w fun e w' => ∃ g' n' c' rows', e = .returned (.slice (some ⟨g', 0, none⟩) n' c') ∧ Own2 w' lo w'.heap.size (some ⟨g', 0, none⟩) n' c' rows' (putL xss ys) ∧ Below lo w w' := by
  have hcnt := Lib.hid h.count
  have hl := Lib.hid (show xss.length = n from h.len ▸ h.count)
  have Hall := Lib.hid hall
  have HK := Lib.hid h
  have hgl := (h.outer.lt _ rfl).2.2
  have hlog : lo ≤ g := (h.outer.lt _ rfl).1
  have hcap : n ≤ c ∧ c ≤ 9223372036854775807 := by
    rcases h.outer.form with ⟨h0, _⟩ | ⟨_, _, _, _, _, h1, h2⟩
    · cases h0
    · unfold maxLen at h2; omega
  clear hall
  go_enter Tryd.func60, Tryd.ntmps60
  go_wp2
  go_loopw [5] (fun i wr => ∃ t : Nat, t ≤ n ∧ i = .int .i64 t ∧ Hid (putAt xss ys t = putAt xss ys n) ∧ ∃ z, wr = w.drewN z) (fun i _ => (intOf i).toNat)
  case atStart => exact ⟨n, Nat.le_refl _, rfl, rfl, 0, rfl⟩
  case round =>
    obtain ⟨t, ht, rfl, hput, z, rfl⟩ := hrel
    cases t with
    | zero =>
      have hd0 : decide ((0 : Int) < ((0 : Nat) : Int)) = false := by simp
      have HW := Lib.hid (HK.out.drewN z)
      have hyW := hy.drewN z
      have hbW := belowDrawn lo w z
      generalize w.drewN z = W at *
      have hcA : 0 ≤ n := by omega
      have HR := Lib.hid (HW.out.outer.rws.drop 0)
      have hsW := hbW.size
      have HN : Hid (putL xss ys = putIn xss ys (0)) := Lib.hid (putL_zero (by rw [hl.out]; exact hput.out))
      go_wp2_with (at_builtin; refine append_rows rfl _ _ rfl _ W.heap.size _ _ _ _ _ rfl (Own2.empty W).outer _ _ _ (rows.drop (0)) rfl (Rws.below HR.out (boxed W _)) (by omega) (by simp) ?_; intro p6 c6 W6 ho6 hg6; refine Hid.out ?_)
      refine Lib.hid ?_
      have hb6 : Below W.heap.size W W6 := (boxed W _).trans (hg6.below (by simp) (fun a ha => ((Own2.empty W).outer.lt a ha).1))
      simp only [Nat.zero_add, List.map_nil, List.nil_append] at ho6
      have HW6 := Lib.hid (HW.out.below hb6)
      have hy6 := hyW.below hb6
      have hs6 := hb6.size
      clear HW hyW
      go_wp2_with fail
      refine wp_region_u 10 11 (fun _ => True) (by kernel_rfl) rfl (by (try dsimp only); try trivial) (fun hHeld => ?_)
      first
        | (refine WalkU.take (i := 0) (v := ?_) rfl (by kernel_rfl) (by kernel_rfl) (by kernel_rfl) (by kernel_rfl) (fun _ _ _ h => h) (Or.inl ⟨by rfl, ?_⟩) hHeld ?_
           rotate_left
           · (intro w hSw; (try dsimp only at hSw); go_simp; try with_reducible rfl)
           try simp only [Act.put, List.setIfInBounds_toArray, List.set_cons_zero, List.set_cons_succ])
        | (refine WalkU.take (i := 0) (v := undef) rfl (by kernel_rfl) (by kernel_rfl) (by kernel_rfl) (by kernel_rfl) (fun _ _ _ h => h) (Or.inr ⟨by rfl, rfl⟩) hHeld ?_
           try simp only [Act.put, List.setIfInBounds_toArray, List.set_cons_zero, List.set_cons_succ])
        | (refine WalkU.one (i := 0) rfl (by kernel_rfl) (fun K hK => ?_)
           first
             | (first | (refine step_append_ints rfl (.tmp 42) (.tmp 43) rfl _ W6.heap.size _ _ _ _ _ rfl (Own.empty W6.drew) _ _ _ _ rfl (hy6.drew.alloc _) (by omega) (by simp) ?_; intro p5 c5 W5 ho5 hg5; simp only [Nat.zero_add, List.nil_append] at ho5; have hb5 : Below W6.heap.size W6 W5 := ((drewBelow W6).trans (boxed W6.drew _)).trans (hg5.belowO (Own.empty W6.drew) (by simp)); have hv7 := ((HW6.out.outer.pre hcA).below hb5).below (boxed W5 (.cells #[.slice p5 m c5] 39)); have hs5 := hb5.size; have hr7 := (ho6.below hb5).below (boxed W5 (.cells #[.slice p5 m c5] 39))) | (refine step_append_row rfl (.tmp 41) (.tmp 45) rfl _ lo _ _ _ _ _ rfl hv7 _ _ _ _ rfl (cellNew _ _ _) (by omega) (by simp; omega) ?_; intro p7 c7 W7 ho7 hg7; have hR7 := (hr7.kept hg7.by_ (blkNe hgl (Nat.le_trans hsW (Nat.le_refl _)) ho6)).rws; have hs7 := hg7.by_.size) | (refine step_append_rows rfl (.tmp 46) (.tmp 47) rfl _ lo _ _ _ _ _ rfl ho7 _ _ _ _ rfl hR7 (by omega) (by simp at hs7; omega) ?_; intro p9 c9 W9 ho9 hg9))
             | (go_simp; (first | (refine step_append_ints rfl (.tmp 42) (.tmp 43) rfl _ W6.heap.size _ _ _ _ _ rfl (Own.empty W6.drew) _ _ _ _ rfl (hy6.drew.alloc _) (by omega) (by simp) ?_; intro p5 c5 W5 ho5 hg5; simp only [Nat.zero_add, List.nil_append] at ho5; have hb5 : Below W6.heap.size W6 W5 := ((drewBelow W6).trans (boxed W6.drew _)).trans (hg5.belowO (Own.empty W6.drew) (by simp)); have hv7 := ((HW6.out.outer.pre hcA).below hb5).below (boxed W5 (.cells #[.slice p5 m c5] 39)); have hs5 := hb5.size; have hr7 := (ho6.below hb5).below (boxed W5 (.cells #[.slice p5 m c5] 39))) | (refine step_append_row rfl (.tmp 41) (.tmp 45) rfl _ lo _ _ _ _ _ rfl hv7 _ _ _ _ rfl (cellNew _ _ _) (by omega) (by simp; omega) ?_; intro p7 c7 W7 ho7 hg7; have hR7 := (hr7.kept hg7.by_ (blkNe hgl (Nat.le_trans hsW (Nat.le_refl _)) ho6)).rws; have hs7 := hg7.by_.size) | (refine step_append_rows rfl (.tmp 46) (.tmp 47) rfl _ lo _ _ _ _ _ rfl ho7 _ _ _ _ rfl hR7 (by omega) (by simp at hs7; omega) ?_; intro p9 c9 W9 ho9 hg9)))
             | go_simp
           refine hK.out _ _ ?_ (fun hHeld => ?_)
           · ((try dsimp only); try trivial)
           clear hK K
           try simp only [Act.put, List.setIfInBounds_toArray, List.set_cons_zero, List.set_cons_succ])
      first
        | (refine WalkU.take (i := 1) (v := ?_) rfl (by kernel_rfl) (by kernel_rfl) (by kernel_rfl) (by kernel_rfl) (fun _ _ _ h => h) (Or.inl ⟨by rfl, ?_⟩) hHeld ?_
           rotate_left
           · (intro w hSw; (try dsimp only at hSw); go_simp; try with_reducible rfl)
           try simp only [Act.put, List.setIfInBounds_toArray, List.set_cons_zero, List.set_cons_succ])
        | (refine WalkU.take (i := 1) (v := undef) rfl (by kernel_rfl) (by kernel_rfl) (by kernel_rfl) (by kernel_rfl) (fun _ _ _ h => h) (Or.inr ⟨by rfl, rfl⟩) hHeld ?_
           try simp only [Act.put, List.setIfInBounds_toArray, List.set_cons_zero, List.set_cons_succ])
        | (refine WalkU.one (i := 1) rfl (by kernel_rfl) (fun K hK => ?_)
           first
             | (first | (refine step_append_ints rfl (.tmp 42) (.tmp 43) rfl _ W6.heap.size _ _ _ _ _ rfl (Own.empty W6.drew) _ _ _ _ rfl (hy6.drew.alloc _) (by omega) (by simp) ?_; intro p5 c5 W5 ho5 hg5; simp only [Nat.zero_add, List.nil_append] at ho5; have hb5 : Below W6.heap.size W6 W5 := ((drewBelow W6).trans (boxed W6.drew _)).trans (hg5.belowO (Own.empty W6.drew) (by simp)); have hv7 := ((HW6.out.outer.pre hcA).below hb5).below (boxed W5 (.cells #[.slice p5 m c5] 39)); have hs5 := hb5.size; have hr7 := (ho6.below hb5).below (boxed W5 (.cells #[.slice p5 m c5] 39))) | (refine step_append_row rfl (.tmp 41) (.tmp 45) rfl _ lo _ _ _ _ _ rfl hv7 _ _ _ _ rfl (cellNew _ _ _) (by omega) (by simp; omega) ?_; intro p7 c7 W7 ho7 hg7; have hR7 := (hr7.kept hg7.by_ (blkNe hgl (Nat.le_trans hsW (Nat.le_refl _)) ho6)).rws; have hs7 := hg7.by_.size) | (refine step_append_rows rfl (.tmp 46) (.tmp 47) rfl _ lo _ _ _ _ _ rfl ho7 _ _ _ _ rfl hR7 (by omega) (by simp at hs7; omega) ?_; intro p9 c9 W9 ho9 hg9))
             | (go_simp; (first | (refine step_append_ints rfl (.tmp 42) (.tmp 43) rfl _ W6.heap.size _ _ _ _ _ rfl (Own.empty W6.drew) _ _ _ _ rfl (hy6.drew.alloc _) (by omega) (by simp) ?_; intro p5 c5 W5 ho5 hg5; simp only [Nat.zero_add, List.nil_append] at ho5; have hb5 : Below W6.heap.size W6 W5 := ((drewBelow W6).trans (boxed W6.drew _)).trans (hg5.belowO (Own.empty W6.drew) (by simp)); have hv7 := ((HW6.out.outer.pre hcA).below hb5).below (boxed W5 (.cells #[.slice p5 m c5] 39)); have hs5 := hb5.size; have hr7 := (ho6.below hb5).below (boxed W5 (.cells #[.slice p5 m c5] 39))) | (refine step_append_row rfl (.tmp 41) (.tmp 45) rfl _ lo _ _ _ _ _ rfl hv7 _ _ _ _ rfl (cellNew _ _ _) (by omega) (by simp; omega) ?_; intro p7 c7 W7 ho7 hg7; have hR7 := (hr7.kept hg7.by_ (blkNe hgl (Nat.le_trans hsW (Nat.le_refl _)) ho6)).rws; have hs7 := hg7.by_.size) | (refine step_append_rows rfl (.tmp 46) (.tmp 47) rfl _ lo _ _ _ _ _ rfl ho7 _ _ _ _ rfl hR7 (by omega) (by simp at hs7; omega) ?_; intro p9 c9 W9 ho9 hg9)))
             | go_simp
           refine hK.out _ _ ?_ (fun hHeld => ?_)
           · ((try dsimp only); try trivial)
           clear hK K
           try simp only [Act.put, List.setIfInBounds_toArray, List.set_cons_zero, List.set_cons_succ])
      first
        | (refine WalkU.take (i := 2) (v := ?_) rfl (by kernel_rfl) (by kernel_rfl) (by kernel_rfl) (by kernel_rfl) (fun _ _ _ h => h) (Or.inl ⟨by rfl, ?_⟩) hHeld ?_
           rotate_left
           · (intro w hSw; (try dsimp only at hSw); go_simp; try with_reducible rfl)
           try simp only [Act.put, List.setIfInBounds_toArray, List.set_cons_zero, List.set_cons_succ])
        | (refine WalkU.take (i := 2) (v := undef) rfl (by kernel_rfl) (by kernel_rfl) (by kernel_rfl) (by kernel_rfl) (fun _ _ _ h => h) (Or.inr ⟨by rfl, rfl⟩) hHeld ?_
           try simp only [Act.put, List.setIfInBounds_toArray, List.set_cons_zero, List.set_cons_succ])
        | (refine WalkU.one (i := 2) rfl (by kernel_rfl) (fun K hK => ?_)
           first
             | (first | (refine step_append_ints rfl (.tmp 42) (.tmp 43) rfl _ W6.heap.size _ _ _ _ _ rfl (Own.empty W6.drew) _ _ _ _ rfl (hy6.drew.alloc _) (by omega) (by simp) ?_; intro p5 c5 W5 ho5 hg5; simp only [Nat.zero_add, List.nil_append] at ho5; have hb5 : Below W6.heap.size W6 W5 := ((drewBelow W6).trans (boxed W6.drew _)).trans (hg5.belowO (Own.empty W6.drew) (by simp)); have hv7 := ((HW6.out.outer.pre hcA).below hb5).below (boxed W5 (.cells #[.slice p5 m c5] 39)); have hs5 := hb5.size; have hr7 := (ho6.below hb5).below (boxed W5 (.cells #[.slice p5 m c5] 39))) | (refine step_append_row rfl (.tmp 41) (.tmp 45) rfl _ lo _ _ _ _ _ rfl hv7 _ _ _ _ rfl (cellNew _ _ _) (by omega) (by simp; omega) ?_; intro p7 c7 W7 ho7 hg7; have hR7 := (hr7.kept hg7.by_ (blkNe hgl (Nat.le_trans hsW (Nat.le_refl _)) ho6)).rws; have hs7 := hg7.by_.size) | (refine step_append_rows rfl (.tmp 46) (.tmp 47) rfl _ lo _ _ _ _ _ rfl ho7 _ _ _ _ rfl hR7 (by omega) (by simp at hs7; omega) ?_; intro p9 c9 W9 ho9 hg9))
             | (go_simp; (first | (refine step_append_ints rfl (.tmp 42) (.tmp 43) rfl _ W6.heap.size _ _ _ _ _ rfl (Own.empty W6.drew) _ _ _ _ rfl (hy6.drew.alloc _) (by omega) (by simp) ?_; intro p5 c5 W5 ho5 hg5; simp only [Nat.zero_add, List.nil_append] at ho5; have hb5 : Below W6.heap.size W6 W5 := ((drewBelow W6).trans (boxed W6.drew _)).trans (hg5.belowO (Own.empty W6.drew) (by simp)); have hv7 := ((HW6.out.outer.pre hcA).below hb5).below (boxed W5 (.cells #[.slice p5 m c5] 39)); have hs5 := hb5.size; have hr7 := (ho6.below hb5).below (boxed W5 (.cells #[.slice p5 m c5] 39))) | (refine step_append_row rfl (.tmp 41) (.tmp 45) rfl _ lo _ _ _ _ _ rfl hv7 _ _ _ _ rfl (cellNew _ _ _) (by omega) (by simp; omega) ?_; intro p7 c7 W7 ho7 hg7; have hR7 := (hr7.kept hg7.by_ (blkNe hgl (Nat.le_trans hsW (Nat.le_refl _)) ho6)).rws; have hs7 := hg7.by_.size) | (refine step_append_rows rfl (.tmp 46) (.tmp 47) rfl _ lo _ _ _ _ _ rfl ho7 _ _ _ _ rfl hR7 (by omega) (by simp at hs7; omega) ?_; intro p9 c9 W9 ho9 hg9)))
             | go_simp
           refine hK.out _ _ ?_ (fun hHeld => ?_)
           · ((try dsimp only); try trivial)
           clear hK K
           try simp only [Act.put, List.setIfInBounds_toArray, List.set_cons_zero, List.set_cons_succ])
      first
        | (refine WalkU.take (i := 4) (v := ?_) rfl (by kernel_rfl) (by kernel_rfl) (by kernel_rfl) (by kernel_rfl) (fun _ _ _ h => h) (Or.inl ⟨by rfl, ?_⟩) hHeld ?_
           rotate_left
           · (intro w hSw; (try dsimp only at hSw); go_simp; try with_reducible rfl)
           try simp only [Act.put, List.setIfInBounds_toArray, List.set_cons_zero, List.set_cons_succ])
        | (refine WalkU.take (i := 4) (v := undef) rfl (by kernel_rfl) (by kernel_rfl) (by kernel_rfl) (by kernel_rfl) (fun _ _ _ h => h) (Or.inr ⟨by rfl, rfl⟩) hHeld ?_
           try simp only [Act.put, List.setIfInBounds_toArray, List.set_cons_zero, List.set_cons_succ])
        | (refine WalkU.one (i := 4) rfl (by kernel_rfl) (fun K hK => ?_)
           first
             | (first | (refine step_append_ints rfl (.tmp 42) (.tmp 43) rfl _ W6.heap.size _ _ _ _ _ rfl (Own.empty W6.drew) _ _ _ _ rfl (hy6.drew.alloc _) (by omega) (by simp) ?_; intro p5 c5 W5 ho5 hg5; simp only [Nat.zero_add, List.nil_append] at ho5; have hb5 : Below W6.heap.size W6 W5 := ((drewBelow W6).trans (boxed W6.drew _)).trans (hg5.belowO (Own.empty W6.drew) (by simp)); have hv7 := ((HW6.out.outer.pre hcA).below hb5).below (boxed W5 (.cells #[.slice p5 m c5] 39)); have hs5 := hb5.size; have hr7 := (ho6.below hb5).below (boxed W5 (.cells #[.slice p5 m c5] 39))) | (refine step_append_row rfl (.tmp 41) (.tmp 45) rfl _ lo _ _ _ _ _ rfl hv7 _ _ _ _ rfl (cellNew _ _ _) (by omega) (by simp; omega) ?_; intro p7 c7 W7 ho7 hg7; have hR7 := (hr7.kept hg7.by_ (blkNe hgl (Nat.le_trans hsW (Nat.le_refl _)) ho6)).rws; have hs7 := hg7.by_.size) | (refine step_append_rows rfl (.tmp 46) (.tmp 47) rfl _ lo _ _ _ _ _ rfl ho7 _ _ _ _ rfl hR7 (by omega) (by simp at hs7; omega) ?_; intro p9 c9 W9 ho9 hg9))
             | (go_simp; (first | (refine step_append_ints rfl (.tmp 42) (.tmp 43) rfl _ W6.heap.size _ _ _ _ _ rfl (Own.empty W6.drew) _ _ _ _ rfl (hy6.drew.alloc _) (by omega) (by simp) ?_; intro p5 c5 W5 ho5 hg5; simp only [Nat.zero_add, List.nil_append] at ho5; have hb5 : Below W6.heap.size W6 W5 := ((drewBelow W6).trans (boxed W6.drew _)).trans (hg5.belowO (Own.empty W6.drew) (by simp)); have hv7 := ((HW6.out.outer.pre hcA).below hb5).below (boxed W5 (.cells #[.slice p5 m c5] 39)); have hs5 := hb5.size; have hr7 := (ho6.below hb5).below (boxed W5 (.cells #[.slice p5 m c5] 39))) | (refine step_append_row rfl (.tmp 41) (.tmp 45) rfl _ lo _ _ _ _ _ rfl hv7 _ _ _ _ rfl (cellNew _ _ _) (by omega) (by simp; omega) ?_; intro p7 c7 W7 ho7 hg7; have hR7 := (hr7.kept hg7.by_ (blkNe hgl (Nat.le_trans hsW (Nat.le_refl _)) ho6)).rws; have hs7 := hg7.by_.size) | (refine step_append_rows rfl (.tmp 46) (.tmp 47) rfl _ lo _ _ _ _ _ rfl ho7 _ _ _ _ rfl hR7 (by omega) (by simp at hs7; omega) ?_; intro p9 c9 W9 ho9 hg9)))
             | go_simp
           refine hK.out _ _ ?_ (fun hHeld => ?_)
           · ((try dsimp only); try trivial)
           clear hK K
           try simp only [Act.put, List.setIfInBounds_toArray, List.set_cons_zero, List.set_cons_succ])
      first
        | (refine WalkU.take (i := 8) (v := ?_) rfl (by kernel_rfl) (by kernel_rfl) (by kernel_rfl) (by kernel_rfl) (fun _ _ _ h => h) (Or.inl ⟨by rfl, ?_⟩) hHeld ?_
           rotate_left
           · (intro w hSw; (try dsimp only at hSw); go_simp; try with_reducible rfl)
           try simp only [Act.put, List.setIfInBounds_toArray, List.set_cons_zero, List.set_cons_succ])
        | (refine WalkU.take (i := 8) (v := undef) rfl (by kernel_rfl) (by kernel_rfl) (by kernel_rfl) (by kernel_rfl) (fun _ _ _ h => h) (Or.inr ⟨by rfl, rfl⟩) hHeld ?_
           try simp only [Act.put, List.setIfInBounds_toArray, List.set_cons_zero, List.set_cons_succ])
        | (refine WalkU.one (i := 8) rfl (by kernel_rfl) (fun K hK => ?_)
           first
             | (first | (refine step_append_ints rfl (.tmp 42) (.tmp 43) rfl _ W6.heap.size _ _ _ _ _ rfl (Own.empty W6.drew) _ _ _ _ rfl (hy6.drew.alloc _) (by omega) (by simp) ?_; intro p5 c5 W5 ho5 hg5; simp only [Nat.zero_add, List.nil_append] at ho5; have hb5 : Below W6.heap.size W6 W5 := ((drewBelow W6).trans (boxed W6.drew _)).trans (hg5.belowO (Own.empty W6.drew) (by simp)); have hv7 := ((HW6.out.outer.pre hcA).below hb5).below (boxed W5 (.cells #[.slice p5 m c5] 39)); have hs5 := hb5.size; have hr7 := (ho6.below hb5).below (boxed W5 (.cells #[.slice p5 m c5] 39))) | (refine step_append_row rfl (.tmp 41) (.tmp 45) rfl _ lo _ _ _ _ _ rfl hv7 _ _ _ _ rfl (cellNew _ _ _) (by omega) (by simp; omega) ?_; intro p7 c7 W7 ho7 hg7; have hR7 := (hr7.kept hg7.by_ (blkNe hgl (Nat.le_trans hsW (Nat.le_refl _)) ho6)).rws; have hs7 := hg7.by_.size) | (refine step_append_rows rfl (.tmp 46) (.tmp 47) rfl _ lo _ _ _ _ _ rfl ho7 _ _ _ _ rfl hR7 (by omega) (by simp at hs7; omega) ?_; intro p9 c9 W9 ho9 hg9))
             | (go_simp; (first | (refine step_append_ints rfl (.tmp 42) (.tmp 43) rfl _ W6.heap.size _ _ _ _ _ rfl (Own.empty W6.drew) _ _ _ _ rfl (hy6.drew.alloc _) (by omega) (by simp) ?_; intro p5 c5 W5 ho5 hg5; simp only [Nat.zero_add, List.nil_append] at ho5; have hb5 : Below W6.heap.size W6 W5 := ((drewBelow W6).trans (boxed W6.drew _)).trans (hg5.belowO (Own.empty W6.drew) (by simp)); have hv7 := ((HW6.out.outer.pre hcA).below hb5).below (boxed W5 (.cells #[.slice p5 m c5] 39)); have hs5 := hb5.size; have hr7 := (ho6.below hb5).below (boxed W5 (.cells #[.slice p5 m c5] 39))) | (refine step_append_row rfl (.tmp 41) (.tmp 45) rfl _ lo _ _ _ _ _ rfl hv7 _ _ _ _ rfl (cellNew _ _ _) (by omega) (by simp; omega) ?_; intro p7 c7 W7 ho7 hg7; have hR7 := (hr7.kept hg7.by_ (blkNe hgl (Nat.le_trans hsW (Nat.le_refl _)) ho6)).rws; have hs7 := hg7.by_.size) | (refine step_append_rows rfl (.tmp 46) (.tmp 47) rfl _ lo _ _ _ _ _ rfl ho7 _ _ _ _ rfl hR7 (by omega) (by simp at hs7; omega) ?_; intro p9 c9 W9 ho9 hg9)))
             | go_simp
           refine hK.out _ _ ?_ (fun hHeld => ?_)
           · ((try dsimp only); try trivial)
           clear hK K
           try simp only [Act.put, List.setIfInBounds_toArray, List.set_cons_zero, List.set_cons_succ])
      first
        | (refine WalkU.take (i := 3) (v := ?_) rfl (by kernel_rfl) (by kernel_rfl) (by kernel_rfl) (by kernel_rfl) (fun _ _ _ h => h) (Or.inl ⟨by rfl, ?_⟩) hHeld ?_
           rotate_left
           · (intro w hSw; (try dsimp only at hSw); go_simp; try with_reducible rfl)
           try simp only [Act.put, List.setIfInBounds_toArray, List.set_cons_zero, List.set_cons_succ])
        | (refine WalkU.take (i := 3) (v := undef) rfl (by kernel_rfl) (by kernel_rfl) (by kernel_rfl) (by kernel_rfl) (fun _ _ _ h => h) (Or.inr ⟨by rfl, rfl⟩) hHeld ?_
           try simp only [Act.put, List.setIfInBounds_toArray, List.set_cons_zero, List.set_cons_succ])
        | (refine WalkU.one (i := 3) rfl (by kernel_rfl) (fun K hK => ?_)
           first
             | (first | (refine step_append_ints rfl (.tmp 42) (.tmp 43) rfl _ W6.heap.size _ _ _ _ _ rfl (Own.empty W6.drew) _ _ _ _ rfl (hy6.drew.alloc _) (by omega) (by simp) ?_; intro p5 c5 W5 ho5 hg5; simp only [Nat.zero_add, List.nil_append] at ho5; have hb5 : Below W6.heap.size W6 W5 := ((drewBelow W6).trans (boxed W6.drew _)).trans (hg5.belowO (Own.empty W6.drew) (by simp)); have hv7 := ((HW6.out.outer.pre hcA).below hb5).below (boxed W5 (.cells #[.slice p5 m c5] 39)); have hs5 := hb5.size; have hr7 := (ho6.below hb5).below (boxed W5 (.cells #[.slice p5 m c5] 39))) | (refine step_append_row rfl (.tmp 41) (.tmp 45) rfl _ lo _ _ _ _ _ rfl hv7 _ _ _ _ rfl (cellNew _ _ _) (by omega) (by simp; omega) ?_; intro p7 c7 W7 ho7 hg7; have hR7 := (hr7.kept hg7.by_ (blkNe hgl (Nat.le_trans hsW (Nat.le_refl _)) ho6)).rws; have hs7 := hg7.by_.size) | (refine step_append_rows rfl (.tmp 46) (.tmp 47) rfl _ lo _ _ _ _ _ rfl ho7 _ _ _ _ rfl hR7 (by omega) (by simp at hs7; omega) ?_; intro p9 c9 W9 ho9 hg9))
             | (go_simp; (first | (refine step_append_ints rfl (.tmp 42) (.tmp 43) rfl _ W6.heap.size _ _ _ _ _ rfl (Own.empty W6.drew) _ _ _ _ rfl (hy6.drew.alloc _) (by omega) (by simp) ?_; intro p5 c5 W5 ho5 hg5; simp only [Nat.zero_add, List.nil_append] at ho5; have hb5 : Below W6.heap.size W6 W5 := ((drewBelow W6).trans (boxed W6.drew _)).trans (hg5.belowO (Own.empty W6.drew) (by simp)); have hv7 := ((HW6.out.outer.pre hcA).below hb5).below (boxed W5 (.cells #[.slice p5 m c5] 39)); have hs5 := hb5.size; have hr7 := (ho6.below hb5).below (boxed W5 (.cells #[.slice p5 m c5] 39))) | (refine step_append_row rfl (.tmp 41) (.tmp 45) rfl _ lo _ _ _ _ _ rfl hv7 _ _ _ _ rfl (cellNew _ _ _) (by omega) (by simp; omega) ?_; intro p7 c7 W7 ho7 hg7; have hR7 := (hr7.kept hg7.by_ (blkNe hgl (Nat.le_trans hsW (Nat.le_refl _)) ho6)).rws; have hs7 := hg7.by_.size) | (refine step_append_rows rfl (.tmp 46) (.tmp 47) rfl _ lo _ _ _ _ _ rfl ho7 _ _ _ _ rfl hR7 (by omega) (by simp at hs7; omega) ?_; intro p9 c9 W9 ho9 hg9)))
             | go_simp
           refine hK.out _ _ ?_ (fun hHeld => ?_)
           · ((try dsimp only); try trivial)
           clear hK K
           try simp only [Act.put, List.setIfInBounds_toArray, List.set_cons_zero, List.set_cons_succ])
      first
        | (refine WalkU.take (i := 5) (v := ?_) rfl (by kernel_rfl) (by kernel_rfl) (by kernel_rfl) (by kernel_rfl) (fun _ _ _ h => h) (Or.inl ⟨by rfl, ?_⟩) hHeld ?_
           rotate_left
           · (intro w hSw; (try dsimp only at hSw); go_simp; try with_reducible rfl)
           try simp only [Act.put, List.setIfInBounds_toArray, List.set_cons_zero, List.set_cons_succ])
        | (refine WalkU.take (i := 5) (v := undef) rfl (by kernel_rfl) (by kernel_rfl) (by kernel_rfl) (by kernel_rfl) (fun _ _ _ h => h) (Or.inr ⟨by rfl, rfl⟩) hHeld ?_
           try simp only [Act.put, List.setIfInBounds_toArray, List.set_cons_zero, List.set_cons_succ])
        | (refine WalkU.one (i := 5) rfl (by kernel_rfl) (fun K hK => ?_)
           first
             | (first | (refine step_append_ints rfl (.tmp 42) (.tmp 43) rfl _ W6.heap.size _ _ _ _ _ rfl (Own.empty W6.drew) _ _ _ _ rfl (hy6.drew.alloc _) (by omega) (by simp) ?_; intro p5 c5 W5 ho5 hg5; simp only [Nat.zero_add, List.nil_append] at ho5; have hb5 : Below W6.heap.size W6 W5 := ((drewBelow W6).trans (boxed W6.drew _)).trans (hg5.belowO (Own.empty W6.drew) (by simp)); have hv7 := ((HW6.out.outer.pre hcA).below hb5).below (boxed W5 (.cells #[.slice p5 m c5] 39)); have hs5 := hb5.size; have hr7 := (ho6.below hb5).below (boxed W5 (.cells #[.slice p5 m c5] 39))) | (refine step_append_row rfl (.tmp 41) (.tmp 45) rfl _ lo _ _ _ _ _ rfl hv7 _ _ _ _ rfl (cellNew _ _ _) (by omega) (by simp; omega) ?_; intro p7 c7 W7 ho7 hg7; have hR7 := (hr7.kept hg7.by_ (blkNe hgl (Nat.le_trans hsW (Nat.le_refl _)) ho6)).rws; have hs7 := hg7.by_.size) | (refine step_append_rows rfl (.tmp 46) (.tmp 47) rfl _ lo _ _ _ _ _ rfl ho7 _ _ _ _ rfl hR7 (by omega) (by simp at hs7; omega) ?_; intro p9 c9 W9 ho9 hg9))
             | (go_simp; (first | (refine step_append_ints rfl (.tmp 42) (.tmp 43) rfl _ W6.heap.size _ _ _ _ _ rfl (Own.empty W6.drew) _ _ _ _ rfl (hy6.drew.alloc _) (by omega) (by simp) ?_; intro p5 c5 W5 ho5 hg5; simp only [Nat.zero_add, List.nil_append] at ho5; have hb5 : Below W6.heap.size W6 W5 := ((drewBelow W6).trans (boxed W6.drew _)).trans (hg5.belowO (Own.empty W6.drew) (by simp)); have hv7 := ((HW6.out.outer.pre hcA).below hb5).below (boxed W5 (.cells #[.slice p5 m c5] 39)); have hs5 := hb5.size; have hr7 := (ho6.below hb5).below (boxed W5 (.cells #[.slice p5 m c5] 39))) | (refine step_append_row rfl (.tmp 41) (.tmp 45) rfl _ lo _ _ _ _ _ rfl hv7 _ _ _ _ rfl (cellNew _ _ _) (by omega) (by simp; omega) ?_; intro p7 c7 W7 ho7 hg7; have hR7 := (hr7.kept hg7.by_ (blkNe hgl (Nat.le_trans hsW (Nat.le_refl _)) ho6)).rws; have hs7 := hg7.by_.size) | (refine step_append_rows rfl (.tmp 46) (.tmp 47) rfl _ lo _ _ _ _ _ rfl ho7 _ _ _ _ rfl hR7 (by omega) (by simp at hs7; omega) ?_; intro p9 c9 W9 ho9 hg9)))
             | go_simp
           refine hK.out _ _ ?_ (fun hHeld => ?_)
           · ((try dsimp only); try trivial)
           clear hK K
           try simp only [Act.put, List.setIfInBounds_toArray, List.set_cons_zero, List.set_cons_succ])
      first
        | (refine WalkU.take (i := 6) (v := ?_) rfl (by kernel_rfl) (by kernel_rfl) (by kernel_rfl) (by kernel_rfl) (fun _ _ _ h => h) (Or.inl ⟨by rfl, ?_⟩) hHeld ?_
           rotate_left
           · (intro w hSw; (try dsimp only at hSw); go_simp; try with_reducible rfl)
           try simp only [Act.put, List.setIfInBounds_toArray, List.set_cons_zero, List.set_cons_succ])
        | (refine WalkU.take (i := 6) (v := undef) rfl (by kernel_rfl) (by kernel_rfl) (by kernel_rfl) (by kernel_rfl) (fun _ _ _ h => h) (Or.inr ⟨by rfl, rfl⟩) hHeld ?_
           try simp only [Act.put, List.setIfInBounds_toArray, List.set_cons_zero, List.set_cons_succ])
        | (refine WalkU.one (i := 6) rfl (by kernel_rfl) (fun K hK => ?_)
           first
             | (first | (refine step_append_ints rfl (.tmp 42) (.tmp 43) rfl _ W6.heap.size _ _ _ _ _ rfl (Own.empty W6.drew) _ _ _ _ rfl (hy6.drew.alloc _) (by omega) (by simp) ?_; intro p5 c5 W5 ho5 hg5; simp only [Nat.zero_add, List.nil_append] at ho5; have hb5 : Below W6.heap.size W6 W5 := ((drewBelow W6).trans (boxed W6.drew _)).trans (hg5.belowO (Own.empty W6.drew) (by simp)); have hv7 := ((HW6.out.outer.pre hcA).below hb5).below (boxed W5 (.cells #[.slice p5 m c5] 39)); have hs5 := hb5.size; have hr7 := (ho6.below hb5).below (boxed W5 (.cells #[.slice p5 m c5] 39))) | (refine step_append_row rfl (.tmp 41) (.tmp 45) rfl _ lo _ _ _ _ _ rfl hv7 _ _ _ _ rfl (cellNew _ _ _) (by omega) (by simp; omega) ?_; intro p7 c7 W7 ho7 hg7; have hR7 := (hr7.kept hg7.by_ (blkNe hgl (Nat.le_trans hsW (Nat.le_refl _)) ho6)).rws; have hs7 := hg7.by_.size) | (refine step_append_rows rfl (.tmp 46) (.tmp 47) rfl _ lo _ _ _ _ _ rfl ho7 _ _ _ _ rfl hR7 (by omega) (by simp at hs7; omega) ?_; intro p9 c9 W9 ho9 hg9))
             | (go_simp; (first | (refine step_append_ints rfl (.tmp 42) (.tmp 43) rfl _ W6.heap.size _ _ _ _ _ rfl (Own.empty W6.drew) _ _ _ _ rfl (hy6.drew.alloc _) (by omega) (by simp) ?_; intro p5 c5 W5 ho5 hg5; simp only [Nat.zero_add, List.nil_append] at ho5; have hb5 : Below W6.heap.size W6 W5 := ((drewBelow W6).trans (boxed W6.drew _)).trans (hg5.belowO (Own.empty W6.drew) (by simp)); have hv7 := ((HW6.out.outer.pre hcA).below hb5).below (boxed W5 (.cells #[.slice p5 m c5] 39)); have hs5 := hb5.size; have hr7 := (ho6.below hb5).below (boxed W5 (.cells #[.slice p5 m c5] 39))) | (refine step_append_row rfl (.tmp 41) (.tmp 45) rfl _ lo _ _ _ _ _ rfl hv7 _ _ _ _ rfl (cellNew _ _ _) (by omega) (by simp; omega) ?_; intro p7 c7 W7 ho7 hg7; have hR7 := (hr7.kept hg7.by_ (blkNe hgl (Nat.le_trans hsW (Nat.le_refl _)) ho6)).rws; have hs7 := hg7.by_.size) | (refine step_append_rows rfl (.tmp 46) (.tmp 47) rfl _ lo _ _ _ _ _ rfl ho7 _ _ _ _ rfl hR7 (by omega) (by simp at hs7; omega) ?_; intro p9 c9 W9 ho9 hg9)))
             | go_simp
           refine hK.out _ _ ?_ (fun hHeld => ?_)
           · ((try dsimp only); try trivial)
           clear hK K
           try simp only [Act.put, List.setIfInBounds_toArray, List.set_cons_zero, List.set_cons_succ])
      first
        | (refine WalkU.take (i := 7) (v := ?_) rfl (by kernel_rfl) (by kernel_rfl) (by kernel_rfl) (by kernel_rfl) (fun _ _ _ h => h) (Or.inl ⟨by rfl, ?_⟩) hHeld ?_
           rotate_left
           · (intro w hSw; (try dsimp only at hSw); go_simp; try with_reducible rfl)
           try simp only [Act.put, List.setIfInBounds_toArray, List.set_cons_zero, List.set_cons_succ])
        | (refine WalkU.take (i := 7) (v := undef) rfl (by kernel_rfl) (by kernel_rfl) (by kernel_rfl) (by kernel_rfl) (fun _ _ _ h => h) (Or.inr ⟨by rfl, rfl⟩) hHeld ?_
           try simp only [Act.put, List.setIfInBounds_toArray, List.set_cons_zero, List.set_cons_succ])
        | (refine WalkU.one (i := 7) rfl (by kernel_rfl) (fun K hK => ?_)
           first
             | (first | (refine step_append_ints rfl (.tmp 42) (.tmp 43) rfl _ W6.heap.size _ _ _ _ _ rfl (Own.empty W6.drew) _ _ _ _ rfl (hy6.drew.alloc _) (by omega) (by simp) ?_; intro p5 c5 W5 ho5 hg5; simp only [Nat.zero_add, List.nil_append] at ho5; have hb5 : Below W6.heap.size W6 W5 := ((drewBelow W6).trans (boxed W6.drew _)).trans (hg5.belowO (Own.empty W6.drew) (by simp)); have hv7 := ((HW6.out.outer.pre hcA).below hb5).below (boxed W5 (.cells #[.slice p5 m c5] 39)); have hs5 := hb5.size; have hr7 := (ho6.below hb5).below (boxed W5 (.cells #[.slice p5 m c5] 39))) | (refine step_append_row rfl (.tmp 41) (.tmp 45) rfl _ lo _ _ _ _ _ rfl hv7 _ _ _ _ rfl (cellNew _ _ _) (by omega) (by simp; omega) ?_; intro p7 c7 W7 ho7 hg7; have hR7 := (hr7.kept hg7.by_ (blkNe hgl (Nat.le_trans hsW (Nat.le_refl _)) ho6)).rws; have hs7 := hg7.by_.size) | (refine step_append_rows rfl (.tmp 46) (.tmp 47) rfl _ lo _ _ _ _ _ rfl ho7 _ _ _ _ rfl hR7 (by omega) (by simp at hs7; omega) ?_; intro p9 c9 W9 ho9 hg9))
             | (go_simp; (first | (refine step_append_ints rfl (.tmp 42) (.tmp 43) rfl _ W6.heap.size _ _ _ _ _ rfl (Own.empty W6.drew) _ _ _ _ rfl (hy6.drew.alloc _) (by omega) (by simp) ?_; intro p5 c5 W5 ho5 hg5; simp only [Nat.zero_add, List.nil_append] at ho5; have hb5 : Below W6.heap.size W6 W5 := ((drewBelow W6).trans (boxed W6.drew _)).trans (hg5.belowO (Own.empty W6.drew) (by simp)); have hv7 := ((HW6.out.outer.pre hcA).below hb5).below (boxed W5 (.cells #[.slice p5 m c5] 39)); have hs5 := hb5.size; have hr7 := (ho6.below hb5).below (boxed W5 (.cells #[.slice p5 m c5] 39))) | (refine step_append_row rfl (.tmp 41) (.tmp 45) rfl _ lo _ _ _ _ _ rfl hv7 _ _ _ _ rfl (cellNew _ _ _) (by omega) (by simp; omega) ?_; intro p7 c7 W7 ho7 hg7; have hR7 := (hr7.kept hg7.by_ (blkNe hgl (Nat.le_trans hsW (Nat.le_refl _)) ho6)).rws; have hs7 := hg7.by_.size) | (refine step_append_rows rfl (.tmp 46) (.tmp 47) rfl _ lo _ _ _ _ _ rfl ho7 _ _ _ _ rfl hR7 (by omega) (by simp at hs7; omega) ?_; intro p9 c9 W9 ho9 hg9)))
             | go_simp
           refine hK.out _ _ ?_ (fun hHeld => ?_)
           · ((try dsimp only); try trivial)
           clear hK K
           try simp only [Act.put, List.setIfInBounds_toArray, List.set_cons_zero, List.set_cons_succ])
      first
        | (refine WalkU.take (i := 9) (v := ?_) rfl (by kernel_rfl) (by kernel_rfl) (by kernel_rfl) (by kernel_rfl) (fun _ _ _ h => h) (Or.inl ⟨by rfl, ?_⟩) hHeld ?_
           rotate_left
           · (intro w hSw; (try dsimp only at hSw); go_simp; try with_reducible rfl)
           try simp only [Act.put, List.setIfInBounds_toArray, List.set_cons_zero, List.set_cons_succ])
        | (refine WalkU.take (i := 9) (v := undef) rfl (by kernel_rfl) (by kernel_rfl) (by kernel_rfl) (by kernel_rfl) (fun _ _ _ h => h) (Or.inr ⟨by rfl, rfl⟩) hHeld ?_
           try simp only [Act.put, List.setIfInBounds_toArray, List.set_cons_zero, List.set_cons_succ])
        | (refine WalkU.one (i := 9) rfl (by kernel_rfl) (fun K hK => ?_)
           first
             | (first | (refine step_append_ints rfl (.tmp 42) (.tmp 43) rfl _ W6.heap.size _ _ _ _ _ rfl (Own.empty W6.drew) _ _ _ _ rfl (hy6.drew.alloc _) (by omega) (by simp) ?_; intro p5 c5 W5 ho5 hg5; simp only [Nat.zero_add, List.nil_append] at ho5; have hb5 : Below W6.heap.size W6 W5 := ((drewBelow W6).trans (boxed W6.drew _)).trans (hg5.belowO (Own.empty W6.drew) (by simp)); have hv7 := ((HW6.out.outer.pre hcA).below hb5).below (boxed W5 (.cells #[.slice p5 m c5] 39)); have hs5 := hb5.size; have hr7 := (ho6.below hb5).below (boxed W5 (.cells #[.slice p5 m c5] 39))) | (refine step_append_row rfl (.tmp 41) (.tmp 45) rfl _ lo _ _ _ _ _ rfl hv7 _ _ _ _ rfl (cellNew _ _ _) (by omega) (by simp; omega) ?_; intro p7 c7 W7 ho7 hg7; have hR7 := (hr7.kept hg7.by_ (blkNe hgl (Nat.le_trans hsW (Nat.le_refl _)) ho6)).rws; have hs7 := hg7.by_.size) | (refine step_append_rows rfl (.tmp 46) (.tmp 47) rfl _ lo _ _ _ _ _ rfl ho7 _ _ _ _ rfl hR7 (by omega) (by simp at hs7; omega) ?_; intro p9 c9 W9 ho9 hg9))
             | (go_simp; (first | (refine step_append_ints rfl (.tmp 42) (.tmp 43) rfl _ W6.heap.size _ _ _ _ _ rfl (Own.empty W6.drew) _ _ _ _ rfl (hy6.drew.alloc _) (by omega) (by simp) ?_; intro p5 c5 W5 ho5 hg5; simp only [Nat.zero_add, List.nil_append] at ho5; have hb5 : Below W6.heap.size W6 W5 := ((drewBelow W6).trans (boxed W6.drew _)).trans (hg5.belowO (Own.empty W6.drew) (by simp)); have hv7 := ((HW6.out.outer.pre hcA).below hb5).below (boxed W5 (.cells #[.slice p5 m c5] 39)); have hs5 := hb5.size; have hr7 := (ho6.below hb5).below (boxed W5 (.cells #[.slice p5 m c5] 39))) | (refine step_append_row rfl (.tmp 41) (.tmp 45) rfl _ lo _ _ _ _ _ rfl hv7 _ _ _ _ rfl (cellNew _ _ _) (by omega) (by simp; omega) ?_; intro p7 c7 W7 ho7 hg7; have hR7 := (hr7.kept hg7.by_ (blkNe hgl (Nat.le_trans hsW (Nat.le_refl _)) ho6)).rws; have hs7 := hg7.by_.size) | (refine step_append_rows rfl (.tmp 46) (.tmp 47) rfl _ lo _ _ _ _ _ rfl ho7 _ _ _ _ rfl hR7 (by omega) (by simp at hs7; omega) ?_; intro p9 c9 W9 ho9 hg9)))
             | go_simp
           refine hK.out _ _ ?_ (fun hHeld => ?_)
           · ((try dsimp only); try trivial)
           clear hK K
           try simp only [Act.put, List.setIfInBounds_toArray, List.set_cons_zero, List.set_cons_succ])
      first
        | (refine WalkU.last (i := 10) rfl rfl (by kernel_rfl) (by kernel_rfl) (fun K hK => ?_)
           first
             | (first | (refine step_append_ints rfl (.tmp 42) (.tmp 43) rfl _ W6.heap.size _ _ _ _ _ rfl (Own.empty W6.drew) _ _ _ _ rfl (hy6.drew.alloc _) (by omega) (by simp) ?_; intro p5 c5 W5 ho5 hg5; simp only [Nat.zero_add, List.nil_append] at ho5; have hb5 : Below W6.heap.size W6 W5 := ((drewBelow W6).trans (boxed W6.drew _)).trans (hg5.belowO (Own.empty W6.drew) (by simp)); have hv7 := ((HW6.out.outer.pre hcA).below hb5).below (boxed W5 (.cells #[.slice p5 m c5] 39)); have hs5 := hb5.size; have hr7 := (ho6.below hb5).below (boxed W5 (.cells #[.slice p5 m c5] 39))) | (refine step_append_row rfl (.tmp 41) (.tmp 45) rfl _ lo _ _ _ _ _ rfl hv7 _ _ _ _ rfl (cellNew _ _ _) (by omega) (by simp; omega) ?_; intro p7 c7 W7 ho7 hg7; have hR7 := (hr7.kept hg7.by_ (blkNe hgl (Nat.le_trans hsW (Nat.le_refl _)) ho6)).rws; have hs7 := hg7.by_.size) | (refine step_append_rows rfl (.tmp 46) (.tmp 47) rfl _ lo _ _ _ _ _ rfl ho7 _ _ _ _ rfl hR7 (by omega) (by simp at hs7; omega) ?_; intro p9 c9 W9 ho9 hg9))
             | (go_simp; (first | (refine step_append_ints rfl (.tmp 42) (.tmp 43) rfl _ W6.heap.size _ _ _ _ _ rfl (Own.empty W6.drew) _ _ _ _ rfl (hy6.drew.alloc _) (by omega) (by simp) ?_; intro p5 c5 W5 ho5 hg5; simp only [Nat.zero_add, List.nil_append] at ho5; have hb5 : Below W6.heap.size W6 W5 := ((drewBelow W6).trans (boxed W6.drew _)).trans (hg5.belowO (Own.empty W6.drew) (by simp)); have hv7 := ((HW6.out.outer.pre hcA).below hb5).below (boxed W5 (.cells #[.slice p5 m c5] 39)); have hs5 := hb5.size; have hr7 := (ho6.below hb5).below (boxed W5 (.cells #[.slice p5 m c5] 39))) | (refine step_append_row rfl (.tmp 41) (.tmp 45) rfl _ lo _ _ _ _ _ rfl hv7 _ _ _ _ rfl (cellNew _ _ _) (by omega) (by simp; omega) ?_; intro p7 c7 W7 ho7 hg7; have hR7 := (hr7.kept hg7.by_ (blkNe hgl (Nat.le_trans hsW (Nat.le_refl _)) ho6)).rws; have hs7 := hg7.by_.size) | (refine step_append_rows rfl (.tmp 46) (.tmp 47) rfl _ lo _ _ _ _ _ rfl ho7 _ _ _ _ rfl hR7 (by omega) (by simp at hs7; omega) ?_; intro p9 c9 W9 ho9 hg9)))
             | go_simp
           refine hK.out _ _ ?_
           clear hK K
           try simp only [Act.put, List.setIfInBounds_toArray, List.set_cons_zero, List.set_cons_succ])
      go_wp2
      go_ret
      have hT : 39 ≠ 3 := by decide
      have hs9 := hg9.by_.size
      have hs7' : W5.heap.size ≤ W7.heap.size := by simp at hs7; omega
      have hne7 : ∀ {lo' hi' : Nat} {q' : Option Addr} {n' c' : Nat} {zs : List Int}, Own W5 lo' hi' q' n' c' zs → Own W9 lo' hi' q' n' c' zs := fun hz => by
        have h5 := hz.below (boxed W5 (.cells #[.slice p5 m c5] 39))
        have h7 := h5.kept hg7.by_ (hv7.ne h5.v hT)
        exact h7.kept hg9.by_ (ho7.ne h7.v hT)
      obtain ⟨_, rfl, ho9⟩ : ∃ N, N = n + 1 ∧ OwnV W9 39 1 lo W9.heap.size p9 N c9 _ := ⟨_, by omega, ho9⟩
      have hfin := HW6.out.put ((hne7 ho5).widen (by omega : w.heap.size ≤ W6.heap.size) (by omega : W5.heap.size ≤ W9.heap.size)) (by omega) (Nat.le_refl _) (by omega) (0) hcA (fun j hj => hne7 ((HW6.out.inner j hj).below hb5)) (by simpa [List.map_take, List.map_drop, Row.val] using ho9)
      rcases ho9.form with ⟨_, h0, _⟩ | ⟨g9, rfl, _⟩
      · omega
      rw [← HN.out] at hfin
      have hfN : ∀ N, N = n + 1 → Own2 W9 lo W9.heap.size (some ⟨g9, 0, none⟩) N c9 _ _ := fun N hN => hN.symm ▸ hfin
      refine ⟨g9, _, c9, _, rfl, hfN _ (by omega), ?_⟩
      refine hbW.trans ((hb6.mono (by omega)).trans ((hb5.mono (by omega)).trans (((boxed W5 _).mono (by omega)).trans ((hg7.below (by simp; omega) ?_).trans (hg9.below (by omega) fun a ha => (ho7.lt a ha).1)))))
      exact fun a ha => by injection ha with ha; subst ha; exact hlog
    | succ k =>
      have hkn : k < rows.length := by have := hcnt.out; omega
      have ck0 : w.cell? ⟨g, k, none⟩ = some (.slice rows[k].1 rows[k].2.1 rows[k].2.2) := HK.out.hdr hkn
      have hik := (HK.out.inner k hkn).ints
      have hmk : rows[k].2.1 = m := by rw [← hik.len]; exact Hall.out k (by omega)
      rw [hmk] at ck0 hik
      generalize rows[k].1 = pk at *
      generalize rows[k].2.2 = dk at *
      have ck : (w.drewN z).cell? ⟨g, k, none⟩ = some (.slice pk m dk) := ck0
      have hw1 : IntKind.i64.wrap (((k + 1 : Nat) : Int) - 1) = (k : Int) := by rw [wrapEq, wrap64_id (by omega) (by omega)]; omega
      have hw2 : IntKind.i64.wrap (((k : Nat) : Int) + 1 - 1) = (k : Int) := by rw [wrapEq, wrap64_id (by omega) (by omega)]; omega
      have hz1 : (0 : Int) ≤ (k : Int) := by omega
      have hz2 : (k : Int) < (n : Int) := by omega
      cases hbf : befL ys (nthR xss k)
      · have hpk : putAt xss ys n = k + 1 := hput.out.symm.trans (putAt_no hbf)
        cases hsm : beqL (nthR xss k) ys
        all_goals
          go_wp2_with fail
          refine (l2Before_any _ _ _ _ _ _ _ _ (by omega) (hy.drewN z) (hik.drewN z)).mono ?_
          rw [hbf]
          rintro e w1 ⟨rfl, hz3⟩
          obtain ⟨z3, rfl⟩ : ∃ z3, w1 = w.drewN z3 := by
            obtain ⟨z1, rfl⟩ := hz3
            exact drew2 _ _ _
          clear ck
          have ck : (w.drewN z3).cell? ⟨g, k, none⟩ = some (.slice pk m dk) := ck0
          go_wp2_with fail
          refine (l2SameP_any _ _ _ _ _ _ _ _ _ (hik.drewN z3) (hy.drewN z3) (by omega) (by omega)).mono ?_
          rw [hsm]
          rintro e w4 ⟨rfl, hz4⟩
          obtain ⟨z4, rfl⟩ : ∃ z4, w4 = w.drewN z4 := by
            obtain ⟨z1, rfl⟩ := hz4
            exact drew2 _ _ _
          have HW := Lib.hid (HK.out.drewN z4)
          have hyW := hy.drewN z4
          have hbW := belowDrawn lo w z4
          clear ck ck0
          generalize w.drewN z4 = W at *
          obtain ⟨pr, hpr⟩ : ∃ pr : Option Addr, (if c = k + 1 then some (⟨g, 0, none⟩ : Addr) else some ⟨g, k + 1, none⟩) = pr := ⟨_, rfl⟩
          have hy1 : (k : Int) + 1 ≤ (c : Int) := by omega
          have hy2 : (0 : Int) ≤ (k : Int) + 1 := by omega
          have hy3 : k + 1 ≤ c := by omega
          have hy4 : ¬ ((c : Int) < (k : Int) + 1) := by omega
          have hy5 : ¬ ((k : Int) + 1 < 0) := by omega
        · have hcA : k + 1 ≤ n := by omega
          have HR := Lib.hid (hpr ▸ HW.out.outer.rws.dropIf hcap.1 (k + 1))
          have hsW := hbW.size
          have HN : Hid (putL xss ys = putIn xss ys (k + 1)) := Lib.hid (putL_succ (by rw [hl.out]; exact hpk) (by simpa [beqL] using hsm))
          go_wp2_with (at_builtin; refine append_rows rfl _ _ rfl _ W.heap.size _ _ _ _ _ rfl (Own2.empty W).outer _ _ _ (rows.drop (k + 1)) rfl (Rws.below HR.out (boxed W _)) (by omega) (by simp) ?_; intro p6 c6 W6 ho6 hg6; refine Hid.out ?_)
          refine Lib.hid ?_
          have hb6 : Below W.heap.size W W6 := (boxed W _).trans (hg6.below (by simp) (fun a ha => ((Own2.empty W).outer.lt a ha).1))
          simp only [Nat.zero_add, List.map_nil, List.nil_append] at ho6
          have HW6 := Lib.hid (HW.out.below hb6)
          have hy6 := hyW.below hb6
          have hs6 := hb6.size
          clear HW hyW
          go_wp2_with fail
          refine wp_region_u 10 11 (fun _ => True) (by kernel_rfl) rfl (by (try dsimp only); try trivial) (fun hHeld => ?_)
          first
            | (refine WalkU.take (i := 0) (v := ?_) rfl (by kernel_rfl) (by kernel_rfl) (by kernel_rfl) (by kernel_rfl) (fun _ _ _ h => h) (Or.inl ⟨by rfl, ?_⟩) hHeld ?_
               rotate_left
               · (intro w hSw; (try dsimp only at hSw); go_simp; try with_reducible rfl)
               try simp only [Act.put, List.setIfInBounds_toArray, List.set_cons_zero, List.set_cons_succ])
            | (refine WalkU.take (i := 0) (v := undef) rfl (by kernel_rfl) (by kernel_rfl) (by kernel_rfl) (by kernel_rfl) (fun _ _ _ h => h) (Or.inr ⟨by rfl, rfl⟩) hHeld ?_
               try simp only [Act.put, List.setIfInBounds_toArray, List.set_cons_zero, List.set_cons_succ])
            | (refine WalkU.one (i := 0) rfl (by kernel_rfl) (fun K hK => ?_)
               first
                 | (first | (refine step_append_ints rfl (.tmp 42) (.tmp 43) rfl _ W6.heap.size _ _ _ _ _ rfl (Own.empty W6.drew) _ _ _ _ rfl (hy6.drew.alloc _) (by omega) (by simp) ?_; intro p5 c5 W5 ho5 hg5; simp only [Nat.zero_add, List.nil_append] at ho5; have hb5 : Below W6.heap.size W6 W5 := ((drewBelow W6).trans (boxed W6.drew _)).trans (hg5.belowO (Own.empty W6.drew) (by simp)); have hv7 := ((HW6.out.outer.pre hcA).below hb5).below (boxed W5 (.cells #[.slice p5 m c5] 39)); have hs5 := hb5.size; have hr7 := (ho6.below hb5).below (boxed W5 (.cells #[.slice p5 m c5] 39))) | (refine step_append_row rfl (.tmp 41) (.tmp 45) rfl _ lo _ _ _ _ _ rfl hv7 _ _ _ _ rfl (cellNew _ _ _) (by omega) (by simp; omega) ?_; intro p7 c7 W7 ho7 hg7; have hR7 := (hr7.kept hg7.by_ (blkNe hgl (Nat.le_trans hsW (Nat.le_refl _)) ho6)).rws; have hs7 := hg7.by_.size) | (refine step_append_rows rfl (.tmp 46) (.tmp 47) rfl _ lo _ _ _ _ _ rfl ho7 _ _ _ _ rfl hR7 (by omega) (by simp at hs7; omega) ?_; intro p9 c9 W9 ho9 hg9))
                 | (go_simp; (first | (refine step_append_ints rfl (.tmp 42) (.tmp 43) rfl _ W6.heap.size _ _ _ _ _ rfl (Own.empty W6.drew) _ _ _ _ rfl (hy6.drew.alloc _) (by omega) (by simp) ?_; intro p5 c5 W5 ho5 hg5; simp only [Nat.zero_add, List.nil_append] at ho5; have hb5 : Below W6.heap.size W6 W5 := ((drewBelow W6).trans (boxed W6.drew _)).trans (hg5.belowO (Own.empty W6.drew) (by simp)); have hv7 := ((HW6.out.outer.pre hcA).below hb5).below (boxed W5 (.cells #[.slice p5 m c5] 39)); have hs5 := hb5.size; have hr7 := (ho6.below hb5).below (boxed W5 (.cells #[.slice p5 m c5] 39))) | (refine step_append_row rfl (.tmp 41) (.tmp 45) rfl _ lo _ _ _ _ _ rfl hv7 _ _ _ _ rfl (cellNew _ _ _) (by omega) (by simp; omega) ?_; intro p7 c7 W7 ho7 hg7; have hR7 := (hr7.kept hg7.by_ (blkNe hgl (Nat.le_trans hsW (Nat.le_refl _)) ho6)).rws; have hs7 := hg7.by_.size) | (refine step_append_rows rfl (.tmp 46) (.tmp 47) rfl _ lo _ _ _ _ _ rfl ho7 _ _ _ _ rfl hR7 (by omega) (by simp at hs7; omega) ?_; intro p9 c9 W9 ho9 hg9)))
                 | go_simp
               refine hK.out _ _ ?_ (fun hHeld => ?_)
               · ((try dsimp only); try trivial)
               clear hK K
               try simp only [Act.put, List.setIfInBounds_toArray, List.set_cons_zero, List.set_cons_succ])
          first
            | (refine WalkU.take (i := 1) (v := ?_) rfl (by kernel_rfl) (by kernel_rfl) (by kernel_rfl) (by kernel_rfl) (fun _ _ _ h => h) (Or.inl ⟨by rfl, ?_⟩) hHeld ?_
               rotate_left
               · (intro w hSw; (try dsimp only at hSw); go_simp; try with_reducible rfl)
               try simp only [Act.put, List.setIfInBounds_toArray, List.set_cons_zero, List.set_cons_succ])
            | (refine WalkU.take (i := 1) (v := undef) rfl (by kernel_rfl) (by kernel_rfl) (by kernel_rfl) (by kernel_rfl) (fun _ _ _ h => h) (Or.inr ⟨by rfl, rfl⟩) hHeld ?_
               try simp only [Act.put, List.setIfInBounds_toArray, List.set_cons_zero, List.set_cons_succ])
            | (refine WalkU.one (i := 1) rfl (by kernel_rfl) (fun K hK => ?_)
               first
                 | (first | (refine step_append_ints rfl (.tmp 42) (.tmp 43) rfl _ W6.heap.size _ _ _ _ _ rfl (Own.empty W6.drew) _ _ _ _ rfl (hy6.drew.alloc _) (by omega) (by simp) ?_; intro p5 c5 W5 ho5 hg5; simp only [Nat.zero_add, List.nil_append] at ho5; have hb5 : Below W6.heap.size W6 W5 := ((drewBelow W6).trans (boxed W6.drew _)).trans (hg5.belowO (Own.empty W6.drew) (by simp)); have hv7 := ((HW6.out.outer.pre hcA).below hb5).below (boxed W5 (.cells #[.slice p5 m c5] 39)); have hs5 := hb5.size; have hr7 := (ho6.below hb5).below (boxed W5 (.cells #[.slice p5 m c5] 39))) | (refine step_append_row rfl (.tmp 41) (.tmp 45) rfl _ lo _ _ _ _ _ rfl hv7 _ _ _ _ rfl (cellNew _ _ _) (by omega) (by simp; omega) ?_; intro p7 c7 W7 ho7 hg7; have hR7 := (hr7.kept hg7.by_ (blkNe hgl (Nat.le_trans hsW (Nat.le_refl _)) ho6)).rws; have hs7 := hg7.by_.size) | (refine step_append_rows rfl (.tmp 46) (.tmp 47) rfl _ lo _ _ _ _ _ rfl ho7 _ _ _ _ rfl hR7 (by omega) (by simp at hs7; omega) ?_; intro p9 c9 W9 ho9 hg9))
                 | (go_simp; (first | (refine step_append_ints rfl (.tmp 42) (.tmp 43) rfl _ W6.heap.size _ _ _ _ _ rfl (Own.empty W6.drew) _ _ _ _ rfl (hy6.drew.alloc _) (by omega) (by simp) ?_; intro p5 c5 W5 ho5 hg5; simp only [Nat.zero_add, List.nil_append] at ho5; have hb5 : Below W6.heap.size W6 W5 := ((drewBelow W6).trans (boxed W6.drew _)).trans (hg5.belowO (Own.empty W6.drew) (by simp)); have hv7 := ((HW6.out.outer.pre hcA).below hb5).below (boxed W5 (.cells #[.slice p5 m c5] 39)); have hs5 := hb5.size; have hr7 := (ho6.below hb5).below (boxed W5 (.cells #[.slice p5 m c5] 39))) | (refine step_append_row rfl (.tmp 41) (.tmp 45) rfl _ lo _ _ _ _ _ rfl hv7 _ _ _ _ rfl (cellNew _ _ _) (by omega) (by simp; omega) ?_; intro p7 c7 W7 ho7 hg7; have hR7 := (hr7.kept hg7.by_ (blkNe hgl (Nat.le_trans hsW (Nat.le_refl _)) ho6)).rws; have hs7 := hg7.by_.size) | (refine step_append_rows rfl (.tmp 46) (.tmp 47) rfl _ lo _ _ _ _ _ rfl ho7 _ _ _ _ rfl hR7 (by omega) (by simp at hs7; omega) ?_; intro p9 c9 W9 ho9 hg9)))
                 | go_simp
               refine hK.out _ _ ?_ (fun hHeld => ?_)
               · ((try dsimp only); try trivial)
               clear hK K
               try simp only [Act.put, List.setIfInBounds_toArray, List.set_cons_zero, List.set_cons_succ])
          first
            | (refine WalkU.take (i := 2) (v := ?_) rfl (by kernel_rfl) (by kernel_rfl) (by kernel_rfl) (by kernel_rfl) (fun _ _ _ h => h) (Or.inl ⟨by rfl, ?_⟩) hHeld ?_
               rotate_left
               · (intro w hSw; (try dsimp only at hSw); go_simp; try with_reducible rfl)
               try simp only [Act.put, List.setIfInBounds_toArray, List.set_cons_zero, List.set_cons_succ])
            | (refine WalkU.take (i := 2) (v := undef) rfl (by kernel_rfl) (by kernel_rfl) (by kernel_rfl) (by kernel_rfl) (fun _ _ _ h => h) (Or.inr ⟨by rfl, rfl⟩) hHeld ?_
               try simp only [Act.put, List.setIfInBounds_toArray, List.set_cons_zero, List.set_cons_succ])
            | (refine WalkU.one (i := 2) rfl (by kernel_rfl) (fun K hK => ?_)
               first
                 | (first | (refine step_append_ints rfl (.tmp 42) (.tmp 43) rfl _ W6.heap.size _ _ _ _ _ rfl (Own.empty W6.drew) _ _ _ _ rfl (hy6.drew.alloc _) (by omega) (by simp) ?_; intro p5 c5 W5 ho5 hg5; simp only [Nat.zero_add, List.nil_append] at ho5; have hb5 : Below W6.heap.size W6 W5 := ((drewBelow W6).trans (boxed W6.drew _)).trans (hg5.belowO (Own.empty W6.drew) (by simp)); have hv7 := ((HW6.out.outer.pre hcA).below hb5).below (boxed W5 (.cells #[.slice p5 m c5] 39)); have hs5 := hb5.size; have hr7 := (ho6.below hb5).below (boxed W5 (.cells #[.slice p5 m c5] 39))) | (refine step_append_row rfl (.tmp 41) (.tmp 45) rfl _ lo _ _ _ _ _ rfl hv7 _ _ _ _ rfl (cellNew _ _ _) (by omega) (by simp; omega) ?_; intro p7 c7 W7 ho7 hg7; have hR7 := (hr7.kept hg7.by_ (blkNe hgl (Nat.le_trans hsW (Nat.le_refl _)) ho6)).rws; have hs7 := hg7.by_.size) | (refine step_append_rows rfl (.tmp 46) (.tmp 47) rfl _ lo _ _ _ _ _ rfl ho7 _ _ _ _ rfl hR7 (by omega) (by simp at hs7; omega) ?_; intro p9 c9 W9 ho9 hg9))
                 | (go_simp; (first | (refine step_append_ints rfl (.tmp 42) (.tmp 43) rfl _ W6.heap.size _ _ _ _ _ rfl (Own.empty W6.drew) _ _ _ _ rfl (hy6.drew.alloc _) (by omega) (by simp) ?_; intro p5 c5 W5 ho5 hg5; simp only [Nat.zero_add, List.nil_append] at ho5; have hb5 : Below W6.heap.size W6 W5 := ((drewBelow W6).trans (boxed W6.drew _)).trans (hg5.belowO (Own.empty W6.drew) (by simp)); have hv7 := ((HW6.out.outer.pre hcA).below hb5).below (boxed W5 (.cells #[.slice p5 m c5] 39)); have hs5 := hb5.size; have hr7 := (ho6.below hb5).below (boxed W5 (.cells #[.slice p5 m c5] 39))) | (refine step_append_row rfl (.tmp 41) (.tmp 45) rfl _ lo _ _ _ _ _ rfl hv7 _ _ _ _ rfl (cellNew _ _ _) (by omega) (by simp; omega) ?_; intro p7 c7 W7 ho7 hg7; have hR7 := (hr7.kept hg7.by_ (blkNe hgl (Nat.le_trans hsW (Nat.le_refl _)) ho6)).rws; have hs7 := hg7.by_.size) | (refine step_append_rows rfl (.tmp 46) (.tmp 47) rfl _ lo _ _ _ _ _ rfl ho7 _ _ _ _ rfl hR7 (by omega) (by simp at hs7; omega) ?_; intro p9 c9 W9 ho9 hg9)))
                 | go_simp
               refine hK.out _ _ ?_ (fun hHeld => ?_)
               · ((try dsimp only); try trivial)
               clear hK K
               try simp only [Act.put, List.setIfInBounds_toArray, List.set_cons_zero, List.set_cons_succ])
          first
            | (refine WalkU.take (i := 4) (v := ?_) rfl (by kernel_rfl) (by kernel_rfl) (by kernel_rfl) (by kernel_rfl) (fun _ _ _ h => h) (Or.inl ⟨by rfl, ?_⟩) hHeld ?_
               rotate_left
               · (intro w hSw; (try dsimp only at hSw); go_simp; try with_reducible rfl)
               try simp only [Act.put, List.setIfInBounds_toArray, List.set_cons_zero, List.set_cons_succ])
            | (refine WalkU.take (i := 4) (v := undef) rfl (by kernel_rfl) (by kernel_rfl) (by kernel_rfl) (by kernel_rfl) (fun _ _ _ h => h) (Or.inr ⟨by rfl, rfl⟩) hHeld ?_
               try simp only [Act.put, List.setIfInBounds_toArray, List.set_cons_zero, List.set_cons_succ])
            | (refine WalkU.one (i := 4) rfl (by kernel_rfl) (fun K hK => ?_)
               first
                 | (first | (refine step_append_ints rfl (.tmp 42) (.tmp 43) rfl _ W6.heap.size _ _ _ _ _ rfl (Own.empty W6.drew) _ _ _ _ rfl (hy6.drew.alloc _) (by omega) (by simp) ?_; intro p5 c5 W5 ho5 hg5; simp only [Nat.zero_add, List.nil_append] at ho5; have hb5 : Below W6.heap.size W6 W5 := ((drewBelow W6).trans (boxed W6.drew _)).trans (hg5.belowO (Own.empty W6.drew) (by simp)); have hv7 := ((HW6.out.outer.pre hcA).below hb5).below (boxed W5 (.cells #[.slice p5 m c5] 39)); have hs5 := hb5.size; have hr7 := (ho6.below hb5).below (boxed W5 (.cells #[.slice p5 m c5] 39))) | (refine step_append_row rfl (.tmp 41) (.tmp 45) rfl _ lo _ _ _ _ _ rfl hv7 _ _ _ _ rfl (cellNew _ _ _) (by omega) (by simp; omega) ?_; intro p7 c7 W7 ho7 hg7; have hR7 := (hr7.kept hg7.by_ (blkNe hgl (Nat.le_trans hsW (Nat.le_refl _)) ho6)).rws; have hs7 := hg7.by_.size) | (refine step_append_rows rfl (.tmp 46) (.tmp 47) rfl _ lo _ _ _ _ _ rfl ho7 _ _ _ _ rfl hR7 (by omega) (by simp at hs7; omega) ?_; intro p9 c9 W9 ho9 hg9))
                 | (go_simp; (first | (refine step_append_ints rfl (.tmp 42) (.tmp 43) rfl _ W6.heap.size _ _ _ _ _ rfl (Own.empty W6.drew) _ _ _ _ rfl (hy6.drew.alloc _) (by omega) (by simp) ?_; intro p5 c5 W5 ho5 hg5; simp only [Nat.zero_add, List.nil_append] at ho5; have hb5 : Below W6.heap.size W6 W5 := ((drewBelow W6).trans (boxed W6.drew _)).trans (hg5.belowO (Own.empty W6.drew) (by simp)); have hv7 := ((HW6.out.outer.pre hcA).below hb5).below (boxed W5 (.cells #[.slice p5 m c5] 39)); have hs5 := hb5.size; have hr7 := (ho6.below hb5).below (boxed W5 (.cells #[.slice p5 m c5] 39))) | (refine step_append_row rfl (.tmp 41) (.tmp 45) rfl _ lo _ _ _ _ _ rfl hv7 _ _ _ _ rfl (cellNew _ _ _) (by omega) (by simp; omega) ?_; intro p7 c7 W7 ho7 hg7; have hR7 := (hr7.kept hg7.by_ (blkNe hgl (Nat.le_trans hsW (Nat.le_refl _)) ho6)).rws; have hs7 := hg7.by_.size) | (refine step_append_rows rfl (.tmp 46) (.tmp 47) rfl _ lo _ _ _ _ _ rfl ho7 _ _ _ _ rfl hR7 (by omega) (by simp at hs7; omega) ?_; intro p9 c9 W9 ho9 hg9)))
                 | go_simp
               refine hK.out _ _ ?_ (fun hHeld => ?_)
               · ((try dsimp only); try trivial)
               clear hK K
               try simp only [Act.put, List.setIfInBounds_toArray, List.set_cons_zero, List.set_cons_succ])
          first
            | (refine WalkU.take (i := 8) (v := ?_) rfl (by kernel_rfl) (by kernel_rfl) (by kernel_rfl) (by kernel_rfl) (fun _ _ _ h => h) (Or.inl ⟨by rfl, ?_⟩) hHeld ?_
               rotate_left
               · (intro w hSw; (try dsimp only at hSw); go_simp; try with_reducible rfl)
               try simp only [Act.put, List.setIfInBounds_toArray, List.set_cons_zero, List.set_cons_succ])
            | (refine WalkU.take (i := 8) (v := undef) rfl (by kernel_rfl) (by kernel_rfl) (by kernel_rfl) (by kernel_rfl) (fun _ _ _ h => h) (Or.inr ⟨by rfl, rfl⟩) hHeld ?_
               try simp only [Act.put, List.setIfInBounds_toArray, List.set_cons_zero, List.set_cons_succ])
            | (refine WalkU.one (i := 8) rfl (by kernel_rfl) (fun K hK => ?_)
               first
                 | (first | (refine step_append_ints rfl (.tmp 42) (.tmp 43) rfl _ W6.heap.size _ _ _ _ _ rfl (Own.empty W6.drew) _ _ _ _ rfl (hy6.drew.alloc _) (by omega) (by simp) ?_; intro p5 c5 W5 ho5 hg5; simp only [Nat.zero_add, List.nil_append] at ho5; have hb5 : Below W6.heap.size W6 W5 := ((drewBelow W6).trans (boxed W6.drew _)).trans (hg5.belowO (Own.empty W6.drew) (by simp)); have hv7 := ((HW6.out.outer.pre hcA).below hb5).below (boxed W5 (.cells #[.slice p5 m c5] 39)); have hs5 := hb5.size; have hr7 := (ho6.below hb5).below (boxed W5 (.cells #[.slice p5 m c5] 39))) | (refine step_append_row rfl (.tmp 41) (.tmp 45) rfl _ lo _ _ _ _ _ rfl hv7 _ _ _ _ rfl (cellNew _ _ _) (by omega) (by simp; omega) ?_; intro p7 c7 W7 ho7 hg7; have hR7 := (hr7.kept hg7.by_ (blkNe hgl (Nat.le_trans hsW (Nat.le_refl _)) ho6)).rws; have hs7 := hg7.by_.size) | (refine step_append_rows rfl (.tmp 46) (.tmp 47) rfl _ lo _ _ _ _ _ rfl ho7 _ _ _ _ rfl hR7 (by omega) (by simp at hs7; omega) ?_; intro p9 c9 W9 ho9 hg9))
                 | (go_simp; (first | (refine step_append_ints rfl (.tmp 42) (.tmp 43) rfl _ W6.heap.size _ _ _ _ _ rfl (Own.empty W6.drew) _ _ _ _ rfl (hy6.drew.alloc _) (by omega) (by simp) ?_; intro p5 c5 W5 ho5 hg5; simp only [Nat.zero_add, List.nil_append] at ho5; have hb5 : Below W6.heap.size W6 W5 := ((drewBelow W6).trans (boxed W6.drew _)).trans (hg5.belowO (Own.empty W6.drew) (by simp)); have hv7 := ((HW6.out.outer.pre hcA).below hb5).below (boxed W5 (.cells #[.slice p5 m c5] 39)); have hs5 := hb5.size; have hr7 := (ho6.below hb5).below (boxed W5 (.cells #[.slice p5 m c5] 39))) | (refine step_append_row rfl (.tmp 41) (.tmp 45) rfl _ lo _ _ _ _ _ rfl hv7 _ _ _ _ rfl (cellNew _ _ _) (by omega) (by simp; omega) ?_; intro p7 c7 W7 ho7 hg7; have hR7 := (hr7.kept hg7.by_ (blkNe hgl (Nat.le_trans hsW (Nat.le_refl _)) ho6)).rws; have hs7 := hg7.by_.size) | (refine step_append_rows rfl (.tmp 46) (.tmp 47) rfl _ lo _ _ _ _ _ rfl ho7 _ _ _ _ rfl hR7 (by omega) (by simp at hs7; omega) ?_; intro p9 c9 W9 ho9 hg9)))
                 | go_simp
               refine hK.out _ _ ?_ (fun hHeld => ?_)
               · ((try dsimp only); try trivial)
               clear hK K
               try simp only [Act.put, List.setIfInBounds_toArray, List.set_cons_zero, List.set_cons_succ])
          first
            | (refine WalkU.take (i := 3) (v := ?_) rfl (by kernel_rfl) (by kernel_rfl) (by kernel_rfl) (by kernel_rfl) (fun _ _ _ h => h) (Or.inl ⟨by rfl, ?_⟩) hHeld ?_
               rotate_left
               · (intro w hSw; (try dsimp only at hSw); go_simp; try with_reducible rfl)
               try simp only [Act.put, List.setIfInBounds_toArray, List.set_cons_zero, List.set_cons_succ])
            | (refine WalkU.take (i := 3) (v := undef) rfl (by kernel_rfl) (by kernel_rfl) (by kernel_rfl) (by kernel_rfl) (fun _ _ _ h => h) (Or.inr ⟨by rfl, rfl⟩) hHeld ?_
               try simp only [Act.put, List.setIfInBounds_toArray, List.set_cons_zero, List.set_cons_succ])
            | (refine WalkU.one (i := 3) rfl (by kernel_rfl) (fun K hK => ?_)
               first
                 | (first | (refine step_append_ints rfl (.tmp 42) (.tmp 43) rfl _ W6.heap.size _ _ _ _ _ rfl (Own.empty W6.drew) _ _ _ _ rfl (hy6.drew.alloc _) (by omega) (by simp) ?_; intro p5 c5 W5 ho5 hg5; simp only [Nat.zero_add, List.nil_append] at ho5; have hb5 : Below W6.heap.size W6 W5 := ((drewBelow W6).trans (boxed W6.drew _)).trans (hg5.belowO (Own.empty W6.drew) (by simp)); have hv7 := ((HW6.out.outer.pre hcA).below hb5).below (boxed W5 (.cells #[.slice p5 m c5] 39)); have hs5 := hb5.size; have hr7 := (ho6.below hb5).below (boxed W5 (.cells #[.slice p5 m c5] 39))) | (refine step_append_row rfl (.tmp 41) (.tmp 45) rfl _ lo _ _ _ _ _ rfl hv7 _ _ _ _ rfl (cellNew _ _ _) (by omega) (by simp; omega) ?_; intro p7 c7 W7 ho7 hg7; have hR7 := (hr7.kept hg7.by_ (blkNe hgl (Nat.le_trans hsW (Nat.le_refl _)) ho6)).rws; have hs7 := hg7.by_.size) | (refine step_append_rows rfl (.tmp 46) (.tmp 47) rfl _ lo _ _ _ _ _ rfl ho7 _ _ _ _ rfl hR7 (by omega) (by simp at hs7; omega) ?_; intro p9 c9 W9 ho9 hg9))
                 | (go_simp; (first | (refine step_append_ints rfl (.tmp 42) (.tmp 43) rfl _ W6.heap.size _ _ _ _ _ rfl (Own.empty W6.drew) _ _ _ _ rfl (hy6.drew.alloc _) (by omega) (by simp) ?_; intro p5 c5 W5 ho5 hg5; simp only [Nat.zero_add, List.nil_append] at ho5; have hb5 : Below W6.heap.size W6 W5 := ((drewBelow W6).trans (boxed W6.drew _)).trans (hg5.belowO (Own.empty W6.drew) (by simp)); have hv7 := ((HW6.out.outer.pre hcA).below hb5).below (boxed W5 (.cells #[.slice p5 m c5] 39)); have hs5 := hb5.size; have hr7 := (ho6.below hb5).below (boxed W5 (.cells #[.slice p5 m c5] 39))) | (refine step_append_row rfl (.tmp 41) (.tmp 45) rfl _ lo _ _ _ _ _ rfl hv7 _ _ _ _ rfl (cellNew _ _ _) (by omega) (by simp; omega) ?_; intro p7 c7 W7 ho7 hg7; have hR7 := (hr7.kept hg7.by_ (blkNe hgl (Nat.le_trans hsW (Nat.le_refl _)) ho6)).rws; have hs7 := hg7.by_.size) | (refine step_append_rows rfl (.tmp 46) (.tmp 47) rfl _ lo _ _ _ _ _ rfl ho7 _ _ _ _ rfl hR7 (by omega) (by simp at hs7; omega) ?_; intro p9 c9 W9 ho9 hg9)))
                 | go_simp
               refine hK.out _ _ ?_ (fun hHeld => ?_)
               · ((try dsimp only); try trivial)
               clear hK K
               try simp only [Act.put, List.setIfInBounds_toArray, List.set_cons_zero, List.set_cons_succ])
          first
            | (refine WalkU.take (i := 5) (v := ?_) rfl (by kernel_rfl) (by kernel_rfl) (by kernel_rfl) (by kernel_rfl) (fun _ _ _ h => h) (Or.inl ⟨by rfl, ?_⟩) hHeld ?_
               rotate_left
               · (intro w hSw; (try dsimp only at hSw); go_simp; try with_reducible rfl)
               try simp only [Act.put, List.setIfInBounds_toArray, List.set_cons_zero, List.set_cons_succ])
            | (refine WalkU.take (i := 5) (v := undef) rfl (by kernel_rfl) (by kernel_rfl) (by kernel_rfl) (by kernel_rfl) (fun _ _ _ h => h) (Or.inr ⟨by rfl, rfl⟩) hHeld ?_
               try simp only [Act.put, List.setIfInBounds_toArray, List.set_cons_zero, List.set_cons_succ])
            | (refine WalkU.one (i := 5) rfl (by kernel_rfl) (fun K hK => ?_)
               first
                 | (first | (refine step_append_ints rfl (.tmp 42) (.tmp 43) rfl _ W6.heap.size _ _ _ _ _ rfl (Own.empty W6.drew) _ _ _ _ rfl (hy6.drew.alloc _) (by omega) (by simp) ?_; intro p5 c5 W5 ho5 hg5; simp only [Nat.zero_add, List.nil_append] at ho5; have hb5 : Below W6.heap.size W6 W5 := ((drewBelow W6).trans (boxed W6.drew _)).trans (hg5.belowO (Own.empty W6.drew) (by simp)); have hv7 := ((HW6.out.outer.pre hcA).below hb5).below (boxed W5 (.cells #[.slice p5 m c5] 39)); have hs5 := hb5.size; have hr7 := (ho6.below hb5).below (boxed W5 (.cells #[.slice p5 m c5] 39))) | (refine step_append_row rfl (.tmp 41) (.tmp 45) rfl _ lo _ _ _ _ _ rfl hv7 _ _ _ _ rfl (cellNew _ _ _) (by omega) (by simp; omega) ?_; intro p7 c7 W7 ho7 hg7; have hR7 := (hr7.kept hg7.by_ (blkNe hgl (Nat.le_trans hsW (Nat.le_refl _)) ho6)).rws; have hs7 := hg7.by_.size) | (refine step_append_rows rfl (.tmp 46) (.tmp 47) rfl _ lo _ _ _ _ _ rfl ho7 _ _ _ _ rfl hR7 (by omega) (by simp at hs7; omega) ?_; intro p9 c9 W9 ho9 hg9))
                 | (go_simp; (first | (refine step_append_ints rfl (.tmp 42) (.tmp 43) rfl _ W6.heap.size _ _ _ _ _ rfl (Own.empty W6.drew) _ _ _ _ rfl (hy6.drew.alloc _) (by omega) (by simp) ?_; intro p5 c5 W5 ho5 hg5; simp only [Nat.zero_add, List.nil_append] at ho5; have hb5 : Below W6.heap.size W6 W5 := ((drewBelow W6).trans (boxed W6.drew _)).trans (hg5.belowO (Own.empty W6.drew) (by simp)); have hv7 := ((HW6.out.outer.pre hcA).below hb5).below (boxed W5 (.cells #[.slice p5 m c5] 39)); have hs5 := hb5.size; have hr7 := (ho6.below hb5).below (boxed W5 (.cells #[.slice p5 m c5] 39))) | (refine step_append_row rfl (.tmp 41) (.tmp 45) rfl _ lo _ _ _ _ _ rfl hv7 _ _ _ _ rfl (cellNew _ _ _) (by omega) (by simp; omega) ?_; intro p7 c7 W7 ho7 hg7; have hR7 := (hr7.kept hg7.by_ (blkNe hgl (Nat.le_trans hsW (Nat.le_refl _)) ho6)).rws; have hs7 := hg7.by_.size) | (refine step_append_rows rfl (.tmp 46) (.tmp 47) rfl _ lo _ _ _ _ _ rfl ho7 _ _ _ _ rfl hR7 (by omega) (by simp at hs7; omega) ?_; intro p9 c9 W9 ho9 hg9)))
                 | go_simp
               refine hK.out _ _ ?_ (fun hHeld => ?_)
               · ((try dsimp only); try trivial)
               clear hK K
               try simp only [Act.put, List.setIfInBounds_toArray, List.set_cons_zero, List.set_cons_succ])
          first
            | (refine WalkU.take (i := 6) (v := ?_) rfl (by kernel_rfl) (by kernel_rfl) (by kernel_rfl) (by kernel_rfl) (fun _ _ _ h => h) (Or.inl ⟨by rfl, ?_⟩) hHeld ?_
               rotate_left
               · (intro w hSw; (try dsimp only at hSw); go_simp; try with_reducible rfl)
               try simp only [Act.put, List.setIfInBounds_toArray, List.set_cons_zero, List.set_cons_succ])
            | (refine WalkU.take (i := 6) (v := undef) rfl (by kernel_rfl) (by kernel_rfl) (by kernel_rfl) (by kernel_rfl) (fun _ _ _ h => h) (Or.inr ⟨by rfl, rfl⟩) hHeld ?_
               try simp only [Act.put, List.setIfInBounds_toArray, List.set_cons_zero, List.set_cons_succ])
            | (refine WalkU.one (i := 6) rfl (by kernel_rfl) (fun K hK => ?_)
               first
                 | (first | (refine step_append_ints rfl (.tmp 42) (.tmp 43) rfl _ W6.heap.size _ _ _ _ _ rfl (Own.empty W6.drew) _ _ _ _ rfl (hy6.drew.alloc _) (by omega) (by simp) ?_; intro p5 c5 W5 ho5 hg5; simp only [Nat.zero_add, List.nil_append] at ho5; have hb5 : Below W6.heap.size W6 W5 := ((drewBelow W6).trans (boxed W6.drew _)).trans (hg5.belowO (Own.empty W6.drew) (by simp)); have hv7 := ((HW6.out.outer.pre hcA).below hb5).below (boxed W5 (.cells #[.slice p5 m c5] 39)); have hs5 := hb5.size; have hr7 := (ho6.below hb5).below (boxed W5 (.cells #[.slice p5 m c5] 39))) | (refine step_append_row rfl (.tmp 41) (.tmp 45) rfl _ lo _ _ _ _ _ rfl hv7 _ _ _ _ rfl (cellNew _ _ _) (by omega) (by simp; omega) ?_; intro p7 c7 W7 ho7 hg7; have hR7 := (hr7.kept hg7.by_ (blkNe hgl (Nat.le_trans hsW (Nat.le_refl _)) ho6)).rws; have hs7 := hg7.by_.size) | (refine step_append_rows rfl (.tmp 46) (.tmp 47) rfl _ lo _ _ _ _ _ rfl ho7 _ _ _ _ rfl hR7 (by omega) (by simp at hs7; omega) ?_; intro p9 c9 W9 ho9 hg9))
                 | (go_simp; (first | (refine step_append_ints rfl (.tmp 42) (.tmp 43) rfl _ W6.heap.size _ _ _ _ _ rfl (Own.empty W6.drew) _ _ _ _ rfl (hy6.drew.alloc _) (by omega) (by simp) ?_; intro p5 c5 W5 ho5 hg5; simp only [Nat.zero_add, List.nil_append] at ho5; have hb5 : Below W6.heap.size W6 W5 := ((drewBelow W6).trans (boxed W6.drew _)).trans (hg5.belowO (Own.empty W6.drew) (by simp)); have hv7 := ((HW6.out.outer.pre hcA).below hb5).below (boxed W5 (.cells #[.slice p5 m c5] 39)); have hs5 := hb5.size; have hr7 := (ho6.below hb5).below (boxed W5 (.cells #[.slice p5 m c5] 39))) | (refine step_append_row rfl (.tmp 41) (.tmp 45) rfl _ lo _ _ _ _ _ rfl hv7 _ _ _ _ rfl (cellNew _ _ _) (by omega) (by simp; omega) ?_; intro p7 c7 W7 ho7 hg7; have hR7 := (hr7.kept hg7.by_ (blkNe hgl (Nat.le_trans hsW (Nat.le_refl _)) ho6)).rws; have hs7 := hg7.by_.size) | (refine step_append_rows rfl (.tmp 46) (.tmp 47) rfl _ lo _ _ _ _ _ rfl ho7 _ _ _ _ rfl hR7 (by omega) (by simp at hs7; omega) ?_; intro p9 c9 W9 ho9 hg9)))
                 | go_simp
               refine hK.out _ _ ?_ (fun hHeld => ?_)
               · ((try dsimp only); try trivial)
               clear hK K
               try simp only [Act.put, List.setIfInBounds_toArray, List.set_cons_zero, List.set_cons_succ])
          first
            | (refine WalkU.take (i := 7) (v := ?_) rfl (by kernel_rfl) (by kernel_rfl) (by kernel_rfl) (by kernel_rfl) (fun _ _ _ h => h) (Or.inl ⟨by rfl, ?_⟩) hHeld ?_
               rotate_left
               · (intro w hSw; (try dsimp only at hSw); go_simp; try with_reducible rfl)
               try simp only [Act.put, List.setIfInBounds_toArray, List.set_cons_zero, List.set_cons_succ])
            | (refine WalkU.take (i := 7) (v := undef) rfl (by kernel_rfl) (by kernel_rfl) (by kernel_rfl) (by kernel_rfl) (fun _ _ _ h => h) (Or.inr ⟨by rfl, rfl⟩) hHeld ?_
               try simp only [Act.put, List.setIfInBounds_toArray, List.set_cons_zero, List.set_cons_succ])
            | (refine WalkU.one (i := 7) rfl (by kernel_rfl) (fun K hK => ?_)
               first
                 | (first | (refine step_append_ints rfl (.tmp 42) (.tmp 43) rfl _ W6.heap.size _ _ _ _ _ rfl (Own.empty W6.drew) _ _ _ _ rfl (hy6.drew.alloc _) (by omega) (by simp) ?_; intro p5 c5 W5 ho5 hg5; simp only [Nat.zero_add, List.nil_append] at ho5; have hb5 : Below W6.heap.size W6 W5 := ((drewBelow W6).trans (boxed W6.drew _)).trans (hg5.belowO (Own.empty W6.drew) (by simp)); have hv7 := ((HW6.out.outer.pre hcA).below hb5).below (boxed W5 (.cells #[.slice p5 m c5] 39)); have hs5 := hb5.size; have hr7 := (ho6.below hb5).below (boxed W5 (.cells #[.slice p5 m c5] 39))) | (refine step_append_row rfl (.tmp 41) (.tmp 45) rfl _ lo _ _ _ _ _ rfl hv7 _ _ _ _ rfl (cellNew _ _ _) (by omega) (by simp; omega) ?_; intro p7 c7 W7 ho7 hg7; have hR7 := (hr7.kept hg7.by_ (blkNe hgl (Nat.le_trans hsW (Nat.le_refl _)) ho6)).rws; have hs7 := hg7.by_.size) | (refine step_append_rows rfl (.tmp 46) (.tmp 47) rfl _ lo _ _ _ _ _ rfl ho7 _ _ _ _ rfl hR7 (by omega) (by simp at hs7; omega) ?_; intro p9 c9 W9 ho9 hg9))
                 | (go_simp; (first | (refine step_append_ints rfl (.tmp 42) (.tmp 43) rfl _ W6.heap.size _ _ _ _ _ rfl (Own.empty W6.drew) _ _ _ _ rfl (hy6.drew.alloc _) (by omega) (by simp) ?_; intro p5 c5 W5 ho5 hg5; simp only [Nat.zero_add, List.nil_append] at ho5; have hb5 : Below W6.heap.size W6 W5 := ((drewBelow W6).trans (boxed W6.drew _)).trans (hg5.belowO (Own.empty W6.drew) (by simp)); have hv7 := ((HW6.out.outer.pre hcA).below hb5).below (boxed W5 (.cells #[.slice p5 m c5] 39)); have hs5 := hb5.size; have hr7 := (ho6.below hb5).below (boxed W5 (.cells #[.slice p5 m c5] 39))) | (refine step_append_row rfl (.tmp 41) (.tmp 45) rfl _ lo _ _ _ _ _ rfl hv7 _ _ _ _ rfl (cellNew _ _ _) (by omega) (by simp; omega) ?_; intro p7 c7 W7 ho7 hg7; have hR7 := (hr7.kept hg7.by_ (blkNe hgl (Nat.le_trans hsW (Nat.le_refl _)) ho6)).rws; have hs7 := hg7.by_.size) | (refine step_append_rows rfl (.tmp 46) (.tmp 47) rfl _ lo _ _ _ _ _ rfl ho7 _ _ _ _ rfl hR7 (by omega) (by simp at hs7; omega) ?_; intro p9 c9 W9 ho9 hg9)))
                 | go_simp
               refine hK.out _ _ ?_ (fun hHeld => ?_)
               · ((try dsimp only); try trivial)
               clear hK K
               try simp only [Act.put, List.setIfInBounds_toArray, List.set_cons_zero, List.set_cons_succ])
          first
            | (refine WalkU.take (i := 9) (v := ?_) rfl (by kernel_rfl) (by kernel_rfl) (by kernel_rfl) (by kernel_rfl) (fun _ _ _ h => h) (Or.inl ⟨by rfl, ?_⟩) hHeld ?_
               rotate_left
               · (intro w hSw; (try dsimp only at hSw); go_simp; try with_reducible rfl)
               try simp only [Act.put, List.setIfInBounds_toArray, List.set_cons_zero, List.set_cons_succ])
            | (refine WalkU.take (i := 9) (v := undef) rfl (by kernel_rfl) (by kernel_rfl) (by kernel_rfl) (by kernel_rfl) (fun _ _ _ h => h) (Or.inr ⟨by rfl, rfl⟩) hHeld ?_
               try simp only [Act.put, List.setIfInBounds_toArray, List.set_cons_zero, List.set_cons_succ])
            | (refine WalkU.one (i := 9) rfl (by kernel_rfl) (fun K hK => ?_)
               first
                 | (first | (refine step_append_ints rfl (.tmp 42) (.tmp 43) rfl _ W6.heap.size _ _ _ _ _ rfl (Own.empty W6.drew) _ _ _ _ rfl (hy6.drew.alloc _) (by omega) (by simp) ?_; intro p5 c5 W5 ho5 hg5; simp only [Nat.zero_add, List.nil_append] at ho5; have hb5 : Below W6.heap.size W6 W5 := ((drewBelow W6).trans (boxed W6.drew _)).trans (hg5.belowO (Own.empty W6.drew) (by simp)); have hv7 := ((HW6.out.outer.pre hcA).below hb5).below (boxed W5 (.cells #[.slice p5 m c5] 39)); have hs5 := hb5.size; have hr7 := (ho6.below hb5).below (boxed W5 (.cells #[.slice p5 m c5] 39))) | (refine step_append_row rfl (.tmp 41) (.tmp 45) rfl _ lo _ _ _ _ _ rfl hv7 _ _ _ _ rfl (cellNew _ _ _) (by omega) (by simp; omega) ?_; intro p7 c7 W7 ho7 hg7; have hR7 := (hr7.kept hg7.by_ (blkNe hgl (Nat.le_trans hsW (Nat.le_refl _)) ho6)).rws; have hs7 := hg7.by_.size) | (refine step_append_rows rfl (.tmp 46) (.tmp 47) rfl _ lo _ _ _ _ _ rfl ho7 _ _ _ _ rfl hR7 (by omega) (by simp at hs7; omega) ?_; intro p9 c9 W9 ho9 hg9))
                 | (go_simp; (first | (refine step_append_ints rfl (.tmp 42) (.tmp 43) rfl _ W6.heap.size _ _ _ _ _ rfl (Own.empty W6.drew) _ _ _ _ rfl (hy6.drew.alloc _) (by omega) (by simp) ?_; intro p5 c5 W5 ho5 hg5; simp only [Nat.zero_add, List.nil_append] at ho5; have hb5 : Below W6.heap.size W6 W5 := ((drewBelow W6).trans (boxed W6.drew _)).trans (hg5.belowO (Own.empty W6.drew) (by simp)); have hv7 := ((HW6.out.outer.pre hcA).below hb5).below (boxed W5 (.cells #[.slice p5 m c5] 39)); have hs5 := hb5.size; have hr7 := (ho6.below hb5).below (boxed W5 (.cells #[.slice p5 m c5] 39))) | (refine step_append_row rfl (.tmp 41) (.tmp 45) rfl _ lo _ _ _ _ _ rfl hv7 _ _ _ _ rfl (cellNew _ _ _) (by omega) (by simp; omega) ?_; intro p7 c7 W7 ho7 hg7; have hR7 := (hr7.kept hg7.by_ (blkNe hgl (Nat.le_trans hsW (Nat.le_refl _)) ho6)).rws; have hs7 := hg7.by_.size) | (refine step_append_rows rfl (.tmp 46) (.tmp 47) rfl _ lo _ _ _ _ _ rfl ho7 _ _ _ _ rfl hR7 (by omega) (by simp at hs7; omega) ?_; intro p9 c9 W9 ho9 hg9)))
                 | go_simp
               refine hK.out _ _ ?_ (fun hHeld => ?_)
               · ((try dsimp only); try trivial)
               clear hK K
               try simp only [Act.put, List.setIfInBounds_toArray, List.set_cons_zero, List.set_cons_succ])
          first
            | (refine WalkU.last (i := 10) rfl rfl (by kernel_rfl) (by kernel_rfl) (fun K hK => ?_)
               first
                 | (first | (refine step_append_ints rfl (.tmp 42) (.tmp 43) rfl _ W6.heap.size _ _ _ _ _ rfl (Own.empty W6.drew) _ _ _ _ rfl (hy6.drew.alloc _) (by omega) (by simp) ?_; intro p5 c5 W5 ho5 hg5; simp only [Nat.zero_add, List.nil_append] at ho5; have hb5 : Below W6.heap.size W6 W5 := ((drewBelow W6).trans (boxed W6.drew _)).trans (hg5.belowO (Own.empty W6.drew) (by simp)); have hv7 := ((HW6.out.outer.pre hcA).below hb5).below (boxed W5 (.cells #[.slice p5 m c5] 39)); have hs5 := hb5.size; have hr7 := (ho6.below hb5).below (boxed W5 (.cells #[.slice p5 m c5] 39))) | (refine step_append_row rfl (.tmp 41) (.tmp 45) rfl _ lo _ _ _ _ _ rfl hv7 _ _ _ _ rfl (cellNew _ _ _) (by omega) (by simp; omega) ?_; intro p7 c7 W7 ho7 hg7; have hR7 := (hr7.kept hg7.by_ (blkNe hgl (Nat.le_trans hsW (Nat.le_refl _)) ho6)).rws; have hs7 := hg7.by_.size) | (refine step_append_rows rfl (.tmp 46) (.tmp 47) rfl _ lo _ _ _ _ _ rfl ho7 _ _ _ _ rfl hR7 (by omega) (by simp at hs7; omega) ?_; intro p9 c9 W9 ho9 hg9))
                 | (go_simp; (first | (refine step_append_ints rfl (.tmp 42) (.tmp 43) rfl _ W6.heap.size _ _ _ _ _ rfl (Own.empty W6.drew) _ _ _ _ rfl (hy6.drew.alloc _) (by omega) (by simp) ?_; intro p5 c5 W5 ho5 hg5; simp only [Nat.zero_add, List.nil_append] at ho5; have hb5 : Below W6.heap.size W6 W5 := ((drewBelow W6).trans (boxed W6.drew _)).trans (hg5.belowO (Own.empty W6.drew) (by simp)); have hv7 := ((HW6.out.outer.pre hcA).below hb5).below (boxed W5 (.cells #[.slice p5 m c5] 39)); have hs5 := hb5.size; have hr7 := (ho6.below hb5).below (boxed W5 (.cells #[.slice p5 m c5] 39))) | (refine step_append_row rfl (.tmp 41) (.tmp 45) rfl _ lo _ _ _ _ _ rfl hv7 _ _ _ _ rfl (cellNew _ _ _) (by omega) (by simp; omega) ?_; intro p7 c7 W7 ho7 hg7; have hR7 := (hr7.kept hg7.by_ (blkNe hgl (Nat.le_trans hsW (Nat.le_refl _)) ho6)).rws; have hs7 := hg7.by_.size) | (refine step_append_rows rfl (.tmp 46) (.tmp 47) rfl _ lo _ _ _ _ _ rfl ho7 _ _ _ _ rfl hR7 (by omega) (by simp at hs7; omega) ?_; intro p9 c9 W9 ho9 hg9)))
                 | go_simp
               refine hK.out _ _ ?_
               clear hK K
               try simp only [Act.put, List.setIfInBounds_toArray, List.set_cons_zero, List.set_cons_succ])
          go_wp2
          go_ret
          have hT : 39 ≠ 3 := by decide
          have hs9 := hg9.by_.size
          have hs7' : W5.heap.size ≤ W7.heap.size := by simp at hs7; omega
          have hne7 : ∀ {lo' hi' : Nat} {q' : Option Addr} {n' c' : Nat} {zs : List Int}, Own W5 lo' hi' q' n' c' zs → Own W9 lo' hi' q' n' c' zs := fun hz => by
            have h5 := hz.below (boxed W5 (.cells #[.slice p5 m c5] 39))
            have h7 := h5.kept hg7.by_ (hv7.ne h5.v hT)
            exact h7.kept hg9.by_ (ho7.ne h7.v hT)
          obtain ⟨_, rfl, ho9⟩ : ∃ N, N = n + 1 ∧ OwnV W9 39 1 lo W9.heap.size p9 N c9 _ := ⟨_, by omega, ho9⟩
          have hfin := HW6.out.put ((hne7 ho5).widen (by omega : w.heap.size ≤ W6.heap.size) (by omega : W5.heap.size ≤ W9.heap.size)) (by omega) (Nat.le_refl _) (by omega) (k + 1) hcA (fun j hj => hne7 ((HW6.out.inner j hj).below hb5)) (by simpa [List.map_take, List.map_drop, Row.val] using ho9)
          rcases ho9.form with ⟨_, h0, _⟩ | ⟨g9, rfl, _⟩
          · omega
          rw [← HN.out] at hfin
          have hfN : ∀ N, N = n + 1 → Own2 W9 lo W9.heap.size (some ⟨g9, 0, none⟩) N c9 _ _ := fun N hN => hN.symm ▸ hfin
          refine ⟨g9, _, c9, _, rfl, hfN _ (by omega), ?_⟩
          refine hbW.trans ((hb6.mono (by omega)).trans ((hb5.mono (by omega)).trans (((boxed W5 _).mono (by omega)).trans ((hg7.below (by simp; omega) ?_).trans (hg9.below (by omega) fun a ha => (ho7.lt a ha).1)))))
          exact fun a ha => by injection ha with ha; subst ha; exact hlog
        · go_wp2_with fail
          go_ret
          rw [putL_same (by rw [hl.out]; exact hpk) (by simpa [beqL] using hsm)]
          exact ⟨_, _, _, _, rfl, HW.out.up, hbW⟩
      · go_wp2_with fail
        refine (l2Before_any _ _ _ _ _ _ _ _ (by omega) (hy.drewN z) (hik.drewN z)).mono ?_
        rw [hbf]
        rintro e w1 ⟨rfl, z1, rfl⟩
        go_wp2_with fail
        go_roundw
        case rel => exact ⟨k, by omega, by go_num, (putAt_yes hbf).symm.trans hput.out, by first | exact ⟨_, rfl⟩ | exact drew2 _ _ _⟩
        case measure => simp [intOf]

end Go.Proofs.YteamihmolpaoeaaDoor
