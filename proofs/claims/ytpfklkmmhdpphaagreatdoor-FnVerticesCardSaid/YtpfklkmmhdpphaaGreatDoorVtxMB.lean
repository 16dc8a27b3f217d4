/- Texts joined: VtxT2 VtxU VtxU2 VtxV VtxI VtxI2. -/
import Derived.Test.YtpfklkmmhdpphaaGreatDoorVtxMA
import Derived.Test.YtpfklkmmhdpphaaGreatDoorRat2
import Derived.Test.YtpfklkmmhdpphaaGreatDoorRatReg2
import Derived.Test.YtpfklkmmhdpphaaGreatDoorReg2
import Derived.Test.YtpfklkmmhdpphaaGreatDoorAnyU
import Derived.Test.YtpfklkmmhdpphaaGreatDoorInv
set_option maxRecDepth 4000

/- VerticesOf: the contract of spec.l6Put. Conditions: sizes, reduced fractions. Printed by vput.py. -/
namespace Go.Proofs.YtpfklkmmhdpphaaGreatDoor
open Go.RowKit
set_option linter.unusedVariables false
set_option linter.unusedSimpArgs false
set_option maxRecDepth 100000

theorem Cls.ownV {E : TypeId} {w : World} {lo hi n c : Nat} {p : Option Addr} {vs : List Value} (h : OwnV w E 2 lo hi p n c vs) (h1 : ∀ v ∈ vs, v.oneCell' = true) : Cls w p n vs := by
  rcases h.form with ⟨rfl, rfl, _⟩ | ⟨g, rfl, _⟩
  · have hl := h.len
    exact ⟨hl, h1, fun j hj => absurd hj (by omega)⟩
  · exact Cls.own h h1
theorem pcells_put {rows : List Row} {hs : List Pr} (h : rows.length = hs.length) (k : Nat) (hk : k ≤ rows.length) {q : Option Addr} {m d : Nat} {ys : List Int} {b : Int} :
    (pcells rows hs).take (k * 2) ++ [Value.slice q m d, .int .i64 b] ++ pcells (rows.drop k) (hs.drop k) = pcells (rows.take k ++ [(q, m, d)] ++ rows.drop k) (hs.take k ++ [(ys, b)] ++ hs.drop k) := by
  rw [pcells_append (by simp; omega), pcells_app (by simp; omega), (pcells_split h k hk).1]; rfl
theorem blkNeS {w : World} {E : TypeId} {g lo B hi size : Nat} {q : Option Addr} {n c : Nat} {vs : List Value} (hg : g < lo) (hl : lo ≤ B) (h : OwnV w E size B hi q n c vs) : blk (some ⟨g, 0, none⟩) ≠ blk q ∨ q = none := by
  rcases h.form with ⟨rfl, _⟩ | ⟨g', rfl, h1, _⟩
  · exact .inr rfl
  · exact .inl (by simp [blk]; omega)
theorem grow_at {W W' : World} {g : Nat} {p' : Option Addr} (h : Grow W W' (some ⟨g, 0, none⟩) p') {a : Addr} (ha : p' = some a) : a.block = g ∨ a.block = W.heap.size := by
  subst ha
  rcases h.at_ with h1 | h1
  · simp only [blk, Option.map_some, Option.some.injEq] at h1; exact .inl h1
  · simp only [blk, Option.map_some, Option.some.injEq] at h1; exact .inr h1

set_option maxHeartbeats 8000000 in
theorem l6Put_any (D L mid g : Nat) (X : Nat → Prop) (q : Option Addr) (n c m d : Nat) (rows : List Row) (ps : List Pr) (ys : List Int) (b : Int) (w : World) (hn : n ≤ 1000000) (h : OwnP 32 w L mid (some ⟨g, 0, none⟩) n c rows ps)
    (hr : Own w mid w.heap.size q m d ys) (hlm : L ≤ mid) (hmw : mid ≤ w.heap.size) (hps : ∀ p ∈ ps, Red D p) (hv : Red D (ys, b)) :
    Calls Tryz.prog 70 #[.slice (some ⟨g, 0, none⟩) n c, .agg #[.slice q m d, .int .i64 b]] w (PutTo L X w (vPut ps (ys, b))) := by
  have hcnt := Lib.hid h.count
  have hl := Lib.hid (show ps.length = n from h.len ▸ h.count)
  have Hps := Lib.hid hps
  have Hv := Lib.hid hv
  have hgl := (h.outer.lt _ rfl).2.2
  have hlog : L ≤ g := (h.outer.lt _ rfl).1
  have hcap : n ≤ c ∧ c ≤ 9223372036854775807 := by
    rcases h.outer.form with ⟨h0, _⟩ | ⟨_, _, _, _, _, h1, h2⟩
    · cases h0
    · unfold maxLen at h2; omega
  have kb := Box2.new w (.slice q m d) (.int .i64 b) 32
  have hm9 := hr.small
  have HK := Lib.hid (h.below (boxed w (.cells #[.slice q m d, .int .i64 b] 32)))
  have hr0 := hr.below (boxed w (.cells #[.slice q m d, .int .i64 b] 32))
  have hF0 : Fr L X w (w.alloc (.cells #[.slice q m d, .int .i64 b] 32)) := Fr.of_below (boxed _ _)
  have hs0 : w.heap.size + 1 ≤ (w.alloc (.cells #[.slice q m d, .int .i64 b] 32)).heap.size := by simp
  clear hps hv h hr
  go_enter Tryz.func70, Tryz.ntmps70
  go_wp2
  generalize w.alloc (.cells #[.slice q m d, .int .i64 b] 32) = W0 at *
  go_loopw [5] (fun i wr => ∃ t : Nat, t ≤ n ∧ i = .int .i64 t ∧ Hid (vAt ps (ys, b) t = vAt ps (ys, b) n) ∧ Below W0.heap.size W0 wr) (fun i _ => (intOf i).toNat)
  case atStart => exact ⟨n, Nat.le_refl _, rfl, rfl, Below.refl _ _⟩
  case round =>
    obtain ⟨t, ht, rfl, hput, hb⟩ := hrel
    have HW := Lib.hid (HK.out.below hb)
    have hrW := hr0.below hb
    have kbW := kb.below hb
    have hFW := hF0.step hb
    have hsW0 := hb.size
    have hbW0 := hb
    clear hb
    generalize wr = W at *
    have hsW : w.heap.size + 1 ≤ W.heap.size := by omega
    have ec0 := cell_regrown kbW.c0
    have ec1 := cell_regrown kbW.c1
    cases t with
    | zero =>
      have hd0 : decide ((0 : Int) < ((0 : Nat) : Int)) = false := by simp
      have hcA : 0 ≤ n := by omega
      have HN : Hid (vPut ps (ys, b) = vIn ps (ys, b) (0)) := Lib.hid (vPut_zero (by rw [hl.out]; exact hput.out))
      go_wp2_with fail
      refine wp_region_quiet_below (by kernel_rfl) (by kernel_rfl) ?_
      repeat (go_big_quiet_step (fail))
      refine wpQuiet_nil ?_
      intro _ hw'
      obtain ⟨⟨dq, osq⟩, hw''⟩ := hw'
      subst hw''
      obtain ⟨V, hV⟩ : ∃ V, V = Sort.grow (redrawn W dq) osq := ⟨_, rfl⟩
      have hbV : Below W.heap.size W V := hV ▸ below_regrown W dq osq
      rw [← hV]
      clear hV
      replace HW := Lib.hid (HW.out.below hbV)
      replace hrW := hrW.below hbV
      replace kbW := kbW.below hbV
      replace hFW := hFW.step hbV
      replace hsW : w.heap.size + 1 ≤ V.heap.size := Nat.le_trans hsW hbV.size
      replace hbW0 := hbW0.trans (hbV.mono hsW0)
      replace hsW0 := Nat.le_trans hsW0 hbV.size
      clear hbV ec0 ec1
      generalize V = W at *
      have ec0 := cell_regrown kbW.c0
      have ec1 := cell_regrown kbW.c1
      go_wp2_with fail
      refine wp_region_quiet_below (by kernel_rfl) (by kernel_rfl) ?_
      repeat (go_big_quiet_step (fail))
      refine wpQuiet_nil ?_
      intro _ hw'
      obtain ⟨⟨dq, osq⟩, hw''⟩ := hw'
      subst hw''
      obtain ⟨V, hV⟩ : ∃ V, V = Sort.grow (redrawn W dq) osq := ⟨_, rfl⟩
      have hbV : Below W.heap.size W V := hV ▸ below_regrown W dq osq
      rw [← hV]
      clear hV
      replace HW := Lib.hid (HW.out.below hbV)
      replace hrW := hrW.below hbV
      replace kbW := kbW.below hbV
      replace hFW := hFW.step hbV
      replace hsW : w.heap.size + 1 ≤ V.heap.size := Nat.le_trans hsW hbV.size
      replace hbW0 := hbW0.trans (hbV.mono hsW0)
      replace hsW0 := Nat.le_trans hsW0 hbV.size
      clear hbV ec0 ec1
      generalize V = W at *
      have ec0 := cell_regrown kbW.c0
      have ec1 := cell_regrown kbW.c1
      have HR : Hid (Cls W (some ⟨g, 0, none⟩) n (pcells (rows.drop 0) (ps.drop 0))) := Lib.hid (Cls.ownV HW.out.outer (pcells_one _ _))
      go_wp2_with (at_builtin; go_must (refine append_rats rfl _ _ rfl _ W.heap.size _ _ _ _ _ rfl (OwnV.emptyR W) _ _ _ (pcells (rows.drop (0)) (ps.drop (0))) rfl (Cls.below HR.out (boxed W _)) (by omega) (by simp) ?_); intro p6 c6 W6 ho6 hg6; refine Hid.out ?_)
      refine Lib.hid ?_
      have hb6 : Below W.heap.size W W6 := (boxed W _).trans (hg6.below (by simp) (fun a ha => ((OwnV.emptyR W).lt a ha).1))
      simp only [Nat.zero_add, List.nil_append] at ho6
      have HW6 := Lib.hid (HW.out.below hb6)
      have hr6 := hrW.below hb6
      have kb6 := kbW.below hb6
      have hs6 := hb6.size
      have hv7 := ((HW6.out.outer.preS hcA).drew).below (boxed W6.drew (.cells #[.slice q m d, .int .i64 b] 32))
      clear HW
      go_wp2_with fail
      refine wp_region_u 8 9 (fun w' => w'.cell? ⟨w.heap.size, 0, none⟩ = some (.slice q m d) ∧ w'.cell? ⟨w.heap.size, 1, none⟩ = some (.int .i64 b)) (by kernel_rfl) rfl (by (try dsimp only); first | exact ⟨(kb6.drew).c0, (kb6.drew).c1⟩ | exact ⟨((kb6.drew).alloc _).c0, ((kb6.drew).alloc _).c1⟩ | exact ⟨kb7.c0, kb7.c1⟩ | exact ⟨kb9.c0, kb9.c1⟩) (fun hHeld => ?_)
      first
        | (refine WalkU.take (i := 0) (v := ?_) rfl (by kernel_rfl) (by kernel_rfl) (by kernel_rfl) (by kernel_rfl) (fun _ _ _ h => h) (Or.inl ⟨by rfl, ?_⟩) hHeld ?_
           rotate_left
           · (intro w hSw; (try dsimp only at hSw); go_simp; try with_reducible rfl)
           try simp only [Act.put, List.setIfInBounds_toArray, List.set_cons_zero, List.set_cons_succ])
        | (refine WalkU.take (i := 0) (v := undef) rfl (by kernel_rfl) (by kernel_rfl) (by kernel_rfl) (by kernel_rfl) (fun _ _ _ h => h) (Or.inr ⟨by rfl, rfl⟩) hHeld ?_
           try simp only [Act.put, List.setIfInBounds_toArray, List.set_cons_zero, List.set_cons_succ])
        | (refine WalkU.one (i := 0) rfl (by kernel_rfl) (fun K hK => ?_)
           first
             | (first | (refine step_append_rat rfl (.tmp 43) (.tmp 45) rfl _ L _ _ _ _ _ rfl hv7 _ _ _ _ _ rfl (Box2.new _ _ _ _) (by omega) (by simp; omega) ?_; intro p7 c7 W7 ho7 hg7; have kb7 := ((kb6.drew).alloc (.cells #[.slice q m d, .int .i64 b] 32)).grow hg7 (fun a ha => by injection ha with ha; subst ha; dsimp only; omega); have hR7 := Cls.ownV ((((ho6.drew).below (boxed W6.drew _)).kept hg7.by_ (blkNeS hgl (by omega : w.heap.size ≤ W.heap.size) ho6))) (pcells_one _ _); have hs7 := hg7.by_.size) | (refine step_append_rats rfl (.tmp 46) (.tmp 47) rfl _ L _ _ _ _ _ rfl ho7 _ _ _ _ rfl hR7 (by omega) (by simp at hs7; omega) ?_; intro p9 c9 W9 ho9 hg9; have kb9 := kb7.grow hg9 (fun a ha => by have h1 := grow_at hg7 ha; rcases h1 with h1 | h1; omega; (simp only [World.size_drew, World.size_alloc] at h1; omega))))
             | (go_simp; (first | (refine step_append_rat rfl (.tmp 43) (.tmp 45) rfl _ L _ _ _ _ _ rfl hv7 _ _ _ _ _ rfl (Box2.new _ _ _ _) (by omega) (by simp; omega) ?_; intro p7 c7 W7 ho7 hg7; have kb7 := ((kb6.drew).alloc (.cells #[.slice q m d, .int .i64 b] 32)).grow hg7 (fun a ha => by injection ha with ha; subst ha; dsimp only; omega); have hR7 := Cls.ownV ((((ho6.drew).below (boxed W6.drew _)).kept hg7.by_ (blkNeS hgl (by omega : w.heap.size ≤ W.heap.size) ho6))) (pcells_one _ _); have hs7 := hg7.by_.size) | (refine step_append_rats rfl (.tmp 46) (.tmp 47) rfl _ L _ _ _ _ _ rfl ho7 _ _ _ _ rfl hR7 (by omega) (by simp at hs7; omega) ?_; intro p9 c9 W9 ho9 hg9; have kb9 := kb7.grow hg9 (fun a ha => by have h1 := grow_at hg7 ha; rcases h1 with h1 | h1; omega; (simp only [World.size_drew, World.size_alloc] at h1; omega)))))
             | go_simp
           refine hK.out _ _ ?_ (fun hHeld => ?_)
           · ((try dsimp only); first | exact ⟨(kb6.drew).c0, (kb6.drew).c1⟩ | exact ⟨((kb6.drew).alloc _).c0, ((kb6.drew).alloc _).c1⟩ | exact ⟨kb7.c0, kb7.c1⟩ | exact ⟨kb9.c0, kb9.c1⟩)
           clear hK K
           try simp only [Act.put, List.setIfInBounds_toArray, List.set_cons_zero, List.set_cons_succ])
      first
        | (refine WalkU.take (i := 1) (v := ?_) rfl (by kernel_rfl) (by kernel_rfl) (by kernel_rfl) (by kernel_rfl) (fun _ _ _ h => h) (Or.inl ⟨by rfl, ?_⟩) hHeld ?_
           rotate_left
           · (intro w hSw; (try dsimp only at hSw); go_simp; try with_reducible rfl)
           try simp only [Act.put, List.setIfInBounds_toArray, List.set_cons_zero, List.set_cons_succ])
        | (refine WalkU.take (i := 1) (v := undef) rfl (by kernel_rfl) (by kernel_rfl) (by kernel_rfl) (by kernel_rfl) (fun _ _ _ h => h) (Or.inr ⟨by rfl, rfl⟩) hHeld ?_
           try simp only [Act.put, List.setIfInBounds_toArray, List.set_cons_zero, List.set_cons_succ])
        | (refine WalkU.one (i := 1) rfl (by kernel_rfl) (fun K hK => ?_)
           first
             | (first | (refine step_append_rat rfl (.tmp 43) (.tmp 45) rfl _ L _ _ _ _ _ rfl hv7 _ _ _ _ _ rfl (Box2.new _ _ _ _) (by omega) (by simp; omega) ?_; intro p7 c7 W7 ho7 hg7; have kb7 := ((kb6.drew).alloc (.cells #[.slice q m d, .int .i64 b] 32)).grow hg7 (fun a ha => by injection ha with ha; subst ha; dsimp only; omega); have hR7 := Cls.ownV ((((ho6.drew).below (boxed W6.drew _)).kept hg7.by_ (blkNeS hgl (by omega : w.heap.size ≤ W.heap.size) ho6))) (pcells_one _ _); have hs7 := hg7.by_.size) | (refine step_append_rats rfl (.tmp 46) (.tmp 47) rfl _ L _ _ _ _ _ rfl ho7 _ _ _ _ rfl hR7 (by omega) (by simp at hs7; omega) ?_; intro p9 c9 W9 ho9 hg9; have kb9 := kb7.grow hg9 (fun a ha => by have h1 := grow_at hg7 ha; rcases h1 with h1 | h1; omega; (simp only [World.size_drew, World.size_alloc] at h1; omega))))
             | (go_simp; (first | (refine step_append_rat rfl (.tmp 43) (.tmp 45) rfl _ L _ _ _ _ _ rfl hv7 _ _ _ _ _ rfl (Box2.new _ _ _ _) (by omega) (by simp; omega) ?_; intro p7 c7 W7 ho7 hg7; have kb7 := ((kb6.drew).alloc (.cells #[.slice q m d, .int .i64 b] 32)).grow hg7 (fun a ha => by injection ha with ha; subst ha; dsimp only; omega); have hR7 := Cls.ownV ((((ho6.drew).below (boxed W6.drew _)).kept hg7.by_ (blkNeS hgl (by omega : w.heap.size ≤ W.heap.size) ho6))) (pcells_one _ _); have hs7 := hg7.by_.size) | (refine step_append_rats rfl (.tmp 46) (.tmp 47) rfl _ L _ _ _ _ _ rfl ho7 _ _ _ _ rfl hR7 (by omega) (by simp at hs7; omega) ?_; intro p9 c9 W9 ho9 hg9; have kb9 := kb7.grow hg9 (fun a ha => by have h1 := grow_at hg7 ha; rcases h1 with h1 | h1; omega; (simp only [World.size_drew, World.size_alloc] at h1; omega)))))
             | go_simp
           refine hK.out _ _ ?_ (fun hHeld => ?_)
           · ((try dsimp only); first | exact ⟨(kb6.drew).c0, (kb6.drew).c1⟩ | exact ⟨((kb6.drew).alloc _).c0, ((kb6.drew).alloc _).c1⟩ | exact ⟨kb7.c0, kb7.c1⟩ | exact ⟨kb9.c0, kb9.c1⟩)
           clear hK K
           try simp only [Act.put, List.setIfInBounds_toArray, List.set_cons_zero, List.set_cons_succ])
      first
        | (refine WalkU.take (i := 2) (v := ?_) rfl (by kernel_rfl) (by kernel_rfl) (by kernel_rfl) (by kernel_rfl) (fun _ _ _ h => h) (Or.inl ⟨by rfl, ?_⟩) hHeld ?_
           rotate_left
           · (intro w hSw; (try dsimp only at hSw); go_simp; try with_reducible rfl)
           try simp only [Act.put, List.setIfInBounds_toArray, List.set_cons_zero, List.set_cons_succ])
        | (refine WalkU.take (i := 2) (v := undef) rfl (by kernel_rfl) (by kernel_rfl) (by kernel_rfl) (by kernel_rfl) (fun _ _ _ h => h) (Or.inr ⟨by rfl, rfl⟩) hHeld ?_
           try simp only [Act.put, List.setIfInBounds_toArray, List.set_cons_zero, List.set_cons_succ])
        | (refine WalkU.one (i := 2) rfl (by kernel_rfl) (fun K hK => ?_)
           first
             | (first | (refine step_append_rat rfl (.tmp 43) (.tmp 45) rfl _ L _ _ _ _ _ rfl hv7 _ _ _ _ _ rfl (Box2.new _ _ _ _) (by omega) (by simp; omega) ?_; intro p7 c7 W7 ho7 hg7; have kb7 := ((kb6.drew).alloc (.cells #[.slice q m d, .int .i64 b] 32)).grow hg7 (fun a ha => by injection ha with ha; subst ha; dsimp only; omega); have hR7 := Cls.ownV ((((ho6.drew).below (boxed W6.drew _)).kept hg7.by_ (blkNeS hgl (by omega : w.heap.size ≤ W.heap.size) ho6))) (pcells_one _ _); have hs7 := hg7.by_.size) | (refine step_append_rats rfl (.tmp 46) (.tmp 47) rfl _ L _ _ _ _ _ rfl ho7 _ _ _ _ rfl hR7 (by omega) (by simp at hs7; omega) ?_; intro p9 c9 W9 ho9 hg9; have kb9 := kb7.grow hg9 (fun a ha => by have h1 := grow_at hg7 ha; rcases h1 with h1 | h1; omega; (simp only [World.size_drew, World.size_alloc] at h1; omega))))
             | (go_simp; (first | (refine step_append_rat rfl (.tmp 43) (.tmp 45) rfl _ L _ _ _ _ _ rfl hv7 _ _ _ _ _ rfl (Box2.new _ _ _ _) (by omega) (by simp; omega) ?_; intro p7 c7 W7 ho7 hg7; have kb7 := ((kb6.drew).alloc (.cells #[.slice q m d, .int .i64 b] 32)).grow hg7 (fun a ha => by injection ha with ha; subst ha; dsimp only; omega); have hR7 := Cls.ownV ((((ho6.drew).below (boxed W6.drew _)).kept hg7.by_ (blkNeS hgl (by omega : w.heap.size ≤ W.heap.size) ho6))) (pcells_one _ _); have hs7 := hg7.by_.size) | (refine step_append_rats rfl (.tmp 46) (.tmp 47) rfl _ L _ _ _ _ _ rfl ho7 _ _ _ _ rfl hR7 (by omega) (by simp at hs7; omega) ?_; intro p9 c9 W9 ho9 hg9; have kb9 := kb7.grow hg9 (fun a ha => by have h1 := grow_at hg7 ha; rcases h1 with h1 | h1; omega; (simp only [World.size_drew, World.size_alloc] at h1; omega)))))
             | go_simp
           refine hK.out _ _ ?_ (fun hHeld => ?_)
           · ((try dsimp only); first | exact ⟨(kb6.drew).c0, (kb6.drew).c1⟩ | exact ⟨((kb6.drew).alloc _).c0, ((kb6.drew).alloc _).c1⟩ | exact ⟨kb7.c0, kb7.c1⟩ | exact ⟨kb9.c0, kb9.c1⟩)
           clear hK K
           try simp only [Act.put, List.setIfInBounds_toArray, List.set_cons_zero, List.set_cons_succ])
      first
        | (refine WalkU.take (i := 3) (v := ?_) rfl (by kernel_rfl) (by kernel_rfl) (by kernel_rfl) (by kernel_rfl) (fun _ _ _ h => h) (Or.inl ⟨by rfl, ?_⟩) hHeld ?_
           rotate_left
           · (intro w hSw; (try dsimp only at hSw); go_simp; try with_reducible rfl)
           try simp only [Act.put, List.setIfInBounds_toArray, List.set_cons_zero, List.set_cons_succ])
        | (refine WalkU.take (i := 3) (v := undef) rfl (by kernel_rfl) (by kernel_rfl) (by kernel_rfl) (by kernel_rfl) (fun _ _ _ h => h) (Or.inr ⟨by rfl, rfl⟩) hHeld ?_
           try simp only [Act.put, List.setIfInBounds_toArray, List.set_cons_zero, List.set_cons_succ])
        | (refine WalkU.one (i := 3) rfl (by kernel_rfl) (fun K hK => ?_)
           first
             | (first | (refine step_append_rat rfl (.tmp 43) (.tmp 45) rfl _ L _ _ _ _ _ rfl hv7 _ _ _ _ _ rfl (Box2.new _ _ _ _) (by omega) (by simp; omega) ?_; intro p7 c7 W7 ho7 hg7; have kb7 := ((kb6.drew).alloc (.cells #[.slice q m d, .int .i64 b] 32)).grow hg7 (fun a ha => by injection ha with ha; subst ha; dsimp only; omega); have hR7 := Cls.ownV ((((ho6.drew).below (boxed W6.drew _)).kept hg7.by_ (blkNeS hgl (by omega : w.heap.size ≤ W.heap.size) ho6))) (pcells_one _ _); have hs7 := hg7.by_.size) | (refine step_append_rats rfl (.tmp 46) (.tmp 47) rfl _ L _ _ _ _ _ rfl ho7 _ _ _ _ rfl hR7 (by omega) (by simp at hs7; omega) ?_; intro p9 c9 W9 ho9 hg9; have kb9 := kb7.grow hg9 (fun a ha => by have h1 := grow_at hg7 ha; rcases h1 with h1 | h1; omega; (simp only [World.size_drew, World.size_alloc] at h1; omega))))
             | (go_simp; (first | (refine step_append_rat rfl (.tmp 43) (.tmp 45) rfl _ L _ _ _ _ _ rfl hv7 _ _ _ _ _ rfl (Box2.new _ _ _ _) (by omega) (by simp; omega) ?_; intro p7 c7 W7 ho7 hg7; have kb7 := ((kb6.drew).alloc (.cells #[.slice q m d, .int .i64 b] 32)).grow hg7 (fun a ha => by injection ha with ha; subst ha; dsimp only; omega); have hR7 := Cls.ownV ((((ho6.drew).below (boxed W6.drew _)).kept hg7.by_ (blkNeS hgl (by omega : w.heap.size ≤ W.heap.size) ho6))) (pcells_one _ _); have hs7 := hg7.by_.size) | (refine step_append_rats rfl (.tmp 46) (.tmp 47) rfl _ L _ _ _ _ _ rfl ho7 _ _ _ _ rfl hR7 (by omega) (by simp at hs7; omega) ?_; intro p9 c9 W9 ho9 hg9; have kb9 := kb7.grow hg9 (fun a ha => by have h1 := grow_at hg7 ha; rcases h1 with h1 | h1; omega; (simp only [World.size_drew, World.size_alloc] at h1; omega)))))
             | go_simp
           refine hK.out _ _ ?_ (fun hHeld => ?_)
           · ((try dsimp only); first | exact ⟨(kb6.drew).c0, (kb6.drew).c1⟩ | exact ⟨((kb6.drew).alloc _).c0, ((kb6.drew).alloc _).c1⟩ | exact ⟨kb7.c0, kb7.c1⟩ | exact ⟨kb9.c0, kb9.c1⟩)
           clear hK K
           try simp only [Act.put, List.setIfInBounds_toArray, List.set_cons_zero, List.set_cons_succ])
      first
        | (refine WalkU.take (i := 6) (v := ?_) rfl (by kernel_rfl) (by kernel_rfl) (by kernel_rfl) (by kernel_rfl) (fun _ _ _ h => h) (Or.inl ⟨by rfl, ?_⟩) hHeld ?_
           rotate_left
           · (intro w hSw; (try dsimp only at hSw); go_simp; try with_reducible rfl)
           try simp only [Act.put, List.setIfInBounds_toArray, List.set_cons_zero, List.set_cons_succ])
        | (refine WalkU.take (i := 6) (v := undef) rfl (by kernel_rfl) (by kernel_rfl) (by kernel_rfl) (by kernel_rfl) (fun _ _ _ h => h) (Or.inr ⟨by rfl, rfl⟩) hHeld ?_
           try simp only [Act.put, List.setIfInBounds_toArray, List.set_cons_zero, List.set_cons_succ])
        | (refine WalkU.one (i := 6) rfl (by kernel_rfl) (fun K hK => ?_)
           first
             | (first | (refine step_append_rat rfl (.tmp 43) (.tmp 45) rfl _ L _ _ _ _ _ rfl hv7 _ _ _ _ _ rfl (Box2.new _ _ _ _) (by omega) (by simp; omega) ?_; intro p7 c7 W7 ho7 hg7; have kb7 := ((kb6.drew).alloc (.cells #[.slice q m d, .int .i64 b] 32)).grow hg7 (fun a ha => by injection ha with ha; subst ha; dsimp only; omega); have hR7 := Cls.ownV ((((ho6.drew).below (boxed W6.drew _)).kept hg7.by_ (blkNeS hgl (by omega : w.heap.size ≤ W.heap.size) ho6))) (pcells_one _ _); have hs7 := hg7.by_.size) | (refine step_append_rats rfl (.tmp 46) (.tmp 47) rfl _ L _ _ _ _ _ rfl ho7 _ _ _ _ rfl hR7 (by omega) (by simp at hs7; omega) ?_; intro p9 c9 W9 ho9 hg9; have kb9 := kb7.grow hg9 (fun a ha => by have h1 := grow_at hg7 ha; rcases h1 with h1 | h1; omega; (simp only [World.size_drew, World.size_alloc] at h1; omega))))
             | (go_simp; (first | (refine step_append_rat rfl (.tmp 43) (.tmp 45) rfl _ L _ _ _ _ _ rfl hv7 _ _ _ _ _ rfl (Box2.new _ _ _ _) (by omega) (by simp; omega) ?_; intro p7 c7 W7 ho7 hg7; have kb7 := ((kb6.drew).alloc (.cells #[.slice q m d, .int .i64 b] 32)).grow hg7 (fun a ha => by injection ha with ha; subst ha; dsimp only; omega); have hR7 := Cls.ownV ((((ho6.drew).below (boxed W6.drew _)).kept hg7.by_ (blkNeS hgl (by omega : w.heap.size ≤ W.heap.size) ho6))) (pcells_one _ _); have hs7 := hg7.by_.size) | (refine step_append_rats rfl (.tmp 46) (.tmp 47) rfl _ L _ _ _ _ _ rfl ho7 _ _ _ _ rfl hR7 (by omega) (by simp at hs7; omega) ?_; intro p9 c9 W9 ho9 hg9; have kb9 := kb7.grow hg9 (fun a ha => by have h1 := grow_at hg7 ha; rcases h1 with h1 | h1; omega; (simp only [World.size_drew, World.size_alloc] at h1; omega)))))
             | go_simp
           refine hK.out _ _ ?_ (fun hHeld => ?_)
           · ((try dsimp only); first | exact ⟨(kb6.drew).c0, (kb6.drew).c1⟩ | exact ⟨((kb6.drew).alloc _).c0, ((kb6.drew).alloc _).c1⟩ | exact ⟨kb7.c0, kb7.c1⟩ | exact ⟨kb9.c0, kb9.c1⟩)
           clear hK K
           try simp only [Act.put, List.setIfInBounds_toArray, List.set_cons_zero, List.set_cons_succ])
      first
        | (refine WalkU.take (i := 4) (v := ?_) rfl (by kernel_rfl) (by kernel_rfl) (by kernel_rfl) (by kernel_rfl) (fun _ _ _ h => h) (Or.inl ⟨by rfl, ?_⟩) hHeld ?_
           rotate_left
           · (intro w hSw; (try dsimp only at hSw); go_simp; try with_reducible rfl)
           try simp only [Act.put, List.setIfInBounds_toArray, List.set_cons_zero, List.set_cons_succ])
        | (refine WalkU.take (i := 4) (v := undef) rfl (by kernel_rfl) (by kernel_rfl) (by kernel_rfl) (by kernel_rfl) (fun _ _ _ h => h) (Or.inr ⟨by rfl, rfl⟩) hHeld ?_
           try simp only [Act.put, List.setIfInBounds_toArray, List.set_cons_zero, List.set_cons_succ])
        | (refine WalkU.one (i := 4) rfl (by kernel_rfl) (fun K hK => ?_)
           first
             | (first | (refine step_append_rat rfl (.tmp 43) (.tmp 45) rfl _ L _ _ _ _ _ rfl hv7 _ _ _ _ _ rfl (Box2.new _ _ _ _) (by omega) (by simp; omega) ?_; intro p7 c7 W7 ho7 hg7; have kb7 := ((kb6.drew).alloc (.cells #[.slice q m d, .int .i64 b] 32)).grow hg7 (fun a ha => by injection ha with ha; subst ha; dsimp only; omega); have hR7 := Cls.ownV ((((ho6.drew).below (boxed W6.drew _)).kept hg7.by_ (blkNeS hgl (by omega : w.heap.size ≤ W.heap.size) ho6))) (pcells_one _ _); have hs7 := hg7.by_.size) | (refine step_append_rats rfl (.tmp 46) (.tmp 47) rfl _ L _ _ _ _ _ rfl ho7 _ _ _ _ rfl hR7 (by omega) (by simp at hs7; omega) ?_; intro p9 c9 W9 ho9 hg9; have kb9 := kb7.grow hg9 (fun a ha => by have h1 := grow_at hg7 ha; rcases h1 with h1 | h1; omega; (simp only [World.size_drew, World.size_alloc] at h1; omega))))
             | (go_simp; (first | (refine step_append_rat rfl (.tmp 43) (.tmp 45) rfl _ L _ _ _ _ _ rfl hv7 _ _ _ _ _ rfl (Box2.new _ _ _ _) (by omega) (by simp; omega) ?_; intro p7 c7 W7 ho7 hg7; have kb7 := ((kb6.drew).alloc (.cells #[.slice q m d, .int .i64 b] 32)).grow hg7 (fun a ha => by injection ha with ha; subst ha; dsimp only; omega); have hR7 := Cls.ownV ((((ho6.drew).below (boxed W6.drew _)).kept hg7.by_ (blkNeS hgl (by omega : w.heap.size ≤ W.heap.size) ho6))) (pcells_one _ _); have hs7 := hg7.by_.size) | (refine step_append_rats rfl (.tmp 46) (.tmp 47) rfl _ L _ _ _ _ _ rfl ho7 _ _ _ _ rfl hR7 (by omega) (by simp at hs7; omega) ?_; intro p9 c9 W9 ho9 hg9; have kb9 := kb7.grow hg9 (fun a ha => by have h1 := grow_at hg7 ha; rcases h1 with h1 | h1; omega; (simp only [World.size_drew, World.size_alloc] at h1; omega)))))
             | go_simp
           refine hK.out _ _ ?_ (fun hHeld => ?_)
           · ((try dsimp only); first | exact ⟨(kb6.drew).c0, (kb6.drew).c1⟩ | exact ⟨((kb6.drew).alloc _).c0, ((kb6.drew).alloc _).c1⟩ | exact ⟨kb7.c0, kb7.c1⟩ | exact ⟨kb9.c0, kb9.c1⟩)
           clear hK K
           try simp only [Act.put, List.setIfInBounds_toArray, List.set_cons_zero, List.set_cons_succ])
      first
        | (refine WalkU.take (i := 5) (v := ?_) rfl (by kernel_rfl) (by kernel_rfl) (by kernel_rfl) (by kernel_rfl) (fun _ _ _ h => h) (Or.inl ⟨by rfl, ?_⟩) hHeld ?_
           rotate_left
           · (intro w hSw; (try dsimp only at hSw); go_simp; try with_reducible rfl)
           try simp only [Act.put, List.setIfInBounds_toArray, List.set_cons_zero, List.set_cons_succ])
        | (refine WalkU.take (i := 5) (v := undef) rfl (by kernel_rfl) (by kernel_rfl) (by kernel_rfl) (by kernel_rfl) (fun _ _ _ h => h) (Or.inr ⟨by rfl, rfl⟩) hHeld ?_
           try simp only [Act.put, List.setIfInBounds_toArray, List.set_cons_zero, List.set_cons_succ])
        | (refine WalkU.one (i := 5) rfl (by kernel_rfl) (fun K hK => ?_)
           first
             | (first | (refine step_append_rat rfl (.tmp 43) (.tmp 45) rfl _ L _ _ _ _ _ rfl hv7 _ _ _ _ _ rfl (Box2.new _ _ _ _) (by omega) (by simp; omega) ?_; intro p7 c7 W7 ho7 hg7; have kb7 := ((kb6.drew).alloc (.cells #[.slice q m d, .int .i64 b] 32)).grow hg7 (fun a ha => by injection ha with ha; subst ha; dsimp only; omega); have hR7 := Cls.ownV ((((ho6.drew).below (boxed W6.drew _)).kept hg7.by_ (blkNeS hgl (by omega : w.heap.size ≤ W.heap.size) ho6))) (pcells_one _ _); have hs7 := hg7.by_.size) | (refine step_append_rats rfl (.tmp 46) (.tmp 47) rfl _ L _ _ _ _ _ rfl ho7 _ _ _ _ rfl hR7 (by omega) (by simp at hs7; omega) ?_; intro p9 c9 W9 ho9 hg9; have kb9 := kb7.grow hg9 (fun a ha => by have h1 := grow_at hg7 ha; rcases h1 with h1 | h1; omega; (simp only [World.size_drew, World.size_alloc] at h1; omega))))
             | (go_simp; (first | (refine step_append_rat rfl (.tmp 43) (.tmp 45) rfl _ L _ _ _ _ _ rfl hv7 _ _ _ _ _ rfl (Box2.new _ _ _ _) (by omega) (by simp; omega) ?_; intro p7 c7 W7 ho7 hg7; have kb7 := ((kb6.drew).alloc (.cells #[.slice q m d, .int .i64 b] 32)).grow hg7 (fun a ha => by injection ha with ha; subst ha; dsimp only; omega); have hR7 := Cls.ownV ((((ho6.drew).below (boxed W6.drew _)).kept hg7.by_ (blkNeS hgl (by omega : w.heap.size ≤ W.heap.size) ho6))) (pcells_one _ _); have hs7 := hg7.by_.size) | (refine step_append_rats rfl (.tmp 46) (.tmp 47) rfl _ L _ _ _ _ _ rfl ho7 _ _ _ _ rfl hR7 (by omega) (by simp at hs7; omega) ?_; intro p9 c9 W9 ho9 hg9; have kb9 := kb7.grow hg9 (fun a ha => by have h1 := grow_at hg7 ha; rcases h1 with h1 | h1; omega; (simp only [World.size_drew, World.size_alloc] at h1; omega)))))
             | go_simp
           refine hK.out _ _ ?_ (fun hHeld => ?_)
           · ((try dsimp only); first | exact ⟨(kb6.drew).c0, (kb6.drew).c1⟩ | exact ⟨((kb6.drew).alloc _).c0, ((kb6.drew).alloc _).c1⟩ | exact ⟨kb7.c0, kb7.c1⟩ | exact ⟨kb9.c0, kb9.c1⟩)
           clear hK K
           try simp only [Act.put, List.setIfInBounds_toArray, List.set_cons_zero, List.set_cons_succ])
      first
        | (refine WalkU.take (i := 7) (v := ?_) rfl (by kernel_rfl) (by kernel_rfl) (by kernel_rfl) (by kernel_rfl) (fun _ _ _ h => h) (Or.inl ⟨by rfl, ?_⟩) hHeld ?_
           rotate_left
           · (intro w hSw; (try dsimp only at hSw); go_simp; try with_reducible rfl)
           try simp only [Act.put, List.setIfInBounds_toArray, List.set_cons_zero, List.set_cons_succ])
        | (refine WalkU.take (i := 7) (v := undef) rfl (by kernel_rfl) (by kernel_rfl) (by kernel_rfl) (by kernel_rfl) (fun _ _ _ h => h) (Or.inr ⟨by rfl, rfl⟩) hHeld ?_
           try simp only [Act.put, List.setIfInBounds_toArray, List.set_cons_zero, List.set_cons_succ])
        | (refine WalkU.one (i := 7) rfl (by kernel_rfl) (fun K hK => ?_)
           first
             | (first | (refine step_append_rat rfl (.tmp 43) (.tmp 45) rfl _ L _ _ _ _ _ rfl hv7 _ _ _ _ _ rfl (Box2.new _ _ _ _) (by omega) (by simp; omega) ?_; intro p7 c7 W7 ho7 hg7; have kb7 := ((kb6.drew).alloc (.cells #[.slice q m d, .int .i64 b] 32)).grow hg7 (fun a ha => by injection ha with ha; subst ha; dsimp only; omega); have hR7 := Cls.ownV ((((ho6.drew).below (boxed W6.drew _)).kept hg7.by_ (blkNeS hgl (by omega : w.heap.size ≤ W.heap.size) ho6))) (pcells_one _ _); have hs7 := hg7.by_.size) | (refine step_append_rats rfl (.tmp 46) (.tmp 47) rfl _ L _ _ _ _ _ rfl ho7 _ _ _ _ rfl hR7 (by omega) (by simp at hs7; omega) ?_; intro p9 c9 W9 ho9 hg9; have kb9 := kb7.grow hg9 (fun a ha => by have h1 := grow_at hg7 ha; rcases h1 with h1 | h1; omega; (simp only [World.size_drew, World.size_alloc] at h1; omega))))
             | (go_simp; (first | (refine step_append_rat rfl (.tmp 43) (.tmp 45) rfl _ L _ _ _ _ _ rfl hv7 _ _ _ _ _ rfl (Box2.new _ _ _ _) (by omega) (by simp; omega) ?_; intro p7 c7 W7 ho7 hg7; have kb7 := ((kb6.drew).alloc (.cells #[.slice q m d, .int .i64 b] 32)).grow hg7 (fun a ha => by injection ha with ha; subst ha; dsimp only; omega); have hR7 := Cls.ownV ((((ho6.drew).below (boxed W6.drew _)).kept hg7.by_ (blkNeS hgl (by omega : w.heap.size ≤ W.heap.size) ho6))) (pcells_one _ _); have hs7 := hg7.by_.size) | (refine step_append_rats rfl (.tmp 46) (.tmp 47) rfl _ L _ _ _ _ _ rfl ho7 _ _ _ _ rfl hR7 (by omega) (by simp at hs7; omega) ?_; intro p9 c9 W9 ho9 hg9; have kb9 := kb7.grow hg9 (fun a ha => by have h1 := grow_at hg7 ha; rcases h1 with h1 | h1; omega; (simp only [World.size_drew, World.size_alloc] at h1; omega)))))
             | go_simp
           refine hK.out _ _ ?_ (fun hHeld => ?_)
           · ((try dsimp only); first | exact ⟨(kb6.drew).c0, (kb6.drew).c1⟩ | exact ⟨((kb6.drew).alloc _).c0, ((kb6.drew).alloc _).c1⟩ | exact ⟨kb7.c0, kb7.c1⟩ | exact ⟨kb9.c0, kb9.c1⟩)
           clear hK K
           try simp only [Act.put, List.setIfInBounds_toArray, List.set_cons_zero, List.set_cons_succ])
      first
        | (refine WalkU.last (i := 8) rfl rfl (by kernel_rfl) (by kernel_rfl) (fun K hK => ?_)
           first
             | (first | (refine step_append_rat rfl (.tmp 43) (.tmp 45) rfl _ L _ _ _ _ _ rfl hv7 _ _ _ _ _ rfl (Box2.new _ _ _ _) (by omega) (by simp; omega) ?_; intro p7 c7 W7 ho7 hg7; have kb7 := ((kb6.drew).alloc (.cells #[.slice q m d, .int .i64 b] 32)).grow hg7 (fun a ha => by injection ha with ha; subst ha; dsimp only; omega); have hR7 := Cls.ownV ((((ho6.drew).below (boxed W6.drew _)).kept hg7.by_ (blkNeS hgl (by omega : w.heap.size ≤ W.heap.size) ho6))) (pcells_one _ _); have hs7 := hg7.by_.size) | (refine step_append_rats rfl (.tmp 46) (.tmp 47) rfl _ L _ _ _ _ _ rfl ho7 _ _ _ _ rfl hR7 (by omega) (by simp at hs7; omega) ?_; intro p9 c9 W9 ho9 hg9; have kb9 := kb7.grow hg9 (fun a ha => by have h1 := grow_at hg7 ha; rcases h1 with h1 | h1; omega; (simp only [World.size_drew, World.size_alloc] at h1; omega))))
             | (go_simp; (first | (refine step_append_rat rfl (.tmp 43) (.tmp 45) rfl _ L _ _ _ _ _ rfl hv7 _ _ _ _ _ rfl (Box2.new _ _ _ _) (by omega) (by simp; omega) ?_; intro p7 c7 W7 ho7 hg7; have kb7 := ((kb6.drew).alloc (.cells #[.slice q m d, .int .i64 b] 32)).grow hg7 (fun a ha => by injection ha with ha; subst ha; dsimp only; omega); have hR7 := Cls.ownV ((((ho6.drew).below (boxed W6.drew _)).kept hg7.by_ (blkNeS hgl (by omega : w.heap.size ≤ W.heap.size) ho6))) (pcells_one _ _); have hs7 := hg7.by_.size) | (refine step_append_rats rfl (.tmp 46) (.tmp 47) rfl _ L _ _ _ _ _ rfl ho7 _ _ _ _ rfl hR7 (by omega) (by simp at hs7; omega) ?_; intro p9 c9 W9 ho9 hg9; have kb9 := kb7.grow hg9 (fun a ha => by have h1 := grow_at hg7 ha; rcases h1 with h1 | h1; omega; (simp only [World.size_drew, World.size_alloc] at h1; omega)))))
             | go_simp
           refine hK.out _ _ ?_
           clear hK K
           try simp only [Act.put, List.setIfInBounds_toArray, List.set_cons_zero, List.set_cons_succ])
      go_wp2
      go_ret
      have hs9 := hg9.by_.size
      have hs7' : W6.heap.size ≤ W7.heap.size := by simp at hs7; omega
      have hne7 : ∀ {lo' hi' : Nat} {q' : Option Addr} {n' c' : Nat} {zs : List Int}, L ≤ lo' → Own W6 lo' hi' q' n' c' zs → Own W9 L W9.heap.size q' n' c' zs := fun hlo' hz => by
        have h5 := (hz.drew).below (boxed W6.drew (.cells #[.slice q m d, .int .i64 b] 32))
        have h7 := h5.kept hg7.by_ (hv7.ne h5.v ratNe)
        exact ((h7.kept hg9.by_ (ho7.ne h7.v ratNe)).up).widen hlo' (Nat.le_refl _)
      rw [pcells_put HW6.out.len (0) (by have := hcnt.out; omega)] at ho9
      obtain ⟨_, rfl, ho9⟩ : ∃ N, N = n + 1 ∧ OwnV W9 32 2 L W9.heap.size p9 N c9 _ := ⟨_, by omega, ho9⟩
      have hfin := HW6.out.putV (hne7 hlm hr6) (fun r hr1 => by
        obtain ⟨j, hj, rfl⟩ := List.getElem_of_mem hr1
        exact ⟨(HW6.out.inner j hj).apart hr6 (.inl (Nat.le_refl _)), hr6.apart (HW6.out.inner j hj) (.inr (Nat.le_refl _))⟩) (0) hcA (fun j hj => hne7 (Nat.le_refl _) (HW6.out.inner j hj)) ho9
      rcases ho9.form with ⟨_, h0, _⟩ | ⟨g9, rfl, _⟩
      · omega
      rw [show ps.take (0) ++ [(ys, b)] ++ ps.drop (0) = vPut ps (ys, b) from HN.out.symm] at hfin
      have hfN : ∀ N, N = n + 1 → OwnP 32 W9 L W9.heap.size (some ⟨g9, 0, none⟩) N c9 _ _ := fun N hN => hN.symm ▸ hfin
      exact ⟨g9, _, c9, _, rfl, hfN _ (by omega), (((hFW.step hb6).drew.alloc _).trans (Fr.grown hv7 (Nat.le_refl _) hg7.by_)).trans (Fr.grown ho7 (Nat.le_refl _) hg9.by_)⟩
    | succ k =>
      have hkn : k < rows.length := by have := hcnt.out; omega
      have hkp : k < ps.length := by have := hl.out; omega
      obtain ⟨g1, hg1, _, _, ck0w, ck1w, _⟩ := HK.out.rowAt k (by omega) hkn
      injection hg1 with hg1
      injection hg1 with hg1
      subst hg1
      have hik := (HK.out.inner k hkn).ints
      have hr9 := (HK.out.inner k hkn).small
      generalize rows[k] = rk at *
      obtain ⟨qk, mk, dk⟩ := rk
      dsimp only at ck0w hik hr9
      have Hre := Hps.out _ (prAt_mem hkp)
      have hcm : cmpRat ys b (nrm ps k) (bnd ps k) = cmpP (ys, b) (prAt ps k) := cmpRat_red Hv.out Hre
      have HC : Hid (∀ V, Below W0.heap.size W0 V → Calls Tryz.prog 17 #[.agg #[.slice q m d, .int .i64 b], .agg #[.slice qk mk dk, .int .i64 (bnd ps k)]] V (Ret (.int .i64 (cmpP (ys, b) (prAt ps k))) V)) :=
        Lib.hid fun V hV => by rw [← hcm]; exact specCompareRat_any _ _ _ _ _ _ _ _ _ _ _ hm9 hr9 (hr0.ints.below hV) (hik.below hV)
      clear hcm hik
      generalize bnd ps k = bk at *
      have hw1 : IntKind.i64.wrap (((k + 1 : Nat) : Int) - 1) = (k : Int) := by rw [wrapEq, wrap64_id (by omega) (by omega)]; omega
      have hw2 : IntKind.i64.wrap (((k : Nat) : Int) + 1 - 1) = (k : Int) := by rw [wrapEq, wrap64_id (by omega) (by omega)]; omega
      have hz1 : (0 : Int) ≤ (k : Int) := by omega
      have hz2 : (k : Int) < (n : Int) := by omega
      have hd0 : decide ((0 : Int) < ((k + 1 : Nat) : Int)) = true := by simp only [decide_eq_true_eq]; omega
      have hd0n : decide (0 < k + 1) = true := by simp
      obtain ⟨r, hrc⟩ : ∃ r, cmpP (ys, b) (prAt ps k) = r := ⟨_, rfl⟩
      rw [hrc] at HC
      have Hrc := Lib.hid hrc
      clear hrc
      have ek0 := cell_regrown (Below.cells hbW0 ck0w)
      have ek1 := cell_regrown (Below.cells hbW0 ck1w)
      have K1 : Hid (∀ d' os, Calls Tryz.prog 17 #[.agg #[.slice q m d, .int .i64 b], .agg #[.slice qk mk dk, .int .i64 bk]] (Sort.grow (redrawn W d') os) fun e w' => e = .returned (.int .i64 r) ∧ ∃ p : Regrown, w' = Sort.grow (redrawn W p.d) p.os) :=
        Lib.hid fun d' os => Calls.regrown_of (HC.out _ (hbW0.trans ((below_regrown W d' os).mono hsW0)))
      by_cases hneg : r < 0
      · have hd1 : decide (r < 0) = true := by simpa using hneg
        go_wp2_with fail
        refine wp_region_quiet_below (by kernel_rfl) (by kernel_rfl) ?_
        repeat (go_big_quiet_step (with_reducible exact K1.out _ _))
        refine wpQuiet_nil ?_
        intro _ hw'
        obtain ⟨⟨dq, osq⟩, hw''⟩ := hw'
        subst hw''
        obtain ⟨V, hV⟩ : ∃ V, V = Sort.grow (redrawn W dq) osq := ⟨_, rfl⟩
        have hbV : Below W.heap.size W V := hV ▸ below_regrown W dq osq
        rw [← hV]
        clear hV
        go_wp2_with fail
        go_roundw
        case rel => exact ⟨k, by omega, by go_num, Lib.hid ((vAt_yes (by rw [Hrc.out]; exact hneg)).symm.trans hput.out), hbW0.trans (hbV.mono hsW0)⟩
        case measure => simp [intOf]
      · have hd1 : decide (r < 0) = false := by simpa using hneg
        have hpk2 : vAt ps (ys, b) n = k + 1 := hput.out.symm.trans (vAt_no (by rw [Hrc.out]; exact hneg))
        have Hpk2 := Lib.hid hpk2
        clear hpk2 hput
        go_wp2_with fail
        refine wp_region_quiet_below (by kernel_rfl) (by kernel_rfl) ?_
        repeat (go_big_quiet_step (with_reducible exact K1.out _ _))
        refine wpQuiet_nil ?_
        intro _ hw'
        obtain ⟨⟨dq, osq⟩, hw''⟩ := hw'
        subst hw''
        obtain ⟨V, hV⟩ : ∃ V, V = Sort.grow (redrawn W dq) osq := ⟨_, rfl⟩
        have hbV : Below W.heap.size W V := hV ▸ below_regrown W dq osq
        rw [← hV]
        clear hV
        replace HW := Lib.hid (HW.out.below hbV)
        replace hrW := hrW.below hbV
        replace kbW := kbW.below hbV
        replace hFW := hFW.step hbV
        replace hsW : w.heap.size + 1 ≤ V.heap.size := Nat.le_trans hsW hbV.size
        replace hbW0 := hbW0.trans (hbV.mono hsW0)
        replace hsW0 := Nat.le_trans hsW0 hbV.size
        clear hbV ec0 ec1
        generalize V = W at *
        have ec0 := cell_regrown kbW.c0
        have ec1 := cell_regrown kbW.c1
        clear K1 ek0 ek1
        have ek0 := cell_regrown (Below.cells hbW0 ck0w)
        have ek1 := cell_regrown (Below.cells hbW0 ck1w)
        have K1 : Hid (∀ d' os, Calls Tryz.prog 17 #[.agg #[.slice q m d, .int .i64 b], .agg #[.slice qk mk dk, .int .i64 bk]] (Sort.grow (redrawn W d') os) fun e w' => e = .returned (.int .i64 r) ∧ ∃ p : Regrown, w' = Sort.grow (redrawn W p.d) p.os) :=
          Lib.hid fun d' os => Calls.regrown_of (HC.out _ (hbW0.trans ((below_regrown W d' os).mono hsW0)))
        by_cases hzr : r = 0
        · have hd2 : (r == 0) = true := by simpa using hzr
          have HN := Lib.hid (vPut_same (ps := ps) (v := (ys, b)) (k := k) (by rw [hl.out]; exact Hpk2.out) (by rw [Hrc.out]; exact hzr))
          clear hzr
          go_wp2_with fail
          refine wp_region_quiet_below (by kernel_rfl) (by kernel_rfl) ?_
          repeat (go_big_quiet_step (with_reducible exact K1.out _ _))
          refine wpQuiet_nil ?_
          intro _ hw'
          obtain ⟨⟨dq, osq⟩, hw''⟩ := hw'
          subst hw''
          obtain ⟨V, hV⟩ : ∃ V, V = Sort.grow (redrawn W dq) osq := ⟨_, rfl⟩
          have hbV : Below W.heap.size W V := hV ▸ below_regrown W dq osq
          rw [← hV]
          clear hV
          replace HW := Lib.hid (HW.out.below hbV)
          replace hrW := hrW.below hbV
          replace kbW := kbW.below hbV
          replace hFW := hFW.step hbV
          replace hsW : w.heap.size + 1 ≤ V.heap.size := Nat.le_trans hsW hbV.size
          replace hbW0 := hbW0.trans (hbV.mono hsW0)
          replace hsW0 := Nat.le_trans hsW0 hbV.size
          clear hbV ec0 ec1
          generalize V = W at *
          have ec0 := cell_regrown kbW.c0
          have ec1 := cell_regrown kbW.c1
          go_wp2_with fail
          go_ret
          rw [HN.out]
          exact ⟨g, n, c, rows, rfl, HW.out.up, hFW⟩
        · have hd2 : (r == 0) = false := by simpa using hzr
          have HN := Lib.hid (vPut_succ (ps := ps) (v := (ys, b)) (k := k) (by rw [hl.out]; exact Hpk2.out) (by rw [Hrc.out]; exact hzr))
          clear hzr
          go_wp2_with fail
          refine wp_region_quiet_below (by kernel_rfl) (by kernel_rfl) ?_
          repeat (go_big_quiet_step (with_reducible exact K1.out _ _))
          refine wpQuiet_nil ?_
          intro _ hw'
          obtain ⟨⟨dq, osq⟩, hw''⟩ := hw'
          subst hw''
          obtain ⟨V, hV⟩ : ∃ V, V = Sort.grow (redrawn W dq) osq := ⟨_, rfl⟩
          have hbV : Below W.heap.size W V := hV ▸ below_regrown W dq osq
          rw [← hV]
          clear hV
          replace HW := Lib.hid (HW.out.below hbV)
          replace hrW := hrW.below hbV
          replace kbW := kbW.below hbV
          replace hFW := hFW.step hbV
          replace hsW : w.heap.size + 1 ≤ V.heap.size := Nat.le_trans hsW hbV.size
          replace hbW0 := hbW0.trans (hbV.mono hsW0)
          replace hsW0 := Nat.le_trans hsW0 hbV.size
          clear hbV ec0 ec1
          generalize V = W at *
          have ec0 := cell_regrown kbW.c0
          have ec1 := cell_regrown kbW.c1
          clear K1 ek0 ek1 ec0 ec1
          have hcA : k + 1 ≤ n := by omega
          obtain ⟨pr, hpr⟩ : ∃ pr : Option Addr, (if c = k + 1 then some (⟨g, 0, none⟩ : Addr) else some ⟨g, (k + 1) * 2, none⟩) = pr := ⟨_, rfl⟩
          have hy1 : (k : Int) + 1 ≤ (c : Int) := by omega
          have hy2 : (0 : Int) ≤ (k : Int) + 1 := by omega
          have hy3 : k + 1 ≤ c := by omega
          have hy4 : ¬ ((c : Int) < (k : Int) + 1) := by omega
          have hy5 : ¬ ((k : Int) + 1 < 0) := by omega
          have HR := Lib.hid (hpr ▸ HW.out.cls (k + 1) hcA)
          go_wp2_with (at_builtin; go_must (refine append_rats rfl _ _ rfl _ W.heap.size _ _ _ _ _ rfl (OwnV.emptyR W) _ _ _ (pcells (rows.drop (k + 1)) (ps.drop (k + 1))) rfl (Cls.below HR.out (boxed W _)) (by omega) (by simp) ?_); intro p6 c6 W6 ho6 hg6; refine Hid.out ?_)
          refine Lib.hid ?_
          have hb6 : Below W.heap.size W W6 := (boxed W _).trans (hg6.below (by simp) (fun a ha => ((OwnV.emptyR W).lt a ha).1))
          simp only [Nat.zero_add, List.nil_append] at ho6
          have HW6 := Lib.hid (HW.out.below hb6)
          have hr6 := hrW.below hb6
          have kb6 := kbW.below hb6
          have hs6 := hb6.size
          have hv7 := ((HW6.out.outer.preS hcA).drew).below (boxed W6.drew (.cells #[.slice q m d, .int .i64 b] 32))
          clear HW
          go_wp2_with fail
          refine wp_region_u 8 9 (fun w' => w'.cell? ⟨w.heap.size, 0, none⟩ = some (.slice q m d) ∧ w'.cell? ⟨w.heap.size, 1, none⟩ = some (.int .i64 b)) (by kernel_rfl) rfl (by (try dsimp only); first | exact ⟨(kb6.drew).c0, (kb6.drew).c1⟩ | exact ⟨((kb6.drew).alloc _).c0, ((kb6.drew).alloc _).c1⟩ | exact ⟨kb7.c0, kb7.c1⟩ | exact ⟨kb9.c0, kb9.c1⟩) (fun hHeld => ?_)
          first
            | (refine WalkU.take (i := 0) (v := ?_) rfl (by kernel_rfl) (by kernel_rfl) (by kernel_rfl) (by kernel_rfl) (fun _ _ _ h => h) (Or.inl ⟨by rfl, ?_⟩) hHeld ?_
               rotate_left
               · (intro w hSw; (try dsimp only at hSw); go_simp; try with_reducible rfl)
               try simp only [Act.put, List.setIfInBounds_toArray, List.set_cons_zero, List.set_cons_succ])
            | (refine WalkU.take (i := 0) (v := undef) rfl (by kernel_rfl) (by kernel_rfl) (by kernel_rfl) (by kernel_rfl) (fun _ _ _ h => h) (Or.inr ⟨by rfl, rfl⟩) hHeld ?_
               try simp only [Act.put, List.setIfInBounds_toArray, List.set_cons_zero, List.set_cons_succ])
            | (refine WalkU.one (i := 0) rfl (by kernel_rfl) (fun K hK => ?_)
               first
                 | (first | (refine step_append_rat rfl (.tmp 43) (.tmp 45) rfl _ L _ _ _ _ _ rfl hv7 _ _ _ _ _ rfl (Box2.new _ _ _ _) (by omega) (by simp; omega) ?_; intro p7 c7 W7 ho7 hg7; have kb7 := ((kb6.drew).alloc (.cells #[.slice q m d, .int .i64 b] 32)).grow hg7 (fun a ha => by injection ha with ha; subst ha; dsimp only; omega); have hR7 := Cls.ownV ((((ho6.drew).below (boxed W6.drew _)).kept hg7.by_ (blkNeS hgl (by omega : w.heap.size ≤ W.heap.size) ho6))) (pcells_one _ _); have hs7 := hg7.by_.size) | (refine step_append_rats rfl (.tmp 46) (.tmp 47) rfl _ L _ _ _ _ _ rfl ho7 _ _ _ _ rfl hR7 (by omega) (by simp at hs7; omega) ?_; intro p9 c9 W9 ho9 hg9; have kb9 := kb7.grow hg9 (fun a ha => by have h1 := grow_at hg7 ha; rcases h1 with h1 | h1; omega; (simp only [World.size_drew, World.size_alloc] at h1; omega))))
                 | (go_simp; (first | (refine step_append_rat rfl (.tmp 43) (.tmp 45) rfl _ L _ _ _ _ _ rfl hv7 _ _ _ _ _ rfl (Box2.new _ _ _ _) (by omega) (by simp; omega) ?_; intro p7 c7 W7 ho7 hg7; have kb7 := ((kb6.drew).alloc (.cells #[.slice q m d, .int .i64 b] 32)).grow hg7 (fun a ha => by injection ha with ha; subst ha; dsimp only; omega); have hR7 := Cls.ownV ((((ho6.drew).below (boxed W6.drew _)).kept hg7.by_ (blkNeS hgl (by omega : w.heap.size ≤ W.heap.size) ho6))) (pcells_one _ _); have hs7 := hg7.by_.size) | (refine step_append_rats rfl (.tmp 46) (.tmp 47) rfl _ L _ _ _ _ _ rfl ho7 _ _ _ _ rfl hR7 (by omega) (by simp at hs7; omega) ?_; intro p9 c9 W9 ho9 hg9; have kb9 := kb7.grow hg9 (fun a ha => by have h1 := grow_at hg7 ha; rcases h1 with h1 | h1; omega; (simp only [World.size_drew, World.size_alloc] at h1; omega)))))
                 | go_simp
               refine hK.out _ _ ?_ (fun hHeld => ?_)
               · ((try dsimp only); first | exact ⟨(kb6.drew).c0, (kb6.drew).c1⟩ | exact ⟨((kb6.drew).alloc _).c0, ((kb6.drew).alloc _).c1⟩ | exact ⟨kb7.c0, kb7.c1⟩ | exact ⟨kb9.c0, kb9.c1⟩)
               clear hK K
               try simp only [Act.put, List.setIfInBounds_toArray, List.set_cons_zero, List.set_cons_succ])
          first
            | (refine WalkU.take (i := 1) (v := ?_) rfl (by kernel_rfl) (by kernel_rfl) (by kernel_rfl) (by kernel_rfl) (fun _ _ _ h => h) (Or.inl ⟨by rfl, ?_⟩) hHeld ?_
               rotate_left
               · (intro w hSw; (try dsimp only at hSw); go_simp; try with_reducible rfl)
               try simp only [Act.put, List.setIfInBounds_toArray, List.set_cons_zero, List.set_cons_succ])
            | (refine WalkU.take (i := 1) (v := undef) rfl (by kernel_rfl) (by kernel_rfl) (by kernel_rfl) (by kernel_rfl) (fun _ _ _ h => h) (Or.inr ⟨by rfl, rfl⟩) hHeld ?_
               try simp only [Act.put, List.setIfInBounds_toArray, List.set_cons_zero, List.set_cons_succ])
            | (refine WalkU.one (i := 1) rfl (by kernel_rfl) (fun K hK => ?_)
               first
                 | (first | (refine step_append_rat rfl (.tmp 43) (.tmp 45) rfl _ L _ _ _ _ _ rfl hv7 _ _ _ _ _ rfl (Box2.new _ _ _ _) (by omega) (by simp; omega) ?_; intro p7 c7 W7 ho7 hg7; have kb7 := ((kb6.drew).alloc (.cells #[.slice q m d, .int .i64 b] 32)).grow hg7 (fun a ha => by injection ha with ha; subst ha; dsimp only; omega); have hR7 := Cls.ownV ((((ho6.drew).below (boxed W6.drew _)).kept hg7.by_ (blkNeS hgl (by omega : w.heap.size ≤ W.heap.size) ho6))) (pcells_one _ _); have hs7 := hg7.by_.size) | (refine step_append_rats rfl (.tmp 46) (.tmp 47) rfl _ L _ _ _ _ _ rfl ho7 _ _ _ _ rfl hR7 (by omega) (by simp at hs7; omega) ?_; intro p9 c9 W9 ho9 hg9; have kb9 := kb7.grow hg9 (fun a ha => by have h1 := grow_at hg7 ha; rcases h1 with h1 | h1; omega; (simp only [World.size_drew, World.size_alloc] at h1; omega))))
                 | (go_simp; (first | (refine step_append_rat rfl (.tmp 43) (.tmp 45) rfl _ L _ _ _ _ _ rfl hv7 _ _ _ _ _ rfl (Box2.new _ _ _ _) (by omega) (by simp; omega) ?_; intro p7 c7 W7 ho7 hg7; have kb7 := ((kb6.drew).alloc (.cells #[.slice q m d, .int .i64 b] 32)).grow hg7 (fun a ha => by injection ha with ha; subst ha; dsimp only; omega); have hR7 := Cls.ownV ((((ho6.drew).below (boxed W6.drew _)).kept hg7.by_ (blkNeS hgl (by omega : w.heap.size ≤ W.heap.size) ho6))) (pcells_one _ _); have hs7 := hg7.by_.size) | (refine step_append_rats rfl (.tmp 46) (.tmp 47) rfl _ L _ _ _ _ _ rfl ho7 _ _ _ _ rfl hR7 (by omega) (by simp at hs7; omega) ?_; intro p9 c9 W9 ho9 hg9; have kb9 := kb7.grow hg9 (fun a ha => by have h1 := grow_at hg7 ha; rcases h1 with h1 | h1; omega; (simp only [World.size_drew, World.size_alloc] at h1; omega)))))
                 | go_simp
               refine hK.out _ _ ?_ (fun hHeld => ?_)
               · ((try dsimp only); first | exact ⟨(kb6.drew).c0, (kb6.drew).c1⟩ | exact ⟨((kb6.drew).alloc _).c0, ((kb6.drew).alloc _).c1⟩ | exact ⟨kb7.c0, kb7.c1⟩ | exact ⟨kb9.c0, kb9.c1⟩)
               clear hK K
               try simp only [Act.put, List.setIfInBounds_toArray, List.set_cons_zero, List.set_cons_succ])
          first
            | (refine WalkU.take (i := 2) (v := ?_) rfl (by kernel_rfl) (by kernel_rfl) (by kernel_rfl) (by kernel_rfl) (fun _ _ _ h => h) (Or.inl ⟨by rfl, ?_⟩) hHeld ?_
               rotate_left
               · (intro w hSw; (try dsimp only at hSw); go_simp; try with_reducible rfl)
               try simp only [Act.put, List.setIfInBounds_toArray, List.set_cons_zero, List.set_cons_succ])
            | (refine WalkU.take (i := 2) (v := undef) rfl (by kernel_rfl) (by kernel_rfl) (by kernel_rfl) (by kernel_rfl) (fun _ _ _ h => h) (Or.inr ⟨by rfl, rfl⟩) hHeld ?_
               try simp only [Act.put, List.setIfInBounds_toArray, List.set_cons_zero, List.set_cons_succ])
            | (refine WalkU.one (i := 2) rfl (by kernel_rfl) (fun K hK => ?_)
               first
                 | (first | (refine step_append_rat rfl (.tmp 43) (.tmp 45) rfl _ L _ _ _ _ _ rfl hv7 _ _ _ _ _ rfl (Box2.new _ _ _ _) (by omega) (by simp; omega) ?_; intro p7 c7 W7 ho7 hg7; have kb7 := ((kb6.drew).alloc (.cells #[.slice q m d, .int .i64 b] 32)).grow hg7 (fun a ha => by injection ha with ha; subst ha; dsimp only; omega); have hR7 := Cls.ownV ((((ho6.drew).below (boxed W6.drew _)).kept hg7.by_ (blkNeS hgl (by omega : w.heap.size ≤ W.heap.size) ho6))) (pcells_one _ _); have hs7 := hg7.by_.size) | (refine step_append_rats rfl (.tmp 46) (.tmp 47) rfl _ L _ _ _ _ _ rfl ho7 _ _ _ _ rfl hR7 (by omega) (by simp at hs7; omega) ?_; intro p9 c9 W9 ho9 hg9; have kb9 := kb7.grow hg9 (fun a ha => by have h1 := grow_at hg7 ha; rcases h1 with h1 | h1; omega; (simp only [World.size_drew, World.size_alloc] at h1; omega))))
                 | (go_simp; (first | (refine step_append_rat rfl (.tmp 43) (.tmp 45) rfl _ L _ _ _ _ _ rfl hv7 _ _ _ _ _ rfl (Box2.new _ _ _ _) (by omega) (by simp; omega) ?_; intro p7 c7 W7 ho7 hg7; have kb7 := ((kb6.drew).alloc (.cells #[.slice q m d, .int .i64 b] 32)).grow hg7 (fun a ha => by injection ha with ha; subst ha; dsimp only; omega); have hR7 := Cls.ownV ((((ho6.drew).below (boxed W6.drew _)).kept hg7.by_ (blkNeS hgl (by omega : w.heap.size ≤ W.heap.size) ho6))) (pcells_one _ _); have hs7 := hg7.by_.size) | (refine step_append_rats rfl (.tmp 46) (.tmp 47) rfl _ L _ _ _ _ _ rfl ho7 _ _ _ _ rfl hR7 (by omega) (by simp at hs7; omega) ?_; intro p9 c9 W9 ho9 hg9; have kb9 := kb7.grow hg9 (fun a ha => by have h1 := grow_at hg7 ha; rcases h1 with h1 | h1; omega; (simp only [World.size_drew, World.size_alloc] at h1; omega)))))
                 | go_simp
               refine hK.out _ _ ?_ (fun hHeld => ?_)
               · ((try dsimp only); first | exact ⟨(kb6.drew).c0, (kb6.drew).c1⟩ | exact ⟨((kb6.drew).alloc _).c0, ((kb6.drew).alloc _).c1⟩ | exact ⟨kb7.c0, kb7.c1⟩ | exact ⟨kb9.c0, kb9.c1⟩)
               clear hK K
               try simp only [Act.put, List.setIfInBounds_toArray, List.set_cons_zero, List.set_cons_succ])
          first
            | (refine WalkU.take (i := 3) (v := ?_) rfl (by kernel_rfl) (by kernel_rfl) (by kernel_rfl) (by kernel_rfl) (fun _ _ _ h => h) (Or.inl ⟨by rfl, ?_⟩) hHeld ?_
               rotate_left
               · (intro w hSw; (try dsimp only at hSw); go_simp; try with_reducible rfl)
               try simp only [Act.put, List.setIfInBounds_toArray, List.set_cons_zero, List.set_cons_succ])
            | (refine WalkU.take (i := 3) (v := undef) rfl (by kernel_rfl) (by kernel_rfl) (by kernel_rfl) (by kernel_rfl) (fun _ _ _ h => h) (Or.inr ⟨by rfl, rfl⟩) hHeld ?_
               try simp only [Act.put, List.setIfInBounds_toArray, List.set_cons_zero, List.set_cons_succ])
            | (refine WalkU.one (i := 3) rfl (by kernel_rfl) (fun K hK => ?_)
               first
                 | (first | (refine step_append_rat rfl (.tmp 43) (.tmp 45) rfl _ L _ _ _ _ _ rfl hv7 _ _ _ _ _ rfl (Box2.new _ _ _ _) (by omega) (by simp; omega) ?_; intro p7 c7 W7 ho7 hg7; have kb7 := ((kb6.drew).alloc (.cells #[.slice q m d, .int .i64 b] 32)).grow hg7 (fun a ha => by injection ha with ha; subst ha; dsimp only; omega); have hR7 := Cls.ownV ((((ho6.drew).below (boxed W6.drew _)).kept hg7.by_ (blkNeS hgl (by omega : w.heap.size ≤ W.heap.size) ho6))) (pcells_one _ _); have hs7 := hg7.by_.size) | (refine step_append_rats rfl (.tmp 46) (.tmp 47) rfl _ L _ _ _ _ _ rfl ho7 _ _ _ _ rfl hR7 (by omega) (by simp at hs7; omega) ?_; intro p9 c9 W9 ho9 hg9; have kb9 := kb7.grow hg9 (fun a ha => by have h1 := grow_at hg7 ha; rcases h1 with h1 | h1; omega; (simp only [World.size_drew, World.size_alloc] at h1; omega))))
                 | (go_simp; (first | (refine step_append_rat rfl (.tmp 43) (.tmp 45) rfl _ L _ _ _ _ _ rfl hv7 _ _ _ _ _ rfl (Box2.new _ _ _ _) (by omega) (by simp; omega) ?_; intro p7 c7 W7 ho7 hg7; have kb7 := ((kb6.drew).alloc (.cells #[.slice q m d, .int .i64 b] 32)).grow hg7 (fun a ha => by injection ha with ha; subst ha; dsimp only; omega); have hR7 := Cls.ownV ((((ho6.drew).below (boxed W6.drew _)).kept hg7.by_ (blkNeS hgl (by omega : w.heap.size ≤ W.heap.size) ho6))) (pcells_one _ _); have hs7 := hg7.by_.size) | (refine step_append_rats rfl (.tmp 46) (.tmp 47) rfl _ L _ _ _ _ _ rfl ho7 _ _ _ _ rfl hR7 (by omega) (by simp at hs7; omega) ?_; intro p9 c9 W9 ho9 hg9; have kb9 := kb7.grow hg9 (fun a ha => by have h1 := grow_at hg7 ha; rcases h1 with h1 | h1; omega; (simp only [World.size_drew, World.size_alloc] at h1; omega)))))
                 | go_simp
               refine hK.out _ _ ?_ (fun hHeld => ?_)
               · ((try dsimp only); first | exact ⟨(kb6.drew).c0, (kb6.drew).c1⟩ | exact ⟨((kb6.drew).alloc _).c0, ((kb6.drew).alloc _).c1⟩ | exact ⟨kb7.c0, kb7.c1⟩ | exact ⟨kb9.c0, kb9.c1⟩)
               clear hK K
               try simp only [Act.put, List.setIfInBounds_toArray, List.set_cons_zero, List.set_cons_succ])
          first
            | (refine WalkU.take (i := 6) (v := ?_) rfl (by kernel_rfl) (by kernel_rfl) (by kernel_rfl) (by kernel_rfl) (fun _ _ _ h => h) (Or.inl ⟨by rfl, ?_⟩) hHeld ?_
               rotate_left
               · (intro w hSw; (try dsimp only at hSw); go_simp; try with_reducible rfl)
               try simp only [Act.put, List.setIfInBounds_toArray, List.set_cons_zero, List.set_cons_succ])
            | (refine WalkU.take (i := 6) (v := undef) rfl (by kernel_rfl) (by kernel_rfl) (by kernel_rfl) (by kernel_rfl) (fun _ _ _ h => h) (Or.inr ⟨by rfl, rfl⟩) hHeld ?_
               try simp only [Act.put, List.setIfInBounds_toArray, List.set_cons_zero, List.set_cons_succ])
            | (refine WalkU.one (i := 6) rfl (by kernel_rfl) (fun K hK => ?_)
               first
                 | (first | (refine step_append_rat rfl (.tmp 43) (.tmp 45) rfl _ L _ _ _ _ _ rfl hv7 _ _ _ _ _ rfl (Box2.new _ _ _ _) (by omega) (by simp; omega) ?_; intro p7 c7 W7 ho7 hg7; have kb7 := ((kb6.drew).alloc (.cells #[.slice q m d, .int .i64 b] 32)).grow hg7 (fun a ha => by injection ha with ha; subst ha; dsimp only; omega); have hR7 := Cls.ownV ((((ho6.drew).below (boxed W6.drew _)).kept hg7.by_ (blkNeS hgl (by omega : w.heap.size ≤ W.heap.size) ho6))) (pcells_one _ _); have hs7 := hg7.by_.size) | (refine step_append_rats rfl (.tmp 46) (.tmp 47) rfl _ L _ _ _ _ _ rfl ho7 _ _ _ _ rfl hR7 (by omega) (by simp at hs7; omega) ?_; intro p9 c9 W9 ho9 hg9; have kb9 := kb7.grow hg9 (fun a ha => by have h1 := grow_at hg7 ha; rcases h1 with h1 | h1; omega; (simp only [World.size_drew, World.size_alloc] at h1; omega))))
                 | (go_simp; (first | (refine step_append_rat rfl (.tmp 43) (.tmp 45) rfl _ L _ _ _ _ _ rfl hv7 _ _ _ _ _ rfl (Box2.new _ _ _ _) (by omega) (by simp; omega) ?_; intro p7 c7 W7 ho7 hg7; have kb7 := ((kb6.drew).alloc (.cells #[.slice q m d, .int .i64 b] 32)).grow hg7 (fun a ha => by injection ha with ha; subst ha; dsimp only; omega); have hR7 := Cls.ownV ((((ho6.drew).below (boxed W6.drew _)).kept hg7.by_ (blkNeS hgl (by omega : w.heap.size ≤ W.heap.size) ho6))) (pcells_one _ _); have hs7 := hg7.by_.size) | (refine step_append_rats rfl (.tmp 46) (.tmp 47) rfl _ L _ _ _ _ _ rfl ho7 _ _ _ _ rfl hR7 (by omega) (by simp at hs7; omega) ?_; intro p9 c9 W9 ho9 hg9; have kb9 := kb7.grow hg9 (fun a ha => by have h1 := grow_at hg7 ha; rcases h1 with h1 | h1; omega; (simp only [World.size_drew, World.size_alloc] at h1; omega)))))
                 | go_simp
               refine hK.out _ _ ?_ (fun hHeld => ?_)
               · ((try dsimp only); first | exact ⟨(kb6.drew).c0, (kb6.drew).c1⟩ | exact ⟨((kb6.drew).alloc _).c0, ((kb6.drew).alloc _).c1⟩ | exact ⟨kb7.c0, kb7.c1⟩ | exact ⟨kb9.c0, kb9.c1⟩)
               clear hK K
               try simp only [Act.put, List.setIfInBounds_toArray, List.set_cons_zero, List.set_cons_succ])
          first
            | (refine WalkU.take (i := 4) (v := ?_) rfl (by kernel_rfl) (by kernel_rfl) (by kernel_rfl) (by kernel_rfl) (fun _ _ _ h => h) (Or.inl ⟨by rfl, ?_⟩) hHeld ?_
               rotate_left
               · (intro w hSw; (try dsimp only at hSw); go_simp; try with_reducible rfl)
               try simp only [Act.put, List.setIfInBounds_toArray, List.set_cons_zero, List.set_cons_succ])
            | (refine WalkU.take (i := 4) (v := undef) rfl (by kernel_rfl) (by kernel_rfl) (by kernel_rfl) (by kernel_rfl) (fun _ _ _ h => h) (Or.inr ⟨by rfl, rfl⟩) hHeld ?_
               try simp only [Act.put, List.setIfInBounds_toArray, List.set_cons_zero, List.set_cons_succ])
            | (refine WalkU.one (i := 4) rfl (by kernel_rfl) (fun K hK => ?_)
               first
                 | (first | (refine step_append_rat rfl (.tmp 43) (.tmp 45) rfl _ L _ _ _ _ _ rfl hv7 _ _ _ _ _ rfl (Box2.new _ _ _ _) (by omega) (by simp; omega) ?_; intro p7 c7 W7 ho7 hg7; have kb7 := ((kb6.drew).alloc (.cells #[.slice q m d, .int .i64 b] 32)).grow hg7 (fun a ha => by injection ha with ha; subst ha; dsimp only; omega); have hR7 := Cls.ownV ((((ho6.drew).below (boxed W6.drew _)).kept hg7.by_ (blkNeS hgl (by omega : w.heap.size ≤ W.heap.size) ho6))) (pcells_one _ _); have hs7 := hg7.by_.size) | (refine step_append_rats rfl (.tmp 46) (.tmp 47) rfl _ L _ _ _ _ _ rfl ho7 _ _ _ _ rfl hR7 (by omega) (by simp at hs7; omega) ?_; intro p9 c9 W9 ho9 hg9; have kb9 := kb7.grow hg9 (fun a ha => by have h1 := grow_at hg7 ha; rcases h1 with h1 | h1; omega; (simp only [World.size_drew, World.size_alloc] at h1; omega))))
                 | (go_simp; (first | (refine step_append_rat rfl (.tmp 43) (.tmp 45) rfl _ L _ _ _ _ _ rfl hv7 _ _ _ _ _ rfl (Box2.new _ _ _ _) (by omega) (by simp; omega) ?_; intro p7 c7 W7 ho7 hg7; have kb7 := ((kb6.drew).alloc (.cells #[.slice q m d, .int .i64 b] 32)).grow hg7 (fun a ha => by injection ha with ha; subst ha; dsimp only; omega); have hR7 := Cls.ownV ((((ho6.drew).below (boxed W6.drew _)).kept hg7.by_ (blkNeS hgl (by omega : w.heap.size ≤ W.heap.size) ho6))) (pcells_one _ _); have hs7 := hg7.by_.size) | (refine step_append_rats rfl (.tmp 46) (.tmp 47) rfl _ L _ _ _ _ _ rfl ho7 _ _ _ _ rfl hR7 (by omega) (by simp at hs7; omega) ?_; intro p9 c9 W9 ho9 hg9; have kb9 := kb7.grow hg9 (fun a ha => by have h1 := grow_at hg7 ha; rcases h1 with h1 | h1; omega; (simp only [World.size_drew, World.size_alloc] at h1; omega)))))
                 | go_simp
               refine hK.out _ _ ?_ (fun hHeld => ?_)
               · ((try dsimp only); first | exact ⟨(kb6.drew).c0, (kb6.drew).c1⟩ | exact ⟨((kb6.drew).alloc _).c0, ((kb6.drew).alloc _).c1⟩ | exact ⟨kb7.c0, kb7.c1⟩ | exact ⟨kb9.c0, kb9.c1⟩)
               clear hK K
               try simp only [Act.put, List.setIfInBounds_toArray, List.set_cons_zero, List.set_cons_succ])
          first
            | (refine WalkU.take (i := 5) (v := ?_) rfl (by kernel_rfl) (by kernel_rfl) (by kernel_rfl) (by kernel_rfl) (fun _ _ _ h => h) (Or.inl ⟨by rfl, ?_⟩) hHeld ?_
               rotate_left
               · (intro w hSw; (try dsimp only at hSw); go_simp; try with_reducible rfl)
               try simp only [Act.put, List.setIfInBounds_toArray, List.set_cons_zero, List.set_cons_succ])
            | (refine WalkU.take (i := 5) (v := undef) rfl (by kernel_rfl) (by kernel_rfl) (by kernel_rfl) (by kernel_rfl) (fun _ _ _ h => h) (Or.inr ⟨by rfl, rfl⟩) hHeld ?_
               try simp only [Act.put, List.setIfInBounds_toArray, List.set_cons_zero, List.set_cons_succ])
            | (refine WalkU.one (i := 5) rfl (by kernel_rfl) (fun K hK => ?_)
               first
                 | (first | (refine step_append_rat rfl (.tmp 43) (.tmp 45) rfl _ L _ _ _ _ _ rfl hv7 _ _ _ _ _ rfl (Box2.new _ _ _ _) (by omega) (by simp; omega) ?_; intro p7 c7 W7 ho7 hg7; have kb7 := ((kb6.drew).alloc (.cells #[.slice q m d, .int .i64 b] 32)).grow hg7 (fun a ha => by injection ha with ha; subst ha; dsimp only; omega); have hR7 := Cls.ownV ((((ho6.drew).below (boxed W6.drew _)).kept hg7.by_ (blkNeS hgl (by omega : w.heap.size ≤ W.heap.size) ho6))) (pcells_one _ _); have hs7 := hg7.by_.size) | (refine step_append_rats rfl (.tmp 46) (.tmp 47) rfl _ L _ _ _ _ _ rfl ho7 _ _ _ _ rfl hR7 (by omega) (by simp at hs7; omega) ?_; intro p9 c9 W9 ho9 hg9; have kb9 := kb7.grow hg9 (fun a ha => by have h1 := grow_at hg7 ha; rcases h1 with h1 | h1; omega; (simp only [World.size_drew, World.size_alloc] at h1; omega))))
                 | (go_simp; (first | (refine step_append_rat rfl (.tmp 43) (.tmp 45) rfl _ L _ _ _ _ _ rfl hv7 _ _ _ _ _ rfl (Box2.new _ _ _ _) (by omega) (by simp; omega) ?_; intro p7 c7 W7 ho7 hg7; have kb7 := ((kb6.drew).alloc (.cells #[.slice q m d, .int .i64 b] 32)).grow hg7 (fun a ha => by injection ha with ha; subst ha; dsimp only; omega); have hR7 := Cls.ownV ((((ho6.drew).below (boxed W6.drew _)).kept hg7.by_ (blkNeS hgl (by omega : w.heap.size ≤ W.heap.size) ho6))) (pcells_one _ _); have hs7 := hg7.by_.size) | (refine step_append_rats rfl (.tmp 46) (.tmp 47) rfl _ L _ _ _ _ _ rfl ho7 _ _ _ _ rfl hR7 (by omega) (by simp at hs7; omega) ?_; intro p9 c9 W9 ho9 hg9; have kb9 := kb7.grow hg9 (fun a ha => by have h1 := grow_at hg7 ha; rcases h1 with h1 | h1; omega; (simp only [World.size_drew, World.size_alloc] at h1; omega)))))
                 | go_simp
               refine hK.out _ _ ?_ (fun hHeld => ?_)
               · ((try dsimp only); first | exact ⟨(kb6.drew).c0, (kb6.drew).c1⟩ | exact ⟨((kb6.drew).alloc _).c0, ((kb6.drew).alloc _).c1⟩ | exact ⟨kb7.c0, kb7.c1⟩ | exact ⟨kb9.c0, kb9.c1⟩)
               clear hK K
               try simp only [Act.put, List.setIfInBounds_toArray, List.set_cons_zero, List.set_cons_succ])
          first
            | (refine WalkU.take (i := 7) (v := ?_) rfl (by kernel_rfl) (by kernel_rfl) (by kernel_rfl) (by kernel_rfl) (fun _ _ _ h => h) (Or.inl ⟨by rfl, ?_⟩) hHeld ?_
               rotate_left
               · (intro w hSw; (try dsimp only at hSw); go_simp; try with_reducible rfl)
               try simp only [Act.put, List.setIfInBounds_toArray, List.set_cons_zero, List.set_cons_succ])
            | (refine WalkU.take (i := 7) (v := undef) rfl (by kernel_rfl) (by kernel_rfl) (by kernel_rfl) (by kernel_rfl) (fun _ _ _ h => h) (Or.inr ⟨by rfl, rfl⟩) hHeld ?_
               try simp only [Act.put, List.setIfInBounds_toArray, List.set_cons_zero, List.set_cons_succ])
            | (refine WalkU.one (i := 7) rfl (by kernel_rfl) (fun K hK => ?_)
               first
                 | (first | (refine step_append_rat rfl (.tmp 43) (.tmp 45) rfl _ L _ _ _ _ _ rfl hv7 _ _ _ _ _ rfl (Box2.new _ _ _ _) (by omega) (by simp; omega) ?_; intro p7 c7 W7 ho7 hg7; have kb7 := ((kb6.drew).alloc (.cells #[.slice q m d, .int .i64 b] 32)).grow hg7 (fun a ha => by injection ha with ha; subst ha; dsimp only; omega); have hR7 := Cls.ownV ((((ho6.drew).below (boxed W6.drew _)).kept hg7.by_ (blkNeS hgl (by omega : w.heap.size ≤ W.heap.size) ho6))) (pcells_one _ _); have hs7 := hg7.by_.size) | (refine step_append_rats rfl (.tmp 46) (.tmp 47) rfl _ L _ _ _ _ _ rfl ho7 _ _ _ _ rfl hR7 (by omega) (by simp at hs7; omega) ?_; intro p9 c9 W9 ho9 hg9; have kb9 := kb7.grow hg9 (fun a ha => by have h1 := grow_at hg7 ha; rcases h1 with h1 | h1; omega; (simp only [World.size_drew, World.size_alloc] at h1; omega))))
                 | (go_simp; (first | (refine step_append_rat rfl (.tmp 43) (.tmp 45) rfl _ L _ _ _ _ _ rfl hv7 _ _ _ _ _ rfl (Box2.new _ _ _ _) (by omega) (by simp; omega) ?_; intro p7 c7 W7 ho7 hg7; have kb7 := ((kb6.drew).alloc (.cells #[.slice q m d, .int .i64 b] 32)).grow hg7 (fun a ha => by injection ha with ha; subst ha; dsimp only; omega); have hR7 := Cls.ownV ((((ho6.drew).below (boxed W6.drew _)).kept hg7.by_ (blkNeS hgl (by omega : w.heap.size ≤ W.heap.size) ho6))) (pcells_one _ _); have hs7 := hg7.by_.size) | (refine step_append_rats rfl (.tmp 46) (.tmp 47) rfl _ L _ _ _ _ _ rfl ho7 _ _ _ _ rfl hR7 (by omega) (by simp at hs7; omega) ?_; intro p9 c9 W9 ho9 hg9; have kb9 := kb7.grow hg9 (fun a ha => by have h1 := grow_at hg7 ha; rcases h1 with h1 | h1; omega; (simp only [World.size_drew, World.size_alloc] at h1; omega)))))
                 | go_simp
               refine hK.out _ _ ?_ (fun hHeld => ?_)
               · ((try dsimp only); first | exact ⟨(kb6.drew).c0, (kb6.drew).c1⟩ | exact ⟨((kb6.drew).alloc _).c0, ((kb6.drew).alloc _).c1⟩ | exact ⟨kb7.c0, kb7.c1⟩ | exact ⟨kb9.c0, kb9.c1⟩)
               clear hK K
               try simp only [Act.put, List.setIfInBounds_toArray, List.set_cons_zero, List.set_cons_succ])
          first
            | (refine WalkU.last (i := 8) rfl rfl (by kernel_rfl) (by kernel_rfl) (fun K hK => ?_)
               first
                 | (first | (refine step_append_rat rfl (.tmp 43) (.tmp 45) rfl _ L _ _ _ _ _ rfl hv7 _ _ _ _ _ rfl (Box2.new _ _ _ _) (by omega) (by simp; omega) ?_; intro p7 c7 W7 ho7 hg7; have kb7 := ((kb6.drew).alloc (.cells #[.slice q m d, .int .i64 b] 32)).grow hg7 (fun a ha => by injection ha with ha; subst ha; dsimp only; omega); have hR7 := Cls.ownV ((((ho6.drew).below (boxed W6.drew _)).kept hg7.by_ (blkNeS hgl (by omega : w.heap.size ≤ W.heap.size) ho6))) (pcells_one _ _); have hs7 := hg7.by_.size) | (refine step_append_rats rfl (.tmp 46) (.tmp 47) rfl _ L _ _ _ _ _ rfl ho7 _ _ _ _ rfl hR7 (by omega) (by simp at hs7; omega) ?_; intro p9 c9 W9 ho9 hg9; have kb9 := kb7.grow hg9 (fun a ha => by have h1 := grow_at hg7 ha; rcases h1 with h1 | h1; omega; (simp only [World.size_drew, World.size_alloc] at h1; omega))))
                 | (go_simp; (first | (refine step_append_rat rfl (.tmp 43) (.tmp 45) rfl _ L _ _ _ _ _ rfl hv7 _ _ _ _ _ rfl (Box2.new _ _ _ _) (by omega) (by simp; omega) ?_; intro p7 c7 W7 ho7 hg7; have kb7 := ((kb6.drew).alloc (.cells #[.slice q m d, .int .i64 b] 32)).grow hg7 (fun a ha => by injection ha with ha; subst ha; dsimp only; omega); have hR7 := Cls.ownV ((((ho6.drew).below (boxed W6.drew _)).kept hg7.by_ (blkNeS hgl (by omega : w.heap.size ≤ W.heap.size) ho6))) (pcells_one _ _); have hs7 := hg7.by_.size) | (refine step_append_rats rfl (.tmp 46) (.tmp 47) rfl _ L _ _ _ _ _ rfl ho7 _ _ _ _ rfl hR7 (by omega) (by simp at hs7; omega) ?_; intro p9 c9 W9 ho9 hg9; have kb9 := kb7.grow hg9 (fun a ha => by have h1 := grow_at hg7 ha; rcases h1 with h1 | h1; omega; (simp only [World.size_drew, World.size_alloc] at h1; omega)))))
                 | go_simp
               refine hK.out _ _ ?_
               clear hK K
               try simp only [Act.put, List.setIfInBounds_toArray, List.set_cons_zero, List.set_cons_succ])
          go_wp2
          go_ret
          have hs9 := hg9.by_.size
          have hs7' : W6.heap.size ≤ W7.heap.size := by simp at hs7; omega
          have hne7 : ∀ {lo' hi' : Nat} {q' : Option Addr} {n' c' : Nat} {zs : List Int}, L ≤ lo' → Own W6 lo' hi' q' n' c' zs → Own W9 L W9.heap.size q' n' c' zs := fun hlo' hz => by
            have h5 := (hz.drew).below (boxed W6.drew (.cells #[.slice q m d, .int .i64 b] 32))
            have h7 := h5.kept hg7.by_ (hv7.ne h5.v ratNe)
            exact ((h7.kept hg9.by_ (ho7.ne h7.v ratNe)).up).widen hlo' (Nat.le_refl _)
          rw [pcells_put HW6.out.len (k + 1) (by have := hcnt.out; omega)] at ho9
          obtain ⟨_, rfl, ho9⟩ : ∃ N, N = n + 1 ∧ OwnV W9 32 2 L W9.heap.size p9 N c9 _ := ⟨_, by omega, ho9⟩
          have hfin := HW6.out.putV (hne7 hlm hr6) (fun r hr1 => by
            obtain ⟨j, hj, rfl⟩ := List.getElem_of_mem hr1
            exact ⟨(HW6.out.inner j hj).apart hr6 (.inl (Nat.le_refl _)), hr6.apart (HW6.out.inner j hj) (.inr (Nat.le_refl _))⟩) (k + 1) hcA (fun j hj => hne7 (Nat.le_refl _) (HW6.out.inner j hj)) ho9
          rcases ho9.form with ⟨_, h0, _⟩ | ⟨g9, rfl, _⟩
          · omega
          rw [show ps.take (k + 1) ++ [(ys, b)] ++ ps.drop (k + 1) = vPut ps (ys, b) from HN.out.symm] at hfin
          have hfN : ∀ N, N = n + 1 → OwnP 32 W9 L W9.heap.size (some ⟨g9, 0, none⟩) N c9 _ _ := fun N hN => hN.symm ▸ hfin
          exact ⟨g9, _, c9, _, rfl, hfN _ (by omega), (((hFW.step hb6).drew.alloc _).trans (Fr.grown hv7 (Nat.le_refl _) hg7.by_)).trans (Fr.grown ho7 (Nat.le_refl _) hg9.by_)⟩

end Go.Proofs.YtpfklkmmhdpphaaGreatDoor

/- VerticesOf: the contracts of spec.l6Choose and spec.VerticesOf. Conditions: sizes. Printed by vcho.py. -/
namespace Go.Proofs.YtpfklkmmhdpphaaGreatDoor
open Go.RowKit
set_option linter.unusedVariables false
set_option linter.unusedSimpArgs false

theorem wp_append_halfs {o : Oper} {a : Act} {K : Act → World → Prop} {Q : Exit → Act → World → Prop} (s x : Operand)
    (ho : o.op = .call { callee := .builtin .append, args := #[s, x], argTypes := #[24, 24] }) (W : World) (lo hi : Nat) (p : Option Addr) (n c : Nat) (vs : List Value)
    (hs : a.eval s = .slice p n c) (hown : OwnV W 47 2 lo hi p n c vs) (q : Option Addr) (m d : Nat) (ns : List Value) (hx : a.eval x = .slice q m d) (hr : Cls W q m ns)
    (hn : n + m ≤ 4398046510000) (hlo : lo ≤ W.heap.size)
    (h : ∀ p' c' W', OwnV W' 47 2 lo W'.heap.size p' (n + m) c' (vs ++ ns) → Grow W W' p p' → K (a.put o.dst (.slice p' (n + m) c')) W') :
    o.wp Tryz.prog a W K Q :=
  wp_appendV 47 24 2 32 (.agg #[.slice none 0 0, .int .i64 0]) Tryz.underlying24 Tryz.infoHalf rfl (by decide) s x ho W lo hi p n c _ hs hown _ m d ns hx hr.1
    (fun h0 => by
      obtain ⟨g, off, hq, _⟩ := hr.2.2 0 (by rw [hr.1]; omega)
      refine ⟨_, hq, fun j v hv => ?_⟩
      have hj : j < ns.length := (List.getElem?_eq_some_iff.1 hv).1
      rw [List.getElem?_eq_getElem hj] at hv
      injection hv with hv
      subst hv
      obtain ⟨g', off', hq', hc⟩ := hr.2.2 j hj
      rw [hq] at hq'
      injection hq' with hq'; injection hq' with e1 e2
      subst e1; subst e2
      rw [Addr.add_lit]; exact hc)
    hr.2.1 (by omega) (by unfold maxLen; omega) hlo
    fun p' c' W' h2 h3 => h p' c' W' h2 h3
theorem step_append_halfs {ops : Array Oper} {o : Oper} {a : Act} {K : Act → World → Prop} {E : Prop} {Q : Exit → Act → World → Prop} (hgd : o.guard = none) (s x : Operand)
    (ho : o.op = .call { callee := .builtin .append, args := #[s, x], argTypes := #[24, 24] }) (W : World) (lo hi : Nat) (p : Option Addr) (n c : Nat) (vs : List Value)
    (hs : a.eval s = .slice p n c) (hown : OwnV W 47 2 lo hi p n c vs) (q : Option Addr) (m d : Nat) (ns : List Value) (hx : a.eval x = .slice q m d) (hr : Cls W q m ns)
    (hn : n + m ≤ 4398046510000) (hlo : lo ≤ W.heap.size)
    (h : ∀ p' c' W', OwnV W' 47 2 lo W'.heap.size p' (n + m) c' (vs ++ ns) → Grow W W' p p' → K (a.put o.dst (.slice p' (n + m) c')) W') :
    if Region.wanted o (yielded ops a.tmps) = true then Oper.wp Tryz.prog o a W K Q else E := by
  have hw : Region.wanted o (yielded ops a.tmps) = true := by simp [Region.wanted, hgd]
  rw [if_pos hw]
  exact wp_append_halfs s x ho W lo hi p n c vs hs hown q m d ns hx hr hn hlo h

theorem Box2.keepF {L : Nat} {X : Nat → Prop} {w w' : World} {b : Nat} {v0 v1 : Value} {T : TypeId} (h : Box2 w b v0 v1 T) (hT : T ≠ 32) (k : Fr L X w w') (hX : ¬ X b) : Box2 w' b v0 v1 T :=
  (k.block b h.lt hX (.inr fun ⟨cs, fz, e⟩ => by
    rw [h] at e
    injection e with e
    injection e with _ e2 _
    exact hT e2)).trans h
theorem regRat : 26 ≠ 32 := by decide

theorem hasRat_red {D : Nat} {z : Int} {hs : List Pr} {p : Pr} (hz : z = (D : Int)) (h : isReg z hs = true) (hp : Red D p) : hasRat z hs p.1 p.2 = hasF hs p.1 p.2 := by
  rw [hasRat, h, hp.ok]
  simp [hp.len, hz]

def NoX : Nat → Prop := fun _ => False

set_option maxHeartbeats 8000000 in
theorem chooseLeaf (D L : Nat) (W1 : World) (z : Int) (p : Option Addr) (n c : Nat) (hs : List Pr) (hz : z = (D : Int)) (h1 : 1 ≤ D) (h3 : D ≤ 3) (hreg : isReg z hs = true) (hx : Prs W1 p n hs) (hL : W1.heap.size ≤ L)
    (a : Int) (ch : List Pr) (q : Option Addr) (c1 : Nat) (g m c2 : Nat) (rows : List Row) (ps : List Pr) (w : World) (hb : Below W1.heap.size W1 w) (hLw : L ≤ w.heap.size) (hch : Chos W1 w L q D c1 ch) (hO : Okh D ch)
    (hout : OwnP 32 w L w.heap.size (some ⟨g, 0, none⟩) m c2 rows ps) (hm : m ≤ 1000000) (hps : ∀ p ∈ ps, Red D p) :
    Calls Tryz.prog 44 #[.agg #[.int .i64 z, .slice p n c], .int .i64 a, .slice q D c1, .slice (some ⟨g, 0, none⟩) m c2] w (PutTo L NoX w ((leafV hs ch).foldl vPut ps)) := by
  have hS := Lib.hid (hO.small hch.count)
  have kr := Box2.new w (.int .i64 z) (.slice p n c) 26
  have hbw := boxed w (.cells #[.int .i64 z, .slice p n c] 26)
  have hchr := (hch.rd hb).below hbw
  have hb0 := Below.step hb hbw
  have hHO := Lib.hid (hout.below hbw)
  have HZ := Lib.hid hz
  have HP := Lib.hid hps
  have HRG := Lib.hid hreg
  have hn8 : n ≤ 8 := by
    have := hx.len
    simp only [isReg, Bool.and_eq_true, decide_eq_true_eq] at hreg
    omega
  subst hz
  clear hreg hps hch hO hout
  go_enter Tryz.func44, Tryz.ntmps44
  go_wp2_with fail
  generalize w.alloc (.cells #[.int .i64 (D : Int), .slice p n c] 26) = W0 at *
  refine (l6Solve_any D _ _ ch _ h1 h3 hchr hS.out).mono ?_
  rintro e w1 ⟨p2, n2, c3, rfl, ho2, hb2⟩
  have Hsol := Lib.hid (show solS ch = if detS (nrms ch) = 0 then (([], 0), false) else (redS (cramS ch) (detS (nrms ch)), true) from rfl)
  have Hleaf := Lib.hid (show leafV hs ch = if detS (nrms ch) = 0 then [] else if hasF hs (redS (cramS ch) (detS (nrms ch))).1 (redS (cramS ch) (detS (nrms ch))).2 = true then [redS (cramS ch) (detS (nrms ch))] else [] from rfl)
  obtain ⟨_, _, _, h4, h5⟩ := cram_same hS.out h1 h3
  have hF1 : Fr L NoX w w1 := (Fr.of_below hbw).step hb2
  by_cases h0 : detS (nrms ch) = 0
  · have Hl := Lib.hid (show leafV hs ch = [] by rw [Hleaf.out, if_pos h0])
    have e1 : solS ch = (([], 0), false) := by rw [Hsol.out, if_pos h0]
    rw [e1] at ho2 ⊢
    dsimp only at ho2 ⊢
    clear h0 e1 Hsol Hleaf h4 h5
    go_wp2_with fail
    go_ret
    rw [Hl.out]
    exact ⟨g, m, c2, rows, rfl, ((hHO.out.below hb2).below (boxed _ _)).up, hF1.alloc _⟩
  · have hred := redS_red (by rw [cramS_length, hS.out.len] : (cramS ch).length = D) h0 h4 h5
    have e1 : solS ch = (redS (cramS ch) (detS (nrms ch)), true) := by rw [Hsol.out, if_neg h0]
    have e2 : leafV hs ch = if hasF hs (redS (cramS ch) (detS (nrms ch))).1 (redS (cramS ch) (detS (nrms ch))).2 = true then [redS (cramS ch) (detS (nrms ch))] else [] := by rw [Hleaf.out, if_neg h0]
    have Hl := Lib.hid e2
    rw [e1] at ho2 ⊢
    dsimp only at ho2 ⊢
    clear h0 e1 e2 Hsol Hleaf h4 h5
    generalize redS (cramS ch) (detS (nrms ch)) = pt at *
    obtain ⟨ys, b⟩ := pt
    have Hrd := Lib.hid hred
    have hHas := hasRat_red rfl HRG.out hred
    dsimp only at ho2 hHas
    have hb4 := boxed w1 (.cells #[.slice p2 n2 c3, .int .i64 b] 32)
    have kp := Box2.new w1 (.slice p2 n2 c3) (.int .i64 b) 32
    have hbT := Below.step (Below.step hb0 hb2) hb4
    have kr4 := (kr.below hb2).below hb4
    have ho4 := ho2.below hb4
    have hH4 := Lib.hid ((hHO.out.below hb2).below hb4)
    have hF4 := hF1.step hb4
    have hn2 := ho2.small
    have kr40 := kr4.c0
    have kr41 := kr4.c1
    have kp0 := kp.c0
    have kp1 := kp.c1
    have hs2 := hb2.size
    have hsw := hbw.size
    have hx4 := hx.below hbT
    have hwb : w.heap.size ≤ w1.heap.size := by omega
    clear ho2 hred kr kp hHO hb2 hb4
    cases hf : hasF hs ys b
    · have Hl2 := Lib.hid (show leafV hs ch = [] by rw [Hl.out]; simp [hf])
      rw [hf] at hHas
      clear hf Hl
      have HH := Lib.hid hHas
      clear hHas
      go_wp2_with fail
      refine (specHasRat_any _ _ _ _ _ _ _ _ _ _ _ (by omega) hn2 hx4 ho4.ints).mono ?_
      rw [HH.out]
      rintro e w5 ⟨rfl, hb5⟩
      go_wp2_with fail
      go_ret
      rw [Hl2.out]
      exact ⟨g, m, c2, rows, rfl, (hH4.out.below hb5).up, hF4.step hb5⟩
    · have Hl2 := Lib.hid (show leafV hs ch = [(ys, b)] by rw [Hl.out]; simp [hf])
      rw [hf] at hHas
      clear hf Hl
      have HH := Lib.hid hHas
      clear hHas
      go_wp2_with fail
      refine (specHasRat_any _ _ _ _ _ _ _ _ _ _ _ (by omega) hn2 hx4 ho4.ints).mono ?_
      rw [HH.out]
      rintro e w5 ⟨rfl, hb5⟩
      have kp5 := Below.cells hb5 kp0
      have kp6 := Below.cells hb5 kp1
      have ho5 := (ho4.below hb5).up.widen (lo' := w.heap.size) (by omega) (Nat.le_refl _)
      have hs4 := hF4.size
      have hs5 := hb5.size
      go_wp2_with fail
      refine (l6Put_any D L w.heap.size _ NoX _ _ _ _ _ _ _ _ _ _ hm (hH4.out.below hb5) ho5 hLw (by omega) HP.out Hrd.out).mono ?_
      rintro e w6 ⟨g6, n6, c6, rows6, rfl, ho6, hF6⟩
      go_wp2_with fail
      go_ret
      rw [Hl2.out]
      exact ⟨g6, n6, c6, rows6, rfl, ho6, (hF4.step hb5).trans hF6⟩

end Go.Proofs.YtpfklkmmhdpphaaGreatDoor

/- VerticesOf: the contracts of spec.l6Choose and spec.VerticesOf. Conditions: sizes. -/
namespace Go.Proofs.YtpfklkmmhdpphaaGreatDoor
open Go.RowKit
set_option linter.unusedVariables false
set_option linter.unusedSimpArgs false

theorem vPut_mem {ps : List Pr} {v p : Pr} (h : p ∈ vPut ps v) : p = v ∨ p ∈ ps := by
  unfold vPut at h
  split at h
  · exact .inr h
  · simp only [vIn, List.mem_append, List.mem_singleton] at h
    rcases h with (h | h) | h
    · exact .inr (List.mem_of_mem_take h)
    · exact .inl h
    · exact .inr (List.mem_of_mem_drop h)
theorem fold_red {D : Nat} : ∀ (vs ps : List Pr), (∀ p ∈ vs, Red D p) → (∀ p ∈ ps, Red D p) → ∀ p ∈ vs.foldl vPut ps, Red D p
  | [], _, _, h => h
  | v :: vs, ps, hv, hp => fold_red vs (vPut ps v) (fun p k => hv p (by simp [k])) fun p k => by
    rcases vPut_mem k with rfl | k
    · exact hv _ (by simp)
    · exact hp p k
theorem fold_len : ∀ (vs ps : List Pr), (vs.foldl vPut ps).length ≤ ps.length + vs.length
  | [], _ => by simp
  | v :: vs, ps => by
    have h1 := fold_len vs (vPut ps v)
    have h2 := vPut_len ps v
    rw [List.foldl_cons, List.length_cons]
    omega
theorem ptsTo_len (hs : List Pr) (h : hs.length ≤ 8) (d a : Nat) (ch : List Pr) (k : Nat) : (ptsTo hs d a ch k).length ≤ (k - a) * 8 ^ d := by
  have h1 := flat_len (fun i => ptsC hs d (i + 1) (ch ++ [prAt hs i])) (8 ^ d) (List.range' a (k - a)) fun i _ => ptsC_len hs h d (i + 1) _
  rw [List.length_range'] at h1
  exact h1
theorem ptsTo_red {D : Nat} {hs : List Pr} (hO : Okh D hs) (h1 : 1 ≤ D) (h3 : D ≤ 3) {d a k : Nat} {ch : List Pr} (hc : Okh D ch) (hl : ch.length + d + 1 = D) (hk : k ≤ hs.length) : ∀ p ∈ ptsTo hs d a ch k, Red D p := fun p hp => by
  rw [ptsTo, List.mem_flatMap] at hp
  obtain ⟨i, hi, hp⟩ := hp
  rw [List.mem_range'_1] at hi
  exact ptsC_red hO h1 h3 d (i + 1) _ (hO.app hc (by omega)) (by simp; omega) p hp
theorem isReg_okh' {D : Nat} {hs : List Pr} (h : isReg (D : Int) hs = true) : Okh D hs := by
  obtain ⟨D', e, _, _, _, hO⟩ := isReg_okh h
  obtain rfl : D = D' := by omega
  exact hO

theorem Chos.ofV {W1 w2 : World} {L lo m : Nat} {ch : List Pr} {crows : List Row} {q' : Option Addr} {c' : Nat} {p2 : Option Addr} {m2 d2 : Nat} {xs : List Int} {b : Int} (hl : crows.length = ch.length)
    (hi : ∀ k (h : k < crows.length), crows[k].2.1 ≤ crows[k].2.2 ∧ crows[k].2.2 ≤ 9223372036854775807 ∧ Ints W1 crows[k].1 crows[k].2.1 (nrm ch k)) (hi2 : Ints W1 p2 m2 xs) (hm : m2 ≤ d2) (hd : d2 ≤ 9223372036854775807) (hlo : L ≤ lo)
    (hv : OwnV w2 47 2 lo w2.heap.size q' m c' (pcells crows ch ++ [.slice p2 m2 d2, .int .i64 b])) : Chos W1 w2 L q' m c' (ch ++ [(xs, b)]) := by
  refine ⟨crows ++ [(p2, m2, d2)], by simp [hl], by rw [pcells_app hl]; exact hv.widen hlo (Nat.le_refl _), fun k hk => ?_⟩
  by_cases hkl : k < crows.length
  · rw [nrm, prAt_app (by omega)]
    simp only [List.getElem_append_left hkl]
    exact hi k hkl
  · simp only [List.length_append, List.length_cons, List.length_nil] at hk
    obtain rfl : k = crows.length := by omega
    have e : nrm (ch ++ [(xs, b)]) crows.length = xs := by rw [nrm, hl, prAt_last]
    rw [e]
    simp only [List.getElem_append_right (Nat.le_refl _), Nat.sub_self, List.getElem_cons_zero]
    exact ⟨hm, hd, hi2⟩
theorem OwnV.emptyH (w : World) : OwnV (w.alloc (.cells #[] 47)) 47 2 w.heap.size (w.heap.size + 1) (some ⟨w.heap.size, 0, none⟩) 0 0 [] :=
  ⟨World.ownsRow_made w #[] 0 (Nat.le_refl _) (Nat.zero_le _) rfl, fun a ha => by injection ha with ha; subst ha; exact Nat.lt_succ_self _⟩
theorem Cls.drew {w : World} {q : Option Addr} {m : Nat} {vs : List Value} (h : Cls w q m vs) : Cls w.drew q m vs := h

set_option maxHeartbeats 16000000 in
theorem l6Choose_any (D L : Nat) (W1 : World) (z : Int) (p : Option Addr) (n c : Nat) (hs : List Pr) (hz : z = (D : Int)) (h1 : 1 ≤ D) (h3 : D ≤ 3) (hreg : isReg z hs = true) (hx : Prs W1 p n hs) (hL : W1.heap.size ≤ L) :
    ∀ (d a : Nat) (ai : Int) (ch : List Pr) (q : Option Addr) (m1 c1 : Nat) (g m c2 : Nat) (rows : List Row) (ps : List Pr) (w : World), ai = (a : Int) → ch.length + d = D → a ≤ n → ps.length + 8 ^ d ≤ 1000000 → Below W1.heap.size W1 w → L ≤ w.heap.size → Chos W1 w L q m1 c1 ch → Okh D ch →
      OwnP 32 w L w.heap.size (some ⟨g, 0, none⟩) m c2 rows ps → (∀ p ∈ ps, Red D p) →
    Calls Tryz.prog 44 #[.agg #[.int .i64 z, .slice p n c], .int .i64 ai, .slice q m1 c1, .slice (some ⟨g, 0, none⟩) m c2] w (PutTo L NoX w ((ptsC hs d a ch).foldl vPut ps)) := by
  intro d
  induction d with
  | zero =>
    intro a ai ch q m1 c1 g m c2 rows ps w hai hcl ha hlen hb hLw hch hO hout hps
    obtain rfl : m1 = D := by rw [← hch.count]; omega
    rw [ptsC_zero]
    refine chooseLeaf _ _ _ _ _ _ _ _ hz h1 h3 hreg hx hL _ _ _ _ _ _ _ _ _ _ hb hLw hch hO hout (?_) hps
    have h9 := hout.count
    have h8 := hout.len
    omega
  | succ d ih =>
    intro a ai ch q m1 c1 g m c2 rows ps w hai hcl ha hlen hb hLw hch hO hout hps
    have hn8 : n ≤ 8 := by
      have := hx.len
      simp only [isReg, Bool.and_eq_true, decide_eq_true_eq] at hreg
      omega
    have hcc := hch.count
    have hm1 : m1 < D := by omega
    subst hai
    subst hz
    have Ih := Lib.hid ih
    have Hcc := Lib.hid hcc
    have Hps := Lib.hid hps
    have HO := Lib.hid hO
    have HR := Lib.hid hreg
    have hl := Lib.hid hx.len
    have hne : ((m1 : Int) == (D : Int)) = false := by simp; omega
    have hne2 : ¬ m1 = D := by omega
    have kr := Box2.new w (.int .i64 (D : Int)) (.slice p n c) 26
    have hF0 : Fr L NoX w (w.alloc (.cells #[.int .i64 (D : Int), .slice p n c] 26)) := Fr.of_below (boxed _ _)
    have HK0 := hout.below (boxed w (.cells #[.int .i64 (D : Int), .slice p n c] 26))
    have HK1 := HK0.up
    have Hpt := Lib.hid (ptsC_succ hs d a ch)
    have hF9 : ∀ wr, Fr L NoX w wr → Fr L NoX (w.alloc (.cells #[.int .i64 (D : Int), .slice p n c] 26)) wr → Box2 wr w.heap.size (.int .i64 (D : Int)) (.slice p n c) 26 := fun wr _ h => kr.keepF regRat h (fun h => h)
    have HF9 := Lib.hid hF9
    clear ih hcc hps hreg hO HK0 hF9
    go_enter Tryz.func44, Tryz.ntmps44
    go_wp2_with fail
    generalize w.alloc (.cells #[.int .i64 (D : Int), .slice p n c] 26) = W0 at *
    go_loopw [3, 11] (fun v i wr => ∃ (k g m c : Nat) (rows : List Row), a ≤ k ∧ k ≤ n ∧ i = .int .i64 k ∧ v = .slice (some ⟨g, 0, none⟩) m c ∧ OwnP 32 wr L wr.heap.size (some ⟨g, 0, none⟩) m c rows ((ptsTo hs d a ch k).foldl vPut ps) ∧ Fr L NoX w wr ∧ Fr L NoX W0 wr) (fun _ i _ => n - (intOf i).toNat)
    case atStart => exact ⟨a, g, m, c2, rows, Nat.le_refl _, ha, rfl, rfl, by rw [ptsTo_start]; exact HK1, hF0, Fr.refl _ _ _⟩
    case round =>
      obtain ⟨k, g', m', c', rows', hak, hk, rfl, rfl, hout, hF, hFb⟩ := hrel
      have hbr : Below W1.heap.size W1 wr := hb.trans ((hF.below (fun k _ h => h) hLw).mono hL)
      have hszW : W1.heap.size ≤ wr.heap.size := hbr.size
      have hLr : L ≤ wr.heap.size := Nat.le_trans hLw hF.size
      have hchr := hch.fr hF (fun k _ h => h)
      have krr : Box2 wr w.heap.size (.int .i64 (D : Int)) (.slice p n c) 26 := HF9.out wr hF hFb
      have kr0 := krr.c0
      have kr1 := krr.c1
      by_cases hlt : k < n
      · obtain ⟨b, o, q2, m2, d2, rfl, hc1, hcb1, hmd, hdd, hi1⟩ := hx.cell k hlt
        have hc := Below.cells hbr hc1
        have hcb := Below.cells hbr hcb1
        obtain ⟨crows, hcl', hco, hci⟩ := hchr.ex
        have hcls := Cls.ownV hco (pcells_one crows ch)
        have hkl : k < hs.length := by rw [hl.out]; exact hlt
        have HOk := Lib.hid ((isReg_okh' HR.out).app HO.out hkl)
        have Hrd := Lib.hid (fold_red _ _ (ptsTo_red (isReg_okh' HR.out) h1 h3 (d := d) (a := a) (k := k) HO.out (by omega) (by omega)) Hps.out)
        have Hln : Hid (((ptsTo hs d a ch k).foldl vPut ps).length + 8 ^ d ≤ 1000000) := Lib.hid (by
          have e1 := fold_len (ptsTo hs d a ch k) ps
          have e2 := ptsTo_len hs (by rw [hl.out]; exact hn8) d a ch k
          have e3 : (k - a) * 8 ^ d + 8 ^ d ≤ 8 * 8 ^ d := by
            have := Nat.mul_le_mul_right (8 ^ d) (show k - a + 1 ≤ 8 by omega)
            rwa [Nat.add_mul, Nat.one_mul] at this
          rw [Nat.pow_succ, Nat.mul_comm (8 ^ d) 8] at hlen
          omega)
        have Hstep := Lib.hid (show (ptsTo hs d a ch (k + 1)).foldl vPut ps = (ptsC hs d (k + 1) (ch ++ [prAt hs k])).foldl vPut ((ptsTo hs d a ch k).foldl vPut ps) by rw [ptsTo_step hs d a ch hak, List.foldl_append])
        have hlen' := Lib.hid hlen
        have hms : m1 ≤ 3 := by omega
        have s1 : IntKind.i64.wrap ((k : Int) + 1) = (k : Int) + 1 := IntWalk.i64_in _ (by omega)
        clear hc1 hcb1 hlen
        change Ints W1 q2 m2 (nrm hs k) at hi1
        generalize hbk : bnd hs k = bk at *
        have HPr : Hid (∀ W q' c', Chos W1 W L q' (m1 + 1) c' (ch ++ [(nrm hs k, bk)]) → Chos W1 W L q' (m1 + 1) c' (ch ++ [prAt hs k])) := Lib.hid fun W q' c' h => by rw [← hbk] at h; exact h
        clear hbk
        have hBA := (boxed wr (.cells #[] 47))
        have hBH := (boxed wr (.cells #[.slice q2 m2 d2, .int .i64 bk] 47))
        have hBAH := boxed2 wr (.cells #[] 47) (.cells #[.slice q2 m2 d2, .int .i64 bk] 47)
        have hBHA := boxed2 wr (.cells #[.slice q2 m2 d2, .int .i64 bk] 47) (.cells #[] 47)
        have hE1 := (OwnV.emptyH wr).drew
        have hE2 := ((OwnV.emptyH wr).alloc (.cells #[.slice q2 m2 d2, .int .i64 bk] 47)).drew
        have hE3 : OwnV ((wr.alloc (.cells #[.slice q2 m2 d2, .int .i64 bk] 47)).alloc (.cells #[] 47)).drew 47 2 wr.heap.size (wr.heap.size + 1 + 1) (some ⟨wr.heap.size + 1, 0, none⟩) 0 0 [] := by
          have h := (OwnV.emptyH (wr.alloc (.cells #[.slice q2 m2 d2, .int .i64 bk] 47))).drew
          rw [World.size_alloc] at h
          exact h.widen (by omega) (Nat.le_refl _)
        have hC1 := (hcls.below hBA).drew
        have hC2 := (hcls.below hBAH).drew
        have hC3 := (hcls.below hBHA).drew
        have kH2 : Box2 ((wr.alloc (.cells #[] 47)).alloc (.cells #[.slice q2 m2 d2, .int .i64 bk] 47)).drew (wr.heap.size + 1) (.slice q2 m2 d2) (.int .i64 bk) 47 := by
          have h := Box2.new (wr.alloc (.cells #[] 47)) (.slice q2 m2 d2) (.int .i64 bk) 47
          rw [World.size_alloc] at h
          exact h
        have kH3 : Box2 ((wr.alloc (.cells #[.slice q2 m2 d2, .int .i64 bk] 47)).alloc (.cells #[] 47)).drew wr.heap.size (.slice q2 m2 d2) (.int .i64 bk) 47 := (Box2.new wr (.slice q2 m2 d2) (.int .i64 bk) 47).alloc _
        have a0a := Below.cells hBA kr0; have a1a := Below.cells hBA kr1; have a2a := Below.cells hBA hc; have a3a := Below.cells hBA hcb; have a0b := Below.cells hBH kr0; have a1b := Below.cells hBH kr1; have a2b := Below.cells hBH hc; have a3b := Below.cells hBH hcb; have a0c := Below.cells hBAH kr0; have a1c := Below.cells hBAH kr1; have a2c := Below.cells hBAH hc; have a3c := Below.cells hBAH hcb; have a0d := Below.cells hBHA kr0; have a1d := Below.cells hBHA kr1; have a2d := Below.cells hBHA hc; have a3d := Below.cells hBHA hcb
        go_wp2_with fail
        go_region_law (first | (refine step_append_halfs rfl (.tmp 43) (.tmp 44) rfl _ wr.heap.size _ _ _ _ _ rfl hE1 _ _ _ _ rfl hC1 (by omega) (by simp <;> omega) ?_; intro p5 c5 W5 ho5 hg5; simp only [Nat.zero_add, List.nil_append] at ho5; have hb5 : Below wr.heap.size wr W5 := (hBA.drew).trans (hg5.below (by simp <;> omega) (fun a ha => (hE1.lt a ha).1)); have a05 := Below.cells hb5 kr0; have a15 := Below.cells hb5 kr1; have a25 := Below.cells hb5 hc; have a35 := Below.cells hb5 hcb; have hb5h : Below wr.heap.size wr (W5.alloc (.cells #[.slice q2 m2 d2, .int .i64 bk] 47)) := hb5.alloc hb5.size _; have a05h := Below.cells hb5h kr0; have a15h := Below.cells hb5h kr1; have a25h := Below.cells hb5h hc; have a35h := Below.cells hb5h hcb; have hw5 := hb5.size) | (refine step_append_halfs rfl (.tmp 43) (.tmp 44) rfl _ wr.heap.size _ _ _ _ _ rfl hE2 _ _ _ _ rfl hC2 (by omega) (by simp <;> omega) ?_; intro p5 c5 W5 ho5 hg5; simp only [Nat.zero_add, List.nil_append] at ho5; have hb5 : Below wr.heap.size wr W5 := (hBAH.drew).trans (hg5.below (by simp <;> omega) (fun a ha => (hE2.lt a ha).1)); have a05 := Below.cells hb5 kr0; have a15 := Below.cells hb5 kr1; have a25 := Below.cells hb5 hc; have a35 := Below.cells hb5 hcb; have hb5h : Below wr.heap.size wr (W5.alloc (.cells #[.slice q2 m2 d2, .int .i64 bk] 47)) := hb5.alloc hb5.size _; have a05h := Below.cells hb5h kr0; have a15h := Below.cells hb5h kr1; have a25h := Below.cells hb5h hc; have a35h := Below.cells hb5h hcb; have kH5 := kH2.grow hg5 (fun a ha => by injection ha with ha; subst ha; dsimp only; omega); have hw5 := hb5.size) | (refine step_append_halfs rfl (.tmp 43) (.tmp 44) rfl _ wr.heap.size _ _ _ _ _ rfl hE3 _ _ _ _ rfl hC3 (by omega) (by simp <;> omega) ?_; intro p5 c5 W5 ho5 hg5; simp only [Nat.zero_add, List.nil_append] at ho5; have hb5 : Below wr.heap.size wr W5 := (hBHA.drew).trans (hg5.below (by simp <;> omega) (fun a ha => (hE3.lt a ha).1)); have a05 := Below.cells hb5 kr0; have a15 := Below.cells hb5 kr1; have a25 := Below.cells hb5 hc; have a35 := Below.cells hb5 hcb; have hb5h : Below wr.heap.size wr (W5.alloc (.cells #[.slice q2 m2 d2, .int .i64 bk] 47)) := hb5.alloc hb5.size _; have a05h := Below.cells hb5h kr0; have a15h := Below.cells hb5h kr1; have a25h := Below.cells hb5h hc; have a35h := Below.cells hb5h hcb; have kH5 := kH3.grow hg5 (fun a ha => by injection ha with ha; subst ha; dsimp only; omega); have hw5 := hb5.size) | (refine step_append_half rfl (.tmp 45) (.tmp 51) rfl _ wr.heap.size _ _ _ _ _ rfl (ho5.alloc (.cells #[.slice q2 m2 d2, .int .i64 bk] 47)) _ _ _ _ _ rfl (Box2.new W5 _ _ _) (by omega) (by simp <;> omega) ?_; intro p7 c7 W7 ho7 hg7; have hb7 : Below wr.heap.size wr W7 := (hb5.alloc hb5.size _).trans (hg7.below (by simp <;> omega) (fun a ha => (ho5.lt a ha).1)); have a07 := Below.cells hb7 kr0; have a17 := Below.cells hb7 kr1; have a27 := Below.cells hb7 hc; have a37 := Below.cells hb7 hcb; have hw7 := hb7.size; have hF7 : Fr L NoX w W7 := hF.step hb7; have hch7 := HPr.out _ _ _ (Chos.ofV hcl' hci hi1 hmd hdd (by omega : L ≤ wr.heap.size) ho7); have hout7 := (hout.below hb7).up; have hbT7 : Below W1.heap.size W1 W7 := hbr.trans (hb7.mono hszW)) | (refine step_append_half rfl (.tmp 45) (.tmp 51) rfl _ wr.heap.size _ _ _ _ _ rfl ho5 _ _ _ _ _ rfl kH5 (by omega) (by omega) ?_; intro p7 c7 W7 ho7 hg7; have hb7 : Below wr.heap.size wr W7 := hb5.trans (hg7.below (by omega) (fun a ha => (ho5.lt a ha).1)); have a07 := Below.cells hb7 kr0; have a17 := Below.cells hb7 kr1; have a27 := Below.cells hb7 hc; have a37 := Below.cells hb7 hcb; have hw7 := hb7.size; have hF7 : Fr L NoX w W7 := hF.step hb7; have hch7 := HPr.out _ _ _ (Chos.ofV hcl' hci hi1 hmd hdd (by omega : L ≤ wr.heap.size) ho7); have hout7 := (hout.below hb7).up; have hbT7 : Below W1.heap.size W1 W7 := hbr.trans (hb7.mono hszW)) | (go_simp; go_at_call 44; go_must (with_reducible refine (Ih.out (k + 1) _ (ch ++ [prAt hs k]) _ (m1 + 1) _ _ _ _ _ _ _ (by omega) (by simp <;> omega) (by omega) Hln.out hbT7 (by omega) hch7 HOk.out hout7 Hrd.out).mono ?_); rintro e w8 ⟨g8, n8, c8, rows8, rfl, ho8, hF8⟩))
        all_goals
          go_wp2_with fail
          go_roundw
          case rel => exact ⟨k + 1, g8, n8, c8, rows8, by omega, by omega, by go_num, rfl, by rw [Hstep.out]; exact ho8, hF7.trans hF8, (hFb.step hb7).trans hF8⟩
          case measure => simp [intOf]; omega
      · obtain rfl : k = n := by omega
        go_wp2_with fail
        go_ret
        rw [Hpt.out, hl.out]
        exact ⟨g', m', c', rows', rfl, hout, hF⟩

end Go.Proofs.YtpfklkmmhdpphaaGreatDoor

/- VerticesOf: the contract of spec.VerticesOf. Conditions: sizes. -/
namespace Go.Proofs.YtpfklkmmhdpphaaGreatDoor
open Go.RowKit
set_option linter.unusedVariables false
set_option linter.unusedSimpArgs false

/-- New points. -/
def NewVs (w : World) (vs : List Pr) (e : Ending) (w' : World) : Prop :=
  ∃ p n c, e = .returned (.slice p n c) ∧ OwnPM 32 w' w.heap.size w'.heap.size p n c vs ∧ Below w.heap.size w w'

set_option maxHeartbeats 2000000 in
theorem specVertices_any (z : Int) (p : Option Addr) (n c : Nat) (hs : List Pr) (w : World) (hn : n ≤ 9223372036854775807) (hx : Prs w p n hs) :
    Calls Tryz.prog 11 #[.agg #[.int .i64 z, .slice p n c]] w (NewVs w (vtxV z hs)) := by
  have kr := Box2.new w (.int .i64 z) (.slice p n c) 26
  have hbw := boxed w (.cells #[.int .i64 z, .slice p n c] 26)
  have hx0 := hx.below hbw
  have kr0 := kr.c0
  have kr1 := kr.c1
  cases hr : isReg z hs
  · have HV := Lib.hid (show vtxV z hs = [] by simp [vtxV, hr])
    go_enter Tryz.func11, Tryz.ntmps11
    go_wp2_with fail
    refine (specIsRegion_any _ _ _ _ _ _ hn hx0).mono ?_
    rw [hr]
    rintro e w1 ⟨rfl, hb1⟩
    have hb2 := Below.step hbw hb1
    go_wp2_with fail
    go_ret
    rw [HV.out]
    exact ⟨_, _, _, rfl, ⟨[], ((OwnP.empty 32 w1).widen hb2.size (Nat.le_refl _)).up⟩, Below.step hb2 (boxed _ _)⟩
  · obtain ⟨D, rfl, h1, h3, h8, hO⟩ := isReg_okh hr
    have HV := Lib.hid (show vtxV (D : Int) hs = (ptsC hs D 0 []).foldl vPut [] by simp [vtxV, hr])
    have HR := Lib.hid hr
    have H8 : 8 ^ D ≤ 512 := by
      have : D = 1 ∨ D = 2 ∨ D = 3 := by omega
      rcases this with rfl | rfl | rfl <;> decide
    have H8 := Lib.hid H8
    go_enter Tryz.func11, Tryz.ntmps11
    go_wp2_with fail
    refine (specIsRegion_any _ _ _ _ _ _ hn hx0).mono ?_
    rw [hr]
    rintro e w1 ⟨rfl, hb1⟩
    have hb2 := Below.step hbw hb1
    have kr2 := (kr.below hb1)
    have kr20 := kr2.c0
    have kr21 := kr2.c1
    have hs2 := hb2.size
    have hch := (Chos.empty w w1 w.heap.size hs2).fr (Fr.of_below (L := w.heap.size) (X := NoX) (boxed _ (.cells #[] 32))) (fun _ _ h => h)
    have hout0 := OwnP.empty 32 (w1.alloc (.cells #[] 47))
    rw [World.size_alloc] at hout0
    have hout := (hout0.widen (lo' := w.heap.size) (by omega) (Nat.le_refl _)).up
    have hb4 : Below w.heap.size w ((w1.alloc (.cells #[] 47)).alloc (.cells #[] 32)) := (hb2.alloc hs2 _).alloc (by simp; omega) _
    have hs4 := hb4.size
    have Hch := Lib.hid hch
    have Hout := Lib.hid hout
    clear hr hch hout hout0
    go_wp2_with fail
    refine (l6Choose_any D w.heap.size w _ _ _ _ _ rfl h1 h3 HR.out hx (Nat.le_refl _) D 0 _ [] _ _ _ _ _ _ _ [] _ (by simp) (by simp) (Nat.zero_le _) (by have := H8.out; simp; omega) hb4 hs4 Hch.out (fun _ h => absurd h (by simp)) Hout.out (fun _ h => absurd h (by simp))).mono ?_
    rintro e w5 ⟨g5, n5, c5, rows5, rfl, ho5, hF5⟩
    go_wp2_with fail
    go_ret
    rw [HV.out]
    exact ⟨_, _, _, rfl, ⟨_, ho5⟩, hb4.trans (hF5.below (fun _ _ h => h) hs4)⟩

end Go.Proofs.YtpfklkmmhdpphaaGreatDoor

/- VerticesOf: the leaves of the program's search. Conditions: sizes. -/
namespace Go.Proofs.YtpfklkmmhdpphaaGreatDoor
open Go.RowKit
set_option linter.unusedVariables false
set_option linter.unusedSimpArgs false

def XO (O : Nat) : Nat → Prop := fun k => k = O
theorem Fr.belowB {L B : Nat} {X : Nat → Prop} {w w' : World} (h : Fr L X w w') (hX : ∀ k, k < B → ¬ X k) (hB : B ≤ L) (hw : B ≤ w.heap.size) : Below B w w' :=
  ⟨h.os, h.tape, h.output, h.size, fun k hk => h.block k (by omega) (hX k hk) (.inl (by omega))⟩
theorem Fr.cellX {L : Nat} {X : Nat → Prop} {w w' : World} (h : Fr L X w w') {b i : Nat} {v : Value} (hX : ¬ X b) (hb : b < L) (hc : w.cell? ⟨b, i, none⟩ = some v) : w'.cell? ⟨b, i, none⟩ = some v :=
  (World.cell?_of_block (h.block b (World.block_lt_of_cell? w _ hc) hX (.inl hb))).trans hc

/-- What the leaf says, as the program reckons it. -/
theorem leaf_prog {D : Nat} {hs ch : List Pr} (hc : Small D ch) (h1 : 1 ≤ D) (h3 : D ≤ 3) :
    (detF D (nrms ch) = 0 → leafV hs ch = []) ∧ (detF D (nrms ch) ≠ 0 → leafV hs ch = if hasF hs (redF (cramF D ch) (detF D (nrms ch))).1 (redF (cramF D ch) (detF D (nrms ch))).2 = true then [redF (cramF D ch) (detF D (nrms ch))] else []) := by
  obtain ⟨_, e1, e2, _, e4⟩ := cram_same hc h1 h3
  have e5 : redF (cramF D ch) (detF D (nrms ch)) = redS (cramS ch) (detS (nrms ch)) := by rw [e1, e2, red_same e4]
  refine ⟨fun h => ?_, fun h => ?_⟩
  · rw [e1] at h
    rw [leafV, if_pos h]
  · rw [e5]
    rw [e1] at h
    rw [leafV, if_neg h]

theorem cramF_nth {D : Nat} {ch : List Pr} {k : Nat} (h : k < D) : nth (cramF D ch) k = dotW (nthR (adjW (nrms ch) D) k) (bnds ch) := by
  rw [nth_eq (by rw [cramF_length]; exact h), nthR_eq (by rw [adjW_length]; exact h)]; simp [cramF]
theorem bnds_nth {ch : List Pr} {k : Nat} (h : k < ch.length) : nth (bnds ch) k = bnd ch k := by
  rw [nth_eq (by rw [bnds_length]; exact h), bnd, prAt_eq h]; simp [bnds]

/-- The search's variable out, and the points that it holds. -/
structure OutIs (O L : Nat) (w : World) (q : Option Addr) (m c : Nat) (rows : List Row) (ps : List Pr) : Prop where
  cell : w.cell? ⟨O, 0, none⟩ = some (.slice q m c)
  fr : w.frozen? ⟨O, 0, none⟩ = false
  own : OwnP 32 w L w.heap.size q m c rows ps
theorem OutIs.below {O L : Nat} {w w' : World} {q : Option Addr} {m c : Nat} {rows : List Row} {ps : List Pr} (h : OutIs O L w q m c rows ps) (hb : Below w.heap.size w w') : OutIs O L w' q m c rows ps :=
  ⟨Below.cells hb h.cell, (hb.frozen (World.block_lt_of_cell? w _ h.cell)).trans h.fr, (h.own.below hb).up⟩
/-- What the search leaves. -/
def Picked (O L : Nat) (w : World) (ps : List Pr) (e : Ending) (w' : World) : Prop :=
  e = .returned (.tuple #[]) ∧ (∃ q m c rows, OutIs O L w' q m c rows ps) ∧ Fr L (XO O) w w'

/-- The cells of the search: the region's box R, out's O, the function's own K. -/
structure Cells (W1 w : World) (R O K L : Nat) (D : Nat) (p : Option Addr) (n c : Nat) (hs : List Pr) : Prop where
  base : Below W1.heap.size W1 w
  box : Box2 W1 R (.int .i64 (D : Int)) (.slice p n c) 26
  rd : Prs W1 p n hs
  lO : W1.heap.size ≤ O
  lK : O < K
  lL : K < L
  lw : L ≤ w.heap.size
  fn : w.cell? ⟨K, 0, none⟩ = some (.func (.func 26) #[] #[.pointer (some ⟨R, 0, none⟩), .pointer (some ⟨O, 0, none⟩), .pointer (some ⟨K, 0, none⟩)])
theorem Cells.fr {W1 w w' : World} {R O K L D : Nat} {p : Option Addr} {n c : Nat} {hs : List Pr} (h : Cells W1 w R O K L D p n c hs) (k : Fr L (XO O) w w') : Cells W1 w' R O K L D p n c hs := by
  have h1 := h.lO; have h2 := h.lK; have h3 := h.lL; have h4 := h.lw; have h5 := h.base.size
  refine ⟨h.base.trans (k.belowB (fun j hj hX => by unfold XO at hX; omega) (by omega) h5), h.box, h.rd, h1, h2, h3, Nat.le_trans h4 k.size, k.cellX (by unfold XO; omega) h3 h.fn⟩
theorem Cells.below {W1 w w' : World} {R O K L D : Nat} {p : Option Addr} {n c : Nat} {hs : List Pr} (h : Cells W1 w R O K L D p n c hs) (k : Below w.heap.size w w') : Cells W1 w' R O K L D p n c hs := h.fr (Fr.of_below k)

theorem adjugate_D (D : Nat) (p : Option Addr) (c : Nat) (xss : List (List Int)) (w : World) (h1 : 1 ≤ D) (h3 : D ≤ 3) (hx : Intss w p D xss) (hs : Sq D xss) : Calls Tryz.prog 28 #[.slice p D c] w (NewM w D (adjW xss D)) := by
  obtain ⟨N, rfl⟩ : ∃ N, D = N + 1 := ⟨D - 1, by omega⟩
  exact adjugate_any p N c xss w (by omega) hx hs
theorem Within.lowB {w w1 w2 : World} {lo hi B : Nat} (h : Within lo hi w w1) (k : Below B w1 w2) (hB : w.heap.size ≤ B) : Within lo hi w w2 :=
  ⟨k.os.trans h.os, k.tape.trans h.tape, k.output.trans h.output, Nat.le_trans h.size k.size, fun j hj hd => (k.block j (by omega)).trans (h.block j hj hd)⟩
/-- The point that is built, at the head of the loop. -/
structure RedW (b : Nat) (W4 wr : World) (d : Int) (p' : Option Addr) (k c' : Nat) (xs : List Int) : Prop where
  out : Box2 wr b (.slice p' k c') (.int .i64 d) 32
  own : Own wr W4.heap.size wr.heap.size p' k c' xs
  low : Within b (b + 1) W4 wr

set_option maxHeartbeats 8000000 in
theorem pickLeaf (W1 : World) (R O K L D : Nat) (p : Option Addr) (n c : Nat) (hs : List Pr) (h1 : 1 ≤ D) (h3 : D ≤ 3) (hO : Okh D hs) (h8 : hs.length ≤ 8)
    (a : Int) (ch : List Pr) (q : Option Addr) (c1 : Nat) (q2 : Option Addr) (m c2 : Nat) (rows : List Row) (ps : List Pr) (w : World) (hC : Cells W1 w R O K L D p n c hs) (hch : Chos W1 w L q D c1 ch) (hOc : Okh D ch) (hout : OutIs O L w q2 m c2 rows ps) (hm : m ≤ 1000000) :
    Calls Tryz.prog 26 #[.int .i64 a, .slice q D c1, .pointer (some ⟨R, 0, none⟩), .pointer (some ⟨O, 0, none⟩), .pointer (some ⟨K, 0, none⟩)] w (Picked O L w (ps ++ leafV hs ch)) := by
  have hS := Lib.hid (hOc.small hch.count)
  have hl := Lib.hid hch.count
  have kr := hC.box.below hC.base
  have kr0 := kr.c0
  have hx := hch.rd hC.base
  obtain ⟨hr, hrl, hrows⟩ := hx.rowsX
  have HR := Lib.hid hrows
  have hrl := Lib.hid hrl
  have Hleaf := Lib.hid (leaf_prog (hs := hs) hS.out h1 h3)
  clear hrows
  go_enter Tryz.func26, Tryz.ntmps26
  go_wp2_with fail
  go_loopw [7, 8, 23] (fun v u i wr => ∃ (k : Nat) (p7 : Option Addr) (c7 : Nat) (p8 : Option Addr) (c8 : Nat), k ≤ D ∧ i = .int .i64 k ∧ v = .slice p7 k c7 ∧ u = .slice p8 k c8 ∧ OwnV wr 30 1 w.heap.size wr.heap.size p7 k c7 ((hr.take k).map Row.val) ∧ Own wr w.heap.size wr.heap.size p8 k c8 ((bnds ch).take k) ∧ Below w.heap.size w wr) (fun _ _ i _ => D - (intOf i).toNat)
  case atStart => exact ⟨0, _, _, _, _, Nat.zero_le _, rfl, rfl, rfl, by rw [List.take_zero]; exact OwnV.nil _ _ _ _ _, by rw [List.take_zero]; exact Own.nil _ _ _, Below.refl _ _⟩
  case round =>
    obtain ⟨k, p7, c7, p8, c8, hk, rfl, rfl, rfl, ho7, ho8, hb⟩ := hrel
    by_cases hlt : k < D
    · obtain ⟨b, o, rfl, hc, hcb, hm1, hm2, hi⟩ := HR.out k (by rw [hrl.out]; exact hlt)
      have hc := Below.cells hb hc
      have hcb := Below.cells hb hcb
      have htk : Hid ((hr.take (k + 1)).map Row.val = (hr.take k).map Row.val ++ [Row.val (hr[k]'(by rw [hrl.out]; exact hlt))]) := by
        show _ = _
        rw [List.take_succ_eq_append_getElem (by rw [hrl.out]; exact hlt), List.map_append]; rfl
      have hbk := Lib.hid (show (bnds ch).take (k + 1) = (bnds ch).take k ++ [bnd ch k] by rw [take_nth (by rw [bnds_length, hl.out]; exact hlt), bnds_nth (by rw [hl.out]; exact hlt)])
      generalize hr[k]'(by rw [hrl.out]; exact hlt) = r at *
      obtain ⟨qq, mm, dd⟩ := r
      change wr.cell? _ = some (.slice qq mm dd) at hc
      clear hi hm1 hm2
      generalize bnd ch k = bk at *
      have kh := Box2.new wr (.slice qq mm dd) (.int .i64 bk) 47
      have kh0 := kh.c0
      have kh1 := kh.c1
      have hbh := Below.step hb (boxed wr (.cells #[.slice qq mm dd, .int .i64 bk] 47))
      have ho7h := ho7.alloc (.cells #[.slice qq mm dd, .int .i64 bk] 47)
      have ho8h := ho8.alloc (.cells #[.slice qq mm dd, .int .i64 bk] 47)
      have hzh := hbh.size
      go_upto_region 6 with fail
      generalize wr.alloc (.cells #[.slice qq mm dd, .int .i64 bk] 47) = W2 at *
      have hbx := boxed W2 (.cells #[.slice qq mm dd] 30)
      have ho8x := ho8h.alloc (.cells #[.slice qq mm dd] 30)
      have ho7x := ho7h.alloc (.cells #[.slice qq mm dd] 30)
      have khx := kh.alloc (.cells #[.slice qq mm dd] 30)
      have hwl := hb.size
      go_wp2_with (first | (at_builtin; refine append_row rfl _ _ rfl _ w.heap.size _ _ _ _ _ rfl ho7x _ _ _ _ rfl (cellNew _ _ _) (by omega) (sizeNew hbh _) ?_; intro p9 c9 W9 ho9 hg9; have ho8y := (ho8x.kept hg9.by_ (ho7x.ne ho8x.v (by decide))).up; have kh9 := khx.grow hg9 (fun a ha => by have := (ho7h.lt a ha).2.1; omega); have kh91 := kh9.c1; have hb9 : Below w.heap.size w W9 := (hbh.alloc hzh _).trans (hg9.below (sizeNew hbh _) (fun a ha => (ho7x.lt a ha).1)); have hz9 := hb9.size) | (at_builtin; refine append_int rfl _ _ rfl _ w.heap.size _ _ _ _ _ rfl (ho8y.alloc _) W9.heap.size _ rfl (cellNew _ _ _) (by omega) (sizeNew hb9 _) ?_; intro p10 c10 W10 ho10 hg10))
      have ho9y := ((ho9.alloc (.cells #[.int .i64 bk] 3)).kept hg10.by_ ((ho8y.alloc (.cells #[.int .i64 bk] 3)).v.ne (ho9.alloc (.cells #[.int .i64 bk] 3)) (by decide))).up
      go_roundw
      case rel =>
        refine ⟨k + 1, _, _, _, _, by omega, by go_num, rfl, rfl, by rw [htk.out]; exact ho9y, by rw [hbk.out]; exact ho10, (hb9.alloc hz9 _).trans (hg10.below (sizeNew hb9 _) (fun a ha => (ho8y.lt a ha).1))⟩
      case measure => simp [intOf]; omega
    · obtain rfl : k = D := by omega
      rw [List.take_of_length_le (by rw [hrl.out]; exact Nat.le_refl _)] at ho7
      rw [List.take_of_length_le (by rw [bnds_length, hl.out]; exact Nat.le_refl _)] at ho8
      have hM := hdrs_intss ho7 hl.out hb (fun k hk => by
        obtain ⟨_, _, _, _, _, h4, h5, h6⟩ := HR.out k hk
        exact ⟨h4, h5, h6⟩)
      clear ho7
      go_wp2_with fail
      refine (det_any k _ _ _ _ _ h3 hM (nrms_sq hS.out)).mono ?_
      rintro e w2 ⟨rfl, hb2⟩
      have hM2 := hM.below hb2
      have ho82 := (ho8.below hb2).up
      have hbT := Below.step hb hb2
      obtain ⟨_, e1, e2, e3, e4⟩ := cram_same hS.out h1 h3
      rw [← e1] at e3
      rw [← e2] at e4
      have H4 := Lib.hid e4
      clear e1 e2 e4 hM hb2 hb hx kr kr0
      generalize detF k (nrms ch) = d at *
      by_cases hd0 : d = 0
      · have hd1 : (d == 0) = true := by simpa using hd0
        have Hl := Lib.hid (Hleaf.out.1 hd0)
        clear hd0
        go_wp2_with fail
        go_end0
        rw [Hl.out, List.append_nil]
        exact ⟨rfl, ⟨_, _, _, _, hout.below hbT⟩, Fr.of_below hbT⟩
      · have hd1 : (d == 0) = false := by simpa using hd0
        have Hl := Lib.hid (Hleaf.out.2 hd0)
        have hd0' := Lib.hid hd0
        clear hd0 Hleaf
        go_wp2_with fail
        have kp := Box2.new w2 (.slice none 0 0) (.int .i64 d) 32
        have hbP := boxed w2 (.cells #[.slice none 0 0, .int .i64 d] 32)
        have hM3 := hM2.below hbP
        have hzP : (w2.alloc (.cells #[.slice none 0 0, .int .i64 d] 32)).heap.size = w2.heap.size + 1 := by simp
        have HzP := Lib.hid hzP
        clear hzP
        generalize w2.alloc (.cells #[.slice none 0 0, .int .i64 d] 32) = W3 at *
        refine (adjugate_D _ _ _ _ _ h1 h3 hM3 (nrms_sq hS.out)).mono ?_
        rintro e w4 ⟨pA, cA, rfl, hA, hb4⟩
        have kp4 := kp.below hb4
        have ho84 := (ho82.below hbP).below hb4
        have hw2 := hbT.size
        have hw24 : w2.heap.size + 1 ≤ w4.heap.size := by have := hb4.size; rw [HzP.out] at this; exact this
        have hAlo : w2.heap.size + 1 ≤ W3.heap.size := by rw [HzP.out]; exact Nat.le_refl _
        have hcl := Lib.hid (cramF_length k ch)
        have hbT4 := Below.step (Below.step hbT hbP) hb4
        have hrow : Hid (∀ t, t < k → (nthR (adjW (nrms ch) k) t).length = k) := Lib.hid fun t ht => by rw [adjW_nth ht, adjRow_length]
        clear hM2 ho82 hM3 kp
        go_wp2_with fail
        go_loopw [47] (fun i wr => ∃ (t : Nat) (p' : Option Addr) (c' : Nat), t ≤ k ∧ i = .int .i64 t ∧ RedW w2.heap.size w4 wr d p' t c' ((cramF k ch).take t)) (fun i _ => k - (intOf i).toNat)
        case atStart => exact ⟨0, _, _, Nat.zero_le _, rfl, kp4, by rw [List.take_zero]; exact Own.nil _ _ _, Within.refl _ _ _⟩
        case round =>
          obtain ⟨t, p', c', ht, rfl, hRW⟩ := hrel
          have ko := hRW.out
          have hown := hRW.own
          have hs4 := hRW.low.size
          by_cases hlt2 : t < k
          · obtain ⟨b, o, qa, ma, da, rfl, hca, _, _, hia⟩ := ((hA.within hRW.low (.inr hAlo)).rd).cellc t hlt2
            obtain rfl : k = ma := by rw [← hia.len]; exact (hrow.out t hlt2).symm
            have hib := (ho84.within hRW.low (.inl (Nat.le_refl _))).ints
            have HD : Hid (∀ V, Below wr.heap.size wr V → Calls Tryz.prog 29 #[.slice qa k da, .slice p8 k c8] V (Ret (.int .i64 (nth (cramF k ch) t)) V)) := Lib.hid fun V hV => by
              rw [cramF_nth hlt2]
              exact ret_of_drew (dot_any _ _ _ _ _ _ _ _ (by omega) (hia.below hV) (hib.below hV))
            have Htk := Lib.hid (take_nth (xs := cramF k ch) (k := t) (by rw [hcl.out]; exact hlt2))
            generalize nth (cramF k ch) t = u at *
            have koc := ko.drew.c0
            clear hia hib
            go_wp2_with fail
            refine wp_region_u 8 9 (fun w' => w'.cell? ⟨w2.heap.size, 0, none⟩ = some (.slice p' t c')) (by kernel_rfl) rfl (by (try dsimp only); first | exact koc | exact ko5.c0 | exact (ko5.alloc _).c0 | exact ko6.c0) (fun hHeld => ?_)
            first
              | (refine WalkU.take (i := 0) (v := ?_) rfl (by kernel_rfl) (by kernel_rfl) (by kernel_rfl) (by kernel_rfl) (fun _ _ _ h => h) (Or.inl ⟨by rfl, ?_⟩) hHeld ?_
                 rotate_left
                 · (intro w hSw; (try dsimp only at hSw); go_simp; try with_reducible rfl)
                 try simp only [Act.put, List.setIfInBounds_toArray, List.set_cons_zero, List.set_cons_succ])
              | (refine WalkU.take (i := 0) (v := undef) rfl (by kernel_rfl) (by kernel_rfl) (by kernel_rfl) (by kernel_rfl) (fun _ _ _ h => h) (Or.inr ⟨by rfl, rfl⟩) hHeld ?_
                 try simp only [Act.put, List.setIfInBounds_toArray, List.set_cons_zero, List.set_cons_succ])
              | (refine WalkU.one (i := 0) rfl (by kernel_rfl) (fun K hK => ?_)
                 first
                   | (first | (go_at_call 29; (with_reducible refine (HD.out _ (drewBelow _)).mono ?_); rintro e w5 ⟨rfl, hb5⟩; have ko5 := ko.drew.below hb5; have own5 := hown.drew.below hb5; have hs5 := hb5.size) | (refine step_append_int rfl (.tmp 52) (.tmp 56) rfl _ w4.heap.size _ _ _ _ _ rfl (own5.alloc _) w5.heap.size _ rfl (cellNew _ _ _) (by omega) (by simp at hs5 ⊢; omega) ?_; intro p6 c6 w6 ho6 hg6; have ko6 := (ko5.alloc _).grow hg6 (fun a ha => by have := (own5.lt a ha).1; omega); have kof := ko6.fr 0; have koc6 := ko6.c0))
                   | (go_simp; (first | (go_at_call 29; (with_reducible refine (HD.out _ (drewBelow _)).mono ?_); rintro e w5 ⟨rfl, hb5⟩; have ko5 := ko.drew.below hb5; have own5 := hown.drew.below hb5; have hs5 := hb5.size) | (refine step_append_int rfl (.tmp 52) (.tmp 56) rfl _ w4.heap.size _ _ _ _ _ rfl (own5.alloc _) w5.heap.size _ rfl (cellNew _ _ _) (by omega) (by simp at hs5 ⊢; omega) ?_; intro p6 c6 w6 ho6 hg6; have ko6 := (ko5.alloc _).grow hg6 (fun a ha => by have := (own5.lt a ha).1; omega); have kof := ko6.fr 0; have koc6 := ko6.c0)))
                   | go_simp
                 refine hK.out _ _ ?_ (fun hHeld => ?_)
                 · ((try dsimp only); first | exact koc | exact ko5.c0 | exact (ko5.alloc _).c0 | exact ko6.c0)
                 clear hK K
                 try simp only [Act.put, List.setIfInBounds_toArray, List.set_cons_zero, List.set_cons_succ])
            first
              | (refine WalkU.take (i := 1) (v := ?_) rfl (by kernel_rfl) (by kernel_rfl) (by kernel_rfl) (by kernel_rfl) (fun _ _ _ h => h) (Or.inl ⟨by rfl, ?_⟩) hHeld ?_
                 rotate_left
                 · (intro w hSw; (try dsimp only at hSw); go_simp; try with_reducible rfl)
                 try simp only [Act.put, List.setIfInBounds_toArray, List.set_cons_zero, List.set_cons_succ])
              | (refine WalkU.take (i := 1) (v := undef) rfl (by kernel_rfl) (by kernel_rfl) (by kernel_rfl) (by kernel_rfl) (fun _ _ _ h => h) (Or.inr ⟨by rfl, rfl⟩) hHeld ?_
                 try simp only [Act.put, List.setIfInBounds_toArray, List.set_cons_zero, List.set_cons_succ])
              | (refine WalkU.one (i := 1) rfl (by kernel_rfl) (fun K hK => ?_)
                 first
                   | (first | (go_at_call 29; (with_reducible refine (HD.out _ (drewBelow _)).mono ?_); rintro e w5 ⟨rfl, hb5⟩; have ko5 := ko.drew.below hb5; have own5 := hown.drew.below hb5; have hs5 := hb5.size) | (refine step_append_int rfl (.tmp 52) (.tmp 56) rfl _ w4.heap.size _ _ _ _ _ rfl (own5.alloc _) w5.heap.size _ rfl (cellNew _ _ _) (by omega) (by simp at hs5 ⊢; omega) ?_; intro p6 c6 w6 ho6 hg6; have ko6 := (ko5.alloc _).grow hg6 (fun a ha => by have := (own5.lt a ha).1; omega); have kof := ko6.fr 0; have koc6 := ko6.c0))
                   | (go_simp; (first | (go_at_call 29; (with_reducible refine (HD.out _ (drewBelow _)).mono ?_); rintro e w5 ⟨rfl, hb5⟩; have ko5 := ko.drew.below hb5; have own5 := hown.drew.below hb5; have hs5 := hb5.size) | (refine step_append_int rfl (.tmp 52) (.tmp 56) rfl _ w4.heap.size _ _ _ _ _ rfl (own5.alloc _) w5.heap.size _ rfl (cellNew _ _ _) (by omega) (by simp at hs5 ⊢; omega) ?_; intro p6 c6 w6 ho6 hg6; have ko6 := (ko5.alloc _).grow hg6 (fun a ha => by have := (own5.lt a ha).1; omega); have kof := ko6.fr 0; have koc6 := ko6.c0)))
                   | go_simp
                 refine hK.out _ _ ?_ (fun hHeld => ?_)
                 · ((try dsimp only); first | exact koc | exact ko5.c0 | exact (ko5.alloc _).c0 | exact ko6.c0)
                 clear hK K
                 try simp only [Act.put, List.setIfInBounds_toArray, List.set_cons_zero, List.set_cons_succ])
            first
              | (refine WalkU.take (i := 2) (v := ?_) rfl (by kernel_rfl) (by kernel_rfl) (by kernel_rfl) (by kernel_rfl) (fun _ _ _ h => h) (Or.inl ⟨by rfl, ?_⟩) hHeld ?_
                 rotate_left
                 · (intro w hSw; (try dsimp only at hSw); go_simp; try with_reducible rfl)
                 try simp only [Act.put, List.setIfInBounds_toArray, List.set_cons_zero, List.set_cons_succ])
              | (refine WalkU.take (i := 2) (v := undef) rfl (by kernel_rfl) (by kernel_rfl) (by kernel_rfl) (by kernel_rfl) (fun _ _ _ h => h) (Or.inr ⟨by rfl, rfl⟩) hHeld ?_
                 try simp only [Act.put, List.setIfInBounds_toArray, List.set_cons_zero, List.set_cons_succ])
              | (refine WalkU.one (i := 2) rfl (by kernel_rfl) (fun K hK => ?_)
                 first
                   | (first | (go_at_call 29; (with_reducible refine (HD.out _ (drewBelow _)).mono ?_); rintro e w5 ⟨rfl, hb5⟩; have ko5 := ko.drew.below hb5; have own5 := hown.drew.below hb5; have hs5 := hb5.size) | (refine step_append_int rfl (.tmp 52) (.tmp 56) rfl _ w4.heap.size _ _ _ _ _ rfl (own5.alloc _) w5.heap.size _ rfl (cellNew _ _ _) (by omega) (by simp at hs5 ⊢; omega) ?_; intro p6 c6 w6 ho6 hg6; have ko6 := (ko5.alloc _).grow hg6 (fun a ha => by have := (own5.lt a ha).1; omega); have kof := ko6.fr 0; have koc6 := ko6.c0))
                   | (go_simp; (first | (go_at_call 29; (with_reducible refine (HD.out _ (drewBelow _)).mono ?_); rintro e w5 ⟨rfl, hb5⟩; have ko5 := ko.drew.below hb5; have own5 := hown.drew.below hb5; have hs5 := hb5.size) | (refine step_append_int rfl (.tmp 52) (.tmp 56) rfl _ w4.heap.size _ _ _ _ _ rfl (own5.alloc _) w5.heap.size _ rfl (cellNew _ _ _) (by omega) (by simp at hs5 ⊢; omega) ?_; intro p6 c6 w6 ho6 hg6; have ko6 := (ko5.alloc _).grow hg6 (fun a ha => by have := (own5.lt a ha).1; omega); have kof := ko6.fr 0; have koc6 := ko6.c0)))
                   | go_simp
                 refine hK.out _ _ ?_ (fun hHeld => ?_)
                 · ((try dsimp only); first | exact koc | exact ko5.c0 | exact (ko5.alloc _).c0 | exact ko6.c0)
                 clear hK K
                 try simp only [Act.put, List.setIfInBounds_toArray, List.set_cons_zero, List.set_cons_succ])
            first
              | (refine WalkU.take (i := 3) (v := ?_) rfl (by kernel_rfl) (by kernel_rfl) (by kernel_rfl) (by kernel_rfl) (fun _ _ _ h => h) (Or.inl ⟨by rfl, ?_⟩) hHeld ?_
                 rotate_left
                 · (intro w hSw; (try dsimp only at hSw); go_simp; try with_reducible rfl)
                 try simp only [Act.put, List.setIfInBounds_toArray, List.set_cons_zero, List.set_cons_succ])
              | (refine WalkU.take (i := 3) (v := undef) rfl (by kernel_rfl) (by kernel_rfl) (by kernel_rfl) (by kernel_rfl) (fun _ _ _ h => h) (Or.inr ⟨by rfl, rfl⟩) hHeld ?_
                 try simp only [Act.put, List.setIfInBounds_toArray, List.set_cons_zero, List.set_cons_succ])
              | (refine WalkU.one (i := 3) rfl (by kernel_rfl) (fun K hK => ?_)
                 first
                   | (first | (go_at_call 29; (with_reducible refine (HD.out _ (drewBelow _)).mono ?_); rintro e w5 ⟨rfl, hb5⟩; have ko5 := ko.drew.below hb5; have own5 := hown.drew.below hb5; have hs5 := hb5.size) | (refine step_append_int rfl (.tmp 52) (.tmp 56) rfl _ w4.heap.size _ _ _ _ _ rfl (own5.alloc _) w5.heap.size _ rfl (cellNew _ _ _) (by omega) (by simp at hs5 ⊢; omega) ?_; intro p6 c6 w6 ho6 hg6; have ko6 := (ko5.alloc _).grow hg6 (fun a ha => by have := (own5.lt a ha).1; omega); have kof := ko6.fr 0; have koc6 := ko6.c0))
                   | (go_simp; (first | (go_at_call 29; (with_reducible refine (HD.out _ (drewBelow _)).mono ?_); rintro e w5 ⟨rfl, hb5⟩; have ko5 := ko.drew.below hb5; have own5 := hown.drew.below hb5; have hs5 := hb5.size) | (refine step_append_int rfl (.tmp 52) (.tmp 56) rfl _ w4.heap.size _ _ _ _ _ rfl (own5.alloc _) w5.heap.size _ rfl (cellNew _ _ _) (by omega) (by simp at hs5 ⊢; omega) ?_; intro p6 c6 w6 ho6 hg6; have ko6 := (ko5.alloc _).grow hg6 (fun a ha => by have := (own5.lt a ha).1; omega); have kof := ko6.fr 0; have koc6 := ko6.c0)))
                   | go_simp
                 refine hK.out _ _ ?_ (fun hHeld => ?_)
                 · ((try dsimp only); first | exact koc | exact ko5.c0 | exact (ko5.alloc _).c0 | exact ko6.c0)
                 clear hK K
                 try simp only [Act.put, List.setIfInBounds_toArray, List.set_cons_zero, List.set_cons_succ])
            first
              | (refine WalkU.take (i := 4) (v := ?_) rfl (by kernel_rfl) (by kernel_rfl) (by kernel_rfl) (by kernel_rfl) (fun _ _ _ h => h) (Or.inl ⟨by rfl, ?_⟩) hHeld ?_
                 rotate_left
                 · (intro w hSw; (try dsimp only at hSw); go_simp; try with_reducible rfl)
                 try simp only [Act.put, List.setIfInBounds_toArray, List.set_cons_zero, List.set_cons_succ])
              | (refine WalkU.take (i := 4) (v := undef) rfl (by kernel_rfl) (by kernel_rfl) (by kernel_rfl) (by kernel_rfl) (fun _ _ _ h => h) (Or.inr ⟨by rfl, rfl⟩) hHeld ?_
                 try simp only [Act.put, List.setIfInBounds_toArray, List.set_cons_zero, List.set_cons_succ])
              | (refine WalkU.one (i := 4) rfl (by kernel_rfl) (fun K hK => ?_)
                 first
                   | (first | (go_at_call 29; (with_reducible refine (HD.out _ (drewBelow _)).mono ?_); rintro e w5 ⟨rfl, hb5⟩; have ko5 := ko.drew.below hb5; have own5 := hown.drew.below hb5; have hs5 := hb5.size) | (refine step_append_int rfl (.tmp 52) (.tmp 56) rfl _ w4.heap.size _ _ _ _ _ rfl (own5.alloc _) w5.heap.size _ rfl (cellNew _ _ _) (by omega) (by simp at hs5 ⊢; omega) ?_; intro p6 c6 w6 ho6 hg6; have ko6 := (ko5.alloc _).grow hg6 (fun a ha => by have := (own5.lt a ha).1; omega); have kof := ko6.fr 0; have koc6 := ko6.c0))
                   | (go_simp; (first | (go_at_call 29; (with_reducible refine (HD.out _ (drewBelow _)).mono ?_); rintro e w5 ⟨rfl, hb5⟩; have ko5 := ko.drew.below hb5; have own5 := hown.drew.below hb5; have hs5 := hb5.size) | (refine step_append_int rfl (.tmp 52) (.tmp 56) rfl _ w4.heap.size _ _ _ _ _ rfl (own5.alloc _) w5.heap.size _ rfl (cellNew _ _ _) (by omega) (by simp at hs5 ⊢; omega) ?_; intro p6 c6 w6 ho6 hg6; have ko6 := (ko5.alloc _).grow hg6 (fun a ha => by have := (own5.lt a ha).1; omega); have kof := ko6.fr 0; have koc6 := ko6.c0)))
                   | go_simp
                 refine hK.out _ _ ?_ (fun hHeld => ?_)
                 · ((try dsimp only); first | exact koc | exact ko5.c0 | exact (ko5.alloc _).c0 | exact ko6.c0)
                 clear hK K
                 try simp only [Act.put, List.setIfInBounds_toArray, List.set_cons_zero, List.set_cons_succ])
            first
              | (refine WalkU.take (i := 5) (v := ?_) rfl (by kernel_rfl) (by kernel_rfl) (by kernel_rfl) (by kernel_rfl) (fun _ _ _ h => h) (Or.inl ⟨by rfl, ?_⟩) hHeld ?_
                 rotate_left
                 · (intro w hSw; (try dsimp only at hSw); go_simp; try with_reducible rfl)
                 try simp only [Act.put, List.setIfInBounds_toArray, List.set_cons_zero, List.set_cons_succ])
              | (refine WalkU.take (i := 5) (v := undef) rfl (by kernel_rfl) (by kernel_rfl) (by kernel_rfl) (by kernel_rfl) (fun _ _ _ h => h) (Or.inr ⟨by rfl, rfl⟩) hHeld ?_
                 try simp only [Act.put, List.setIfInBounds_toArray, List.set_cons_zero, List.set_cons_succ])
              | (refine WalkU.one (i := 5) rfl (by kernel_rfl) (fun K hK => ?_)
                 first
                   | (first | (go_at_call 29; (with_reducible refine (HD.out _ (drewBelow _)).mono ?_); rintro e w5 ⟨rfl, hb5⟩; have ko5 := ko.drew.below hb5; have own5 := hown.drew.below hb5; have hs5 := hb5.size) | (refine step_append_int rfl (.tmp 52) (.tmp 56) rfl _ w4.heap.size _ _ _ _ _ rfl (own5.alloc _) w5.heap.size _ rfl (cellNew _ _ _) (by omega) (by simp at hs5 ⊢; omega) ?_; intro p6 c6 w6 ho6 hg6; have ko6 := (ko5.alloc _).grow hg6 (fun a ha => by have := (own5.lt a ha).1; omega); have kof := ko6.fr 0; have koc6 := ko6.c0))
                   | (go_simp; (first | (go_at_call 29; (with_reducible refine (HD.out _ (drewBelow _)).mono ?_); rintro e w5 ⟨rfl, hb5⟩; have ko5 := ko.drew.below hb5; have own5 := hown.drew.below hb5; have hs5 := hb5.size) | (refine step_append_int rfl (.tmp 52) (.tmp 56) rfl _ w4.heap.size _ _ _ _ _ rfl (own5.alloc _) w5.heap.size _ rfl (cellNew _ _ _) (by omega) (by simp at hs5 ⊢; omega) ?_; intro p6 c6 w6 ho6 hg6; have ko6 := (ko5.alloc _).grow hg6 (fun a ha => by have := (own5.lt a ha).1; omega); have kof := ko6.fr 0; have koc6 := ko6.c0)))
                   | go_simp
                 refine hK.out _ _ ?_ (fun hHeld => ?_)
                 · ((try dsimp only); first | exact koc | exact ko5.c0 | exact (ko5.alloc _).c0 | exact ko6.c0)
                 clear hK K
                 try simp only [Act.put, List.setIfInBounds_toArray, List.set_cons_zero, List.set_cons_succ])
            first
              | (refine WalkU.take (i := 6) (v := ?_) rfl (by kernel_rfl) (by kernel_rfl) (by kernel_rfl) (by kernel_rfl) (fun _ _ _ h => h) (Or.inl ⟨by rfl, ?_⟩) hHeld ?_
                 rotate_left
                 · (intro w hSw; (try dsimp only at hSw); go_simp; try with_reducible rfl)
                 try simp only [Act.put, List.setIfInBounds_toArray, List.set_cons_zero, List.set_cons_succ])
              | (refine WalkU.take (i := 6) (v := undef) rfl (by kernel_rfl) (by kernel_rfl) (by kernel_rfl) (by kernel_rfl) (fun _ _ _ h => h) (Or.inr ⟨by rfl, rfl⟩) hHeld ?_
                 try simp only [Act.put, List.setIfInBounds_toArray, List.set_cons_zero, List.set_cons_succ])
              | (refine WalkU.one (i := 6) rfl (by kernel_rfl) (fun K hK => ?_)
                 first
                   | (first | (go_at_call 29; (with_reducible refine (HD.out _ (drewBelow _)).mono ?_); rintro e w5 ⟨rfl, hb5⟩; have ko5 := ko.drew.below hb5; have own5 := hown.drew.below hb5; have hs5 := hb5.size) | (refine step_append_int rfl (.tmp 52) (.tmp 56) rfl _ w4.heap.size _ _ _ _ _ rfl (own5.alloc _) w5.heap.size _ rfl (cellNew _ _ _) (by omega) (by simp at hs5 ⊢; omega) ?_; intro p6 c6 w6 ho6 hg6; have ko6 := (ko5.alloc _).grow hg6 (fun a ha => by have := (own5.lt a ha).1; omega); have kof := ko6.fr 0; have koc6 := ko6.c0))
                   | (go_simp; (first | (go_at_call 29; (with_reducible refine (HD.out _ (drewBelow _)).mono ?_); rintro e w5 ⟨rfl, hb5⟩; have ko5 := ko.drew.below hb5; have own5 := hown.drew.below hb5; have hs5 := hb5.size) | (refine step_append_int rfl (.tmp 52) (.tmp 56) rfl _ w4.heap.size _ _ _ _ _ rfl (own5.alloc _) w5.heap.size _ rfl (cellNew _ _ _) (by omega) (by simp at hs5 ⊢; omega) ?_; intro p6 c6 w6 ho6 hg6; have ko6 := (ko5.alloc _).grow hg6 (fun a ha => by have := (own5.lt a ha).1; omega); have kof := ko6.fr 0; have koc6 := ko6.c0)))
                   | go_simp
                 refine hK.out _ _ ?_ (fun hHeld => ?_)
                 · ((try dsimp only); first | exact koc | exact ko5.c0 | exact (ko5.alloc _).c0 | exact ko6.c0)
                 clear hK K
                 try simp only [Act.put, List.setIfInBounds_toArray, List.set_cons_zero, List.set_cons_succ])
            first
              | (refine WalkU.take (i := 7) (v := ?_) rfl (by kernel_rfl) (by kernel_rfl) (by kernel_rfl) (by kernel_rfl) (fun _ _ _ h => h) (Or.inl ⟨by rfl, ?_⟩) hHeld ?_
                 rotate_left
                 · (intro w hSw; (try dsimp only at hSw); go_simp; try with_reducible rfl)
                 try simp only [Act.put, List.setIfInBounds_toArray, List.set_cons_zero, List.set_cons_succ])
              | (refine WalkU.take (i := 7) (v := undef) rfl (by kernel_rfl) (by kernel_rfl) (by kernel_rfl) (by kernel_rfl) (fun _ _ _ h => h) (Or.inr ⟨by rfl, rfl⟩) hHeld ?_
                 try simp only [Act.put, List.setIfInBounds_toArray, List.set_cons_zero, List.set_cons_succ])
              | (refine WalkU.one (i := 7) rfl (by kernel_rfl) (fun K hK => ?_)
                 first
                   | (first | (go_at_call 29; (with_reducible refine (HD.out _ (drewBelow _)).mono ?_); rintro e w5 ⟨rfl, hb5⟩; have ko5 := ko.drew.below hb5; have own5 := hown.drew.below hb5; have hs5 := hb5.size) | (refine step_append_int rfl (.tmp 52) (.tmp 56) rfl _ w4.heap.size _ _ _ _ _ rfl (own5.alloc _) w5.heap.size _ rfl (cellNew _ _ _) (by omega) (by simp at hs5 ⊢; omega) ?_; intro p6 c6 w6 ho6 hg6; have ko6 := (ko5.alloc _).grow hg6 (fun a ha => by have := (own5.lt a ha).1; omega); have kof := ko6.fr 0; have koc6 := ko6.c0))
                   | (go_simp; (first | (go_at_call 29; (with_reducible refine (HD.out _ (drewBelow _)).mono ?_); rintro e w5 ⟨rfl, hb5⟩; have ko5 := ko.drew.below hb5; have own5 := hown.drew.below hb5; have hs5 := hb5.size) | (refine step_append_int rfl (.tmp 52) (.tmp 56) rfl _ w4.heap.size _ _ _ _ _ rfl (own5.alloc _) w5.heap.size _ rfl (cellNew _ _ _) (by omega) (by simp at hs5 ⊢; omega) ?_; intro p6 c6 w6 ho6 hg6; have ko6 := (ko5.alloc _).grow hg6 (fun a ha => by have := (own5.lt a ha).1; omega); have kof := ko6.fr 0; have koc6 := ko6.c0)))
                   | go_simp
                 refine hK.out _ _ ?_ (fun hHeld => ?_)
                 · ((try dsimp only); first | exact koc | exact ko5.c0 | exact (ko5.alloc _).c0 | exact ko6.c0)
                 clear hK K
                 try simp only [Act.put, List.setIfInBounds_toArray, List.set_cons_zero, List.set_cons_succ])
            first
              | (refine WalkU.last (i := 8) rfl rfl (by kernel_rfl) (by kernel_rfl) (fun K hK => ?_)
                 first
                   | (first | (go_at_call 29; (with_reducible refine (HD.out _ (drewBelow _)).mono ?_); rintro e w5 ⟨rfl, hb5⟩; have ko5 := ko.drew.below hb5; have own5 := hown.drew.below hb5; have hs5 := hb5.size) | (refine step_append_int rfl (.tmp 52) (.tmp 56) rfl _ w4.heap.size _ _ _ _ _ rfl (own5.alloc _) w5.heap.size _ rfl (cellNew _ _ _) (by omega) (by simp at hs5 ⊢; omega) ?_; intro p6 c6 w6 ho6 hg6; have ko6 := (ko5.alloc _).grow hg6 (fun a ha => by have := (own5.lt a ha).1; omega); have kof := ko6.fr 0; have koc6 := ko6.c0))
                   | (go_simp; (first | (go_at_call 29; (with_reducible refine (HD.out _ (drewBelow _)).mono ?_); rintro e w5 ⟨rfl, hb5⟩; have ko5 := ko.drew.below hb5; have own5 := hown.drew.below hb5; have hs5 := hb5.size) | (refine step_append_int rfl (.tmp 52) (.tmp 56) rfl _ w4.heap.size _ _ _ _ _ rfl (own5.alloc _) w5.heap.size _ rfl (cellNew _ _ _) (by omega) (by simp at hs5 ⊢; omega) ?_; intro p6 c6 w6 ho6 hg6; have ko6 := (ko5.alloc _).grow hg6 (fun a ha => by have := (own5.lt a ha).1; omega); have kof := ko6.fr 0; have koc6 := ko6.c0)))
                   | go_simp
                 refine hK.out _ _ ?_
                 clear hK K
                 try simp only [Act.put, List.setIfInBounds_toArray, List.set_cons_zero, List.set_cons_succ])
            go_wp2_with fail
            go_roundw
            case rel =>
              rw [← Htk.out] at ho6
              have hb6 : Below w4.heap.size wr w6 := (Below.of (Below.step (drewBelow _) hb5) (by omega)).trans ((Below.of (boxed w5 (.cells #[.int .i64 u] 3)) (by simp at hs5; omega)).trans (hg6.below (by simp at hs5 ⊢; omega) (fun a ha => (own5.lt a ha).1)))
              have hw6 := hRW.low.lowB hb6 (Nat.le_refl _)
              exact ⟨t + 1, _, _, by omega, by go_num, ko6.set0 _, (ho6.setBelow (a := ⟨_, _, none⟩) (by dsimp only; omega) _).up, hw6.setCell (p := ⟨w2.heap.size, 0, none⟩) (Nat.le_refl _) (Nat.lt_succ_self _) _⟩
            case measure => simp [intOf]; omega
          · obtain rfl : t = k := by omega
            rw [List.take_of_length_le (by rw [hcl.out]; exact Nat.le_refl _)] at hRW
            have kq := hRW.out
            have kq0 := kq.c0
            have kq1 := kq.c1
            have kqf0 := kq.fr 0
            have kqf1 := kq.fr 1
            have hownr := hRW.own
            have hbr : Below w.heap.size w wr := hbT4.trans (hRW.low.below (by omega) (by omega))
            have HB : Hid (∀ j, j < (cramF t ch).length → In62 (nth (cramF t ch) j)) := Lib.hid fun j hj => by
              have := H4.out (nth (cramF t ch) j) (by rw [nth_eq hj]; exact List.getElem_mem _)
              unfold Abs at this; unfold In62; omega
            have hd62 : In62 d := by unfold Abs at e3; unfold In62; omega
            have hdn := hd0'.out
            have hCr := hC.below hbr
            clear hA ho84 kp4 hrow
            go_wp2_with fail
            refine (reducedPoint_any _ _ _ _ _ _ (by omega) hownr.ints HB.out hd62 hdn).mono ?_
            rintro e w7 ⟨p7, c7, rfl, ho7, hb7⟩
            have k7 := kq.below hb7
            have kf7 := k7.fr 0
            have kf71 := k7.fr 1
            have k70 := k7.c0
            have k71 := k7.c1
            clear kq0 kq1 kqf0 kqf1 kq hownr hdn hd62
            have hs7 := hb7.size
            generalize redF (cramF t ch) d = pt at *
            obtain ⟨ys, b⟩ := pt
            dsimp only at ho7 Hl ⊢
            have k8 := (k7.set0 (.slice p7 t c7)).set1 (.int .i64 b)
            have ho8 := ((ho7.setBelow (a := ⟨w2.heap.size, 0, none⟩) (by dsimp only; omega) (Value.slice p7 t c7)).setBelow (a := ⟨w2.heap.size, 1, none⟩) (by dsimp only; omega) (Value.int .i64 b)).up
            have hbw8 := ((Below.step hbr hb7).setCell (p := ⟨w2.heap.size, 0, none⟩) (by dsimp only; omega) (Value.slice p7 t c7)).setCell (p := ⟨w2.heap.size, 1, none⟩) (by dsimp only; omega) (Value.int .i64 b)
            clear hCr hRW ko hown hb7 hbT4 hbT hbr
            go_upto_region 18 with fail
            generalize (w7.setCell ⟨w2.heap.size, 0, none⟩ (Value.slice p7 t c7)).setCell ⟨w2.heap.size, 1, none⟩ (Value.int .i64 b) = w8 at *
            have hC8 := hC.below hbw8
            have hR8 := hC8.box.below hC8.base
            have hR80 := hR8.c0
            have hR81 := hR8.c1
            have k80 := k8.c0
            have k81 := k8.c1
            have hx8 := hC8.rd.below hC8.base
            have hn8 : n ≤ 8 := by have := hx8.len; omega
            have Hlen : Hid (∀ j, j < hs.length → (nrm hs j).length = t) := Lib.hid fun j hj => (hO _ (prAt_mem hj)).1
            have hs8 := hbw8.size
            have hs84 : w.heap.size ≤ wr.heap.size := by omega
            cases hf : hasF hs ys b
            · have Hl2 := Lib.hid (show leafV hs ch = [] by rw [Hl.out]; simp [hf])
              have HF := Lib.hid hf
              clear hf Hl
              go_wp2_with fail
              refine (hasFraction_any _ _ _ _ _ _ _ _ _ _ _ (by omega) (by omega) hx8 ho8.ints Hlen.out).mono ?_
              rw [HF.out]
              rintro e w9 ⟨rfl, hb9⟩
              have hbw9 := Below.step hbw8 hb9
              go_wp2_with fail
              go_end0
              rw [Hl2.out, List.append_nil]
              exact ⟨rfl, ⟨_, _, _, _, hout.below hbw9⟩, Fr.of_below hbw9⟩
            · have Hl2 := Lib.hid (show leafV hs ch = [(ys, b)] by rw [Hl.out]; simp [hf])
              have HF := Lib.hid hf
              clear hf Hl
              go_wp2_with fail
              refine (hasFraction_any _ _ _ _ _ _ _ _ _ _ _ (by omega) (by omega) hx8 ho8.ints Hlen.out).mono ?_
              rw [HF.out]
              rintro e w9 ⟨rfl, hb9⟩
              have hbw9 := Below.step hbw8 hb9
              have k9 := k8.below hb9
              have k90 := k9.c0
              have k91 := k9.c1
              have hout9 := hout.below hbw9
              have hoc9 := hout9.cell
              have hOwn9 := hout.own.below hbw9
              have ho9 := (ho8.below hb9).widen (lo' := w.heap.size) (by omega) (Nat.le_refl _)
              have hLO := hC.lK
              have hLL := hC.lL
              have hLw := hC.lw
              have hs9 := hbw9.size
              have hv9 := (hOwn9.outer.alloc (.cells #[.slice p7 t c7, .int .i64 b] 32))
              have hof9 := hout9.fr
              have hol9 := World.block_lt_of_cell? w9 _ hoc9
              go_wp2_with (at_builtin; refine append_rat rfl _ _ rfl _ L _ _ _ _ _ rfl hv9 _ _ _ _ _ rfl (Box2.new w9 _ _ _) (by omega) (by simp <;> omega) ?_; intro p10 c10 w10 ho10 hg10; have hbO : w10.heap[O]? = w9.heap[O]? := (hg10.by_.block O (by simp <;> omega) (fun e => by cases q2 with | none => cases e | some a0 => (simp only [blk, Option.map_some, Option.some.injEq] at e; have := (hOwn9.outer.lt a0 rfl).1; omega))).trans ((boxed w9 _).block O hol9); have hc10 := (World.cell?_of_block (a := ⟨O, 0, none⟩) hbO).trans hoc9; have hf10 := (World.frozen?_of_block (a := ⟨O, 0, none⟩) hbO).trans hof9)
              go_end0
              rw [Hl2.out]
              have hfin := hOwn9.app ratNe ho9 hLw (boxed _ _) ho10 hg10
              refine ⟨rfl, ⟨_, _, _, _, World.cell?_setCell_same _ _ _ hc10, by rw [World.frozen?_setCell]; exact hf10, (hfin.setBelow (a := ⟨O, 0, none⟩) (by dsimp only; omega) _).up⟩, ?_⟩
              exact (((Fr.of_below hbw9).alloc _).trans (Fr.grown hv9 (Nat.le_refl _) hg10.by_)).trans (Fr.setX (by rfl) 0 _)

end Go.Proofs.YtpfklkmmhdpphaaGreatDoor

/- VerticesOf: the program's search. Conditions: sizes. -/
namespace Go.Proofs.YtpfklkmmhdpphaaGreatDoor
open Go.RowKit
set_option linter.unusedVariables false
set_option linter.unusedSimpArgs false

set_option maxHeartbeats 16000000 in
theorem pick_any (W1 : World) (R O K L D : Nat) (p : Option Addr) (n c : Nat) (hs : List Pr) (h1 : 1 ≤ D) (h3 : D ≤ 3) (hO : Okh D hs) (h8 : hs.length ≤ 8) :
    ∀ (d a : Nat) (ai : Int) (ch : List Pr) (q : Option Addr) (m1 c1 : Nat) (q2 : Option Addr) (m c2 : Nat) (rows : List Row) (ps : List Pr) (w : World), ai = (a : Int) → ch.length + d = D → a ≤ n → ps.length + 8 ^ d ≤ 1000000 → Cells W1 w R O K L D p n c hs → Chos W1 w L q m1 c1 ch → Okh D ch → OutIs O L w q2 m c2 rows ps →
    Calls Tryz.prog 26 #[.int .i64 ai, .slice q m1 c1, .pointer (some ⟨R, 0, none⟩), .pointer (some ⟨O, 0, none⟩), .pointer (some ⟨K, 0, none⟩)] w (Picked O L w (ps ++ ptsC hs d a ch)) := by
  intro d
  induction d with
  | zero =>
    intro a ai ch q m1 c1 q2 m c2 rows ps w hai hcl ha hlen hC hch hOc hout
    obtain rfl : m1 = D := by rw [← hch.count]; omega
    rw [ptsC_zero]
    refine pickLeaf _ _ _ _ _ _ _ _ _ _ h1 h3 hO h8 _ _ _ _ _ _ _ _ _ _ hC hch hOc hout (?_)
    have h9 := hout.own.count
    have h7 := hout.own.len
    omega
  | succ d ih =>
    intro a ai ch q m1 c1 q2 m c2 rows ps w hai hcl ha hlen hC hch hOc hout
    have hcc := hch.count
    have hm1 : m1 < D := by omega
    subst hai
    have Ih := Lib.hid ih
    have HO := Lib.hid hO
    have HOc := Lib.hid hOc
    have hl := Lib.hid hC.rd.len
    have hne : ((m1 : Int) == (D : Int)) = false := by simp; omega
    have hne2 : ¬ m1 = D := by omega
    have kr := hC.box.below hC.base
    have kr0 := kr.c0
    have Hpt := Lib.hid (ptsC_succ hs d a ch)
    have Hcc := Lib.hid hcc
    have hn8 : n ≤ 8 := by have := hC.rd.len; omega
    clear ih hO hOc hcc kr
    go_enter Tryz.func26, Tryz.ntmps26
    go_wp2_with fail
    go_loopw [15] (fun i wr => ∃ (k : Nat) (q2 : Option Addr) (m c2 : Nat) (rows : List Row), a ≤ k ∧ k ≤ n ∧ i = .int .i64 k ∧ OutIs O L wr q2 m c2 rows (ps ++ ptsTo hs d a ch k) ∧ Fr L (XO O) w wr) (fun i _ => n - (intOf i).toNat)
    case atStart => exact ⟨a, _, _, _, _, Nat.le_refl _, ha, rfl, by rw [ptsTo_start, List.append_nil]; exact hout, Fr.refl _ _ _⟩
    case round =>
      obtain ⟨k, q3, m3, c3, rows3, hak, hk, rfl, hout, hF⟩ := hrel
      have hCr := hC.fr hF
      have hLO := hC.lK
      have hLL := hC.lL
      have hchr := hch.fr hF (fun j hj hX => by unfold XO at hX; omega)
      have kR := hCr.box.below hCr.base
      have kR1 := kR.c1
      have hfn := hCr.fn
      by_cases hlt : k < n
      · obtain ⟨b, o, qh, mh, dh, hp, hc1, hcb1, hmd, hdd, hi1⟩ := hC.rd.cell k hlt
        have hc := Below.cells hCr.base hc1
        have hcb := Below.cells hCr.base hcb1
        obtain ⟨crows, hcl', hco, hci⟩ := hchr.ex
        have hcap : m1 ≤ c1 := by
          rcases hco.form with ⟨_, h0, _⟩ | ⟨_, _, _, _, _, h5, _⟩
          · omega
          · exact h5
        have hcap2 : (m1 : Int) ≤ (c1 : Int) := by omega
        have hkl : k < hs.length := by rw [hl.out]; exact hlt
        have HOk := Lib.hid (HO.out.app HOc.out hkl)
        have Hln : Hid ((ps ++ ptsTo hs d a ch k).length + 8 ^ d ≤ 1000000) := Lib.hid (by
          have e2 := ptsTo_len hs h8 d a ch k
          have e3 : (k - a) * 8 ^ d + 8 ^ d ≤ 8 * 8 ^ d := by
            have := Nat.mul_le_mul_right (8 ^ d) (show k - a + 1 ≤ 8 by omega)
            rwa [Nat.add_mul, Nat.one_mul] at this
          rw [Nat.pow_succ, Nat.mul_comm (8 ^ d) 8] at hlen
          rw [List.length_append]
          omega)
        have Hstep := Lib.hid (show ps ++ ptsTo hs d a ch (k + 1) = (ps ++ ptsTo hs d a ch k) ++ ptsC hs d (k + 1) (ch ++ [prAt hs k]) by rw [ptsTo_step hs d a ch hak, List.append_assoc])
        have s1 : IntKind.i64.wrap ((k : Int) + 1) = (k : Int) + 1 := IntWalk.i64_in _ (by omega)
        have hlen' := Lib.hid hlen
        subst hp
        clear hc1 hcb1 hlen
        generalize hbk : bnd hs k = bk at *
        have HPr : Hid (∀ W q' c', Chos W1 W L q' (m1 + 1) c' (ch ++ [(nrm hs k, bk)]) → Chos W1 W L q' (m1 + 1) c' (ch ++ [prAt hs k])) := Lib.hid fun W q' c' h => by rw [← hbk] at h; exact h
        clear hbk
        have kRd := kR.drew.c1
        have hcod := (hco.drew).alloc (.cells #[.slice qh mh dh, .int .i64 bk] 47)
        have hbA := boxed wr.drew (.cells #[.slice qh mh dh, .int .i64 bk] 47)
        have hlw := hCr.lw
        have a0 := Below.cells hbA hfn
        have a1 := Below.cells hbA kR1
        have a2 := Below.cells hbA hc
        have a3 := Below.cells hbA hcb
        go_wp2_with fail
        refine wp_region_u 16 17 (fun w' => w'.cell? ⟨K, 0, none⟩ = some (.func (.func 26) #[] #[.pointer (some ⟨R, 0, none⟩), .pointer (some ⟨O, 0, none⟩), .pointer (some ⟨K, 0, none⟩)]) ∧ w'.cell? ⟨R, 1, none⟩ = some (.slice (some ⟨b, o, none⟩) n c) ∧ w'.cell? ⟨b, o + k * 2, none⟩ = some (.slice qh mh dh) ∧ w'.cell? ⟨b, o + k * 2 + 1, none⟩ = some (.int .i64 bk)) (by kernel_rfl) rfl (by (try dsimp only); first | exact ⟨hfn, kR1, hc, hcb⟩ | exact ⟨a0, a1, a2, a3⟩ | exact ⟨b0, b1, b2, b3⟩) (fun hHeld => ?_)
        first
          | (refine WalkU.take (i := 0) (v := ?_) rfl (by kernel_rfl) (by kernel_rfl) (by kernel_rfl) (by kernel_rfl) (fun _ _ _ h => h) (Or.inl ⟨by rfl, ?_⟩) hHeld ?_
             rotate_left
             · (intro w hSw; (try dsimp only at hSw); go_simp; try with_reducible rfl)
             try simp only [Act.put, List.setIfInBounds_toArray, List.set_cons_zero, List.set_cons_succ])
          | (refine WalkU.take (i := 0) (v := undef) rfl (by kernel_rfl) (by kernel_rfl) (by kernel_rfl) (by kernel_rfl) (fun _ _ _ h => h) (Or.inr ⟨by rfl, rfl⟩) hHeld ?_
             try simp only [Act.put, List.setIfInBounds_toArray, List.set_cons_zero, List.set_cons_succ])
          | (refine WalkU.one (i := 0) rfl (by kernel_rfl) (fun K hK => ?_)
             first
               | (first | (refine step_append_full rfl (.tmp 85) (.tmp 91) rfl _ L _ _ m1 c1 _ rfl hcod _ _ _ _ _ rfl (Box2.new wr.drew _ _ _) (by omega) ?_; intro p7 c7 W7 ho7 hb7; have hb8 : Below wr.heap.size wr W7 := (Below.step (Below.step (drewBelow wr) hbA) hb7); have b0 := Below.cells hb8 hfn; have b1 := Below.cells hb8 kR1; have b2 := Below.cells hb8 hc; have b3 := Below.cells hb8 hcb; have hC7 := hCr.below hb8; have hout7 := hout.below hb8; have hch7 := HPr.out _ _ _ (Chos.ofV hcl' hci hi1 hmd hdd (by simp; omega) ho7)) | (go_at_call 26; (with_reducible refine (Ih.out (k + 1) _ (ch ++ [prAt hs k]) _ (m1 + 1) _ _ _ _ _ _ _ (by omega) (by simp <;> omega) (by omega) Hln.out hC7 hch7 HOk.out hout7).mono ?_); rintro e w8 ⟨rfl, ⟨q8, n8, c8, rows8, ho8⟩, hF8⟩))
               | (go_simp; (first | (refine step_append_full rfl (.tmp 85) (.tmp 91) rfl _ L _ _ m1 c1 _ rfl hcod _ _ _ _ _ rfl (Box2.new wr.drew _ _ _) (by omega) ?_; intro p7 c7 W7 ho7 hb7; have hb8 : Below wr.heap.size wr W7 := (Below.step (Below.step (drewBelow wr) hbA) hb7); have b0 := Below.cells hb8 hfn; have b1 := Below.cells hb8 kR1; have b2 := Below.cells hb8 hc; have b3 := Below.cells hb8 hcb; have hC7 := hCr.below hb8; have hout7 := hout.below hb8; have hch7 := HPr.out _ _ _ (Chos.ofV hcl' hci hi1 hmd hdd (by simp; omega) ho7)) | (go_at_call 26; (with_reducible refine (Ih.out (k + 1) _ (ch ++ [prAt hs k]) _ (m1 + 1) _ _ _ _ _ _ _ (by omega) (by simp <;> omega) (by omega) Hln.out hC7 hch7 HOk.out hout7).mono ?_); rintro e w8 ⟨rfl, ⟨q8, n8, c8, rows8, ho8⟩, hF8⟩)))
               | go_simp
             refine hK.out _ _ ?_ (fun hHeld => ?_)
             · ((try dsimp only); first | exact ⟨hfn, kR1, hc, hcb⟩ | exact ⟨a0, a1, a2, a3⟩ | exact ⟨b0, b1, b2, b3⟩)
             clear hK K
             try simp only [Act.put, List.setIfInBounds_toArray, List.set_cons_zero, List.set_cons_succ])
        first
          | (refine WalkU.take (i := 1) (v := ?_) rfl (by kernel_rfl) (by kernel_rfl) (by kernel_rfl) (by kernel_rfl) (fun _ _ _ h => h) (Or.inl ⟨by rfl, ?_⟩) hHeld ?_
             rotate_left
             · (intro w hSw; (try dsimp only at hSw); go_simp; try with_reducible rfl)
             try simp only [Act.put, List.setIfInBounds_toArray, List.set_cons_zero, List.set_cons_succ])
          | (refine WalkU.take (i := 1) (v := undef) rfl (by kernel_rfl) (by kernel_rfl) (by kernel_rfl) (by kernel_rfl) (fun _ _ _ h => h) (Or.inr ⟨by rfl, rfl⟩) hHeld ?_
             try simp only [Act.put, List.setIfInBounds_toArray, List.set_cons_zero, List.set_cons_succ])
          | (refine WalkU.one (i := 1) rfl (by kernel_rfl) (fun K hK => ?_)
             first
               | (first | (refine step_append_full rfl (.tmp 85) (.tmp 91) rfl _ L _ _ m1 c1 _ rfl hcod _ _ _ _ _ rfl (Box2.new wr.drew _ _ _) (by omega) ?_; intro p7 c7 W7 ho7 hb7; have hb8 : Below wr.heap.size wr W7 := (Below.step (Below.step (drewBelow wr) hbA) hb7); have b0 := Below.cells hb8 hfn; have b1 := Below.cells hb8 kR1; have b2 := Below.cells hb8 hc; have b3 := Below.cells hb8 hcb; have hC7 := hCr.below hb8; have hout7 := hout.below hb8; have hch7 := HPr.out _ _ _ (Chos.ofV hcl' hci hi1 hmd hdd (by simp; omega) ho7)) | (go_at_call 26; (with_reducible refine (Ih.out (k + 1) _ (ch ++ [prAt hs k]) _ (m1 + 1) _ _ _ _ _ _ _ (by omega) (by simp <;> omega) (by omega) Hln.out hC7 hch7 HOk.out hout7).mono ?_); rintro e w8 ⟨rfl, ⟨q8, n8, c8, rows8, ho8⟩, hF8⟩))
               | (go_simp; (first | (refine step_append_full rfl (.tmp 85) (.tmp 91) rfl _ L _ _ m1 c1 _ rfl hcod _ _ _ _ _ rfl (Box2.new wr.drew _ _ _) (by omega) ?_; intro p7 c7 W7 ho7 hb7; have hb8 : Below wr.heap.size wr W7 := (Below.step (Below.step (drewBelow wr) hbA) hb7); have b0 := Below.cells hb8 hfn; have b1 := Below.cells hb8 kR1; have b2 := Below.cells hb8 hc; have b3 := Below.cells hb8 hcb; have hC7 := hCr.below hb8; have hout7 := hout.below hb8; have hch7 := HPr.out _ _ _ (Chos.ofV hcl' hci hi1 hmd hdd (by simp; omega) ho7)) | (go_at_call 26; (with_reducible refine (Ih.out (k + 1) _ (ch ++ [prAt hs k]) _ (m1 + 1) _ _ _ _ _ _ _ (by omega) (by simp <;> omega) (by omega) Hln.out hC7 hch7 HOk.out hout7).mono ?_); rintro e w8 ⟨rfl, ⟨q8, n8, c8, rows8, ho8⟩, hF8⟩)))
               | go_simp
             refine hK.out _ _ ?_ (fun hHeld => ?_)
             · ((try dsimp only); first | exact ⟨hfn, kR1, hc, hcb⟩ | exact ⟨a0, a1, a2, a3⟩ | exact ⟨b0, b1, b2, b3⟩)
             clear hK K
             try simp only [Act.put, List.setIfInBounds_toArray, List.set_cons_zero, List.set_cons_succ])
        first
          | (refine WalkU.take (i := 2) (v := ?_) rfl (by kernel_rfl) (by kernel_rfl) (by kernel_rfl) (by kernel_rfl) (fun _ _ _ h => h) (Or.inl ⟨by rfl, ?_⟩) hHeld ?_
             rotate_left
             · (intro w hSw; (try dsimp only at hSw); go_simp; try with_reducible rfl)
             try simp only [Act.put, List.setIfInBounds_toArray, List.set_cons_zero, List.set_cons_succ])
          | (refine WalkU.take (i := 2) (v := undef) rfl (by kernel_rfl) (by kernel_rfl) (by kernel_rfl) (by kernel_rfl) (fun _ _ _ h => h) (Or.inr ⟨by rfl, rfl⟩) hHeld ?_
             try simp only [Act.put, List.setIfInBounds_toArray, List.set_cons_zero, List.set_cons_succ])
          | (refine WalkU.one (i := 2) rfl (by kernel_rfl) (fun K hK => ?_)
             first
               | (first | (refine step_append_full rfl (.tmp 85) (.tmp 91) rfl _ L _ _ m1 c1 _ rfl hcod _ _ _ _ _ rfl (Box2.new wr.drew _ _ _) (by omega) ?_; intro p7 c7 W7 ho7 hb7; have hb8 : Below wr.heap.size wr W7 := (Below.step (Below.step (drewBelow wr) hbA) hb7); have b0 := Below.cells hb8 hfn; have b1 := Below.cells hb8 kR1; have b2 := Below.cells hb8 hc; have b3 := Below.cells hb8 hcb; have hC7 := hCr.below hb8; have hout7 := hout.below hb8; have hch7 := HPr.out _ _ _ (Chos.ofV hcl' hci hi1 hmd hdd (by simp; omega) ho7)) | (go_at_call 26; (with_reducible refine (Ih.out (k + 1) _ (ch ++ [prAt hs k]) _ (m1 + 1) _ _ _ _ _ _ _ (by omega) (by simp <;> omega) (by omega) Hln.out hC7 hch7 HOk.out hout7).mono ?_); rintro e w8 ⟨rfl, ⟨q8, n8, c8, rows8, ho8⟩, hF8⟩))
               | (go_simp; (first | (refine step_append_full rfl (.tmp 85) (.tmp 91) rfl _ L _ _ m1 c1 _ rfl hcod _ _ _ _ _ rfl (Box2.new wr.drew _ _ _) (by omega) ?_; intro p7 c7 W7 ho7 hb7; have hb8 : Below wr.heap.size wr W7 := (Below.step (Below.step (drewBelow wr) hbA) hb7); have b0 := Below.cells hb8 hfn; have b1 := Below.cells hb8 kR1; have b2 := Below.cells hb8 hc; have b3 := Below.cells hb8 hcb; have hC7 := hCr.below hb8; have hout7 := hout.below hb8; have hch7 := HPr.out _ _ _ (Chos.ofV hcl' hci hi1 hmd hdd (by simp; omega) ho7)) | (go_at_call 26; (with_reducible refine (Ih.out (k + 1) _ (ch ++ [prAt hs k]) _ (m1 + 1) _ _ _ _ _ _ _ (by omega) (by simp <;> omega) (by omega) Hln.out hC7 hch7 HOk.out hout7).mono ?_); rintro e w8 ⟨rfl, ⟨q8, n8, c8, rows8, ho8⟩, hF8⟩)))
               | go_simp
             refine hK.out _ _ ?_ (fun hHeld => ?_)
             · ((try dsimp only); first | exact ⟨hfn, kR1, hc, hcb⟩ | exact ⟨a0, a1, a2, a3⟩ | exact ⟨b0, b1, b2, b3⟩)
             clear hK K
             try simp only [Act.put, List.setIfInBounds_toArray, List.set_cons_zero, List.set_cons_succ])
        first
          | (refine WalkU.take (i := 3) (v := ?_) rfl (by kernel_rfl) (by kernel_rfl) (by kernel_rfl) (by kernel_rfl) (fun _ _ _ h => h) (Or.inl ⟨by rfl, ?_⟩) hHeld ?_
             rotate_left
             · (intro w hSw; (try dsimp only at hSw); go_simp; try with_reducible rfl)
             try simp only [Act.put, List.setIfInBounds_toArray, List.set_cons_zero, List.set_cons_succ])
          | (refine WalkU.take (i := 3) (v := undef) rfl (by kernel_rfl) (by kernel_rfl) (by kernel_rfl) (by kernel_rfl) (fun _ _ _ h => h) (Or.inr ⟨by rfl, rfl⟩) hHeld ?_
             try simp only [Act.put, List.setIfInBounds_toArray, List.set_cons_zero, List.set_cons_succ])
          | (refine WalkU.one (i := 3) rfl (by kernel_rfl) (fun K hK => ?_)
             first
               | (first | (refine step_append_full rfl (.tmp 85) (.tmp 91) rfl _ L _ _ m1 c1 _ rfl hcod _ _ _ _ _ rfl (Box2.new wr.drew _ _ _) (by omega) ?_; intro p7 c7 W7 ho7 hb7; have hb8 : Below wr.heap.size wr W7 := (Below.step (Below.step (drewBelow wr) hbA) hb7); have b0 := Below.cells hb8 hfn; have b1 := Below.cells hb8 kR1; have b2 := Below.cells hb8 hc; have b3 := Below.cells hb8 hcb; have hC7 := hCr.below hb8; have hout7 := hout.below hb8; have hch7 := HPr.out _ _ _ (Chos.ofV hcl' hci hi1 hmd hdd (by simp; omega) ho7)) | (go_at_call 26; (with_reducible refine (Ih.out (k + 1) _ (ch ++ [prAt hs k]) _ (m1 + 1) _ _ _ _ _ _ _ (by omega) (by simp <;> omega) (by omega) Hln.out hC7 hch7 HOk.out hout7).mono ?_); rintro e w8 ⟨rfl, ⟨q8, n8, c8, rows8, ho8⟩, hF8⟩))
               | (go_simp; (first | (refine step_append_full rfl (.tmp 85) (.tmp 91) rfl _ L _ _ m1 c1 _ rfl hcod _ _ _ _ _ rfl (Box2.new wr.drew _ _ _) (by omega) ?_; intro p7 c7 W7 ho7 hb7; have hb8 : Below wr.heap.size wr W7 := (Below.step (Below.step (drewBelow wr) hbA) hb7); have b0 := Below.cells hb8 hfn; have b1 := Below.cells hb8 kR1; have b2 := Below.cells hb8 hc; have b3 := Below.cells hb8 hcb; have hC7 := hCr.below hb8; have hout7 := hout.below hb8; have hch7 := HPr.out _ _ _ (Chos.ofV hcl' hci hi1 hmd hdd (by simp; omega) ho7)) | (go_at_call 26; (with_reducible refine (Ih.out (k + 1) _ (ch ++ [prAt hs k]) _ (m1 + 1) _ _ _ _ _ _ _ (by omega) (by simp <;> omega) (by omega) Hln.out hC7 hch7 HOk.out hout7).mono ?_); rintro e w8 ⟨rfl, ⟨q8, n8, c8, rows8, ho8⟩, hF8⟩)))
               | go_simp
             refine hK.out _ _ ?_ (fun hHeld => ?_)
             · ((try dsimp only); first | exact ⟨hfn, kR1, hc, hcb⟩ | exact ⟨a0, a1, a2, a3⟩ | exact ⟨b0, b1, b2, b3⟩)
             clear hK K
             try simp only [Act.put, List.setIfInBounds_toArray, List.set_cons_zero, List.set_cons_succ])
        first
          | (refine WalkU.take (i := 4) (v := ?_) rfl (by kernel_rfl) (by kernel_rfl) (by kernel_rfl) (by kernel_rfl) (fun _ _ _ h => h) (Or.inl ⟨by rfl, ?_⟩) hHeld ?_
             rotate_left
             · (intro w hSw; (try dsimp only at hSw); go_simp; try with_reducible rfl)
             try simp only [Act.put, List.setIfInBounds_toArray, List.set_cons_zero, List.set_cons_succ])
          | (refine WalkU.take (i := 4) (v := undef) rfl (by kernel_rfl) (by kernel_rfl) (by kernel_rfl) (by kernel_rfl) (fun _ _ _ h => h) (Or.inr ⟨by rfl, rfl⟩) hHeld ?_
             try simp only [Act.put, List.setIfInBounds_toArray, List.set_cons_zero, List.set_cons_succ])
          | (refine WalkU.one (i := 4) rfl (by kernel_rfl) (fun K hK => ?_)
             first
               | (first | (refine step_append_full rfl (.tmp 85) (.tmp 91) rfl _ L _ _ m1 c1 _ rfl hcod _ _ _ _ _ rfl (Box2.new wr.drew _ _ _) (by omega) ?_; intro p7 c7 W7 ho7 hb7; have hb8 : Below wr.heap.size wr W7 := (Below.step (Below.step (drewBelow wr) hbA) hb7); have b0 := Below.cells hb8 hfn; have b1 := Below.cells hb8 kR1; have b2 := Below.cells hb8 hc; have b3 := Below.cells hb8 hcb; have hC7 := hCr.below hb8; have hout7 := hout.below hb8; have hch7 := HPr.out _ _ _ (Chos.ofV hcl' hci hi1 hmd hdd (by simp; omega) ho7)) | (go_at_call 26; (with_reducible refine (Ih.out (k + 1) _ (ch ++ [prAt hs k]) _ (m1 + 1) _ _ _ _ _ _ _ (by omega) (by simp <;> omega) (by omega) Hln.out hC7 hch7 HOk.out hout7).mono ?_); rintro e w8 ⟨rfl, ⟨q8, n8, c8, rows8, ho8⟩, hF8⟩))
               | (go_simp; (first | (refine step_append_full rfl (.tmp 85) (.tmp 91) rfl _ L _ _ m1 c1 _ rfl hcod _ _ _ _ _ rfl (Box2.new wr.drew _ _ _) (by omega) ?_; intro p7 c7 W7 ho7 hb7; have hb8 : Below wr.heap.size wr W7 := (Below.step (Below.step (drewBelow wr) hbA) hb7); have b0 := Below.cells hb8 hfn; have b1 := Below.cells hb8 kR1; have b2 := Below.cells hb8 hc; have b3 := Below.cells hb8 hcb; have hC7 := hCr.below hb8; have hout7 := hout.below hb8; have hch7 := HPr.out _ _ _ (Chos.ofV hcl' hci hi1 hmd hdd (by simp; omega) ho7)) | (go_at_call 26; (with_reducible refine (Ih.out (k + 1) _ (ch ++ [prAt hs k]) _ (m1 + 1) _ _ _ _ _ _ _ (by omega) (by simp <;> omega) (by omega) Hln.out hC7 hch7 HOk.out hout7).mono ?_); rintro e w8 ⟨rfl, ⟨q8, n8, c8, rows8, ho8⟩, hF8⟩)))
               | go_simp
             refine hK.out _ _ ?_ (fun hHeld => ?_)
             · ((try dsimp only); first | exact ⟨hfn, kR1, hc, hcb⟩ | exact ⟨a0, a1, a2, a3⟩ | exact ⟨b0, b1, b2, b3⟩)
             clear hK K
             try simp only [Act.put, List.setIfInBounds_toArray, List.set_cons_zero, List.set_cons_succ])
        first
          | (refine WalkU.take (i := 5) (v := ?_) rfl (by kernel_rfl) (by kernel_rfl) (by kernel_rfl) (by kernel_rfl) (fun _ _ _ h => h) (Or.inl ⟨by rfl, ?_⟩) hHeld ?_
             rotate_left
             · (intro w hSw; (try dsimp only at hSw); go_simp; try with_reducible rfl)
             try simp only [Act.put, List.setIfInBounds_toArray, List.set_cons_zero, List.set_cons_succ])
          | (refine WalkU.take (i := 5) (v := undef) rfl (by kernel_rfl) (by kernel_rfl) (by kernel_rfl) (by kernel_rfl) (fun _ _ _ h => h) (Or.inr ⟨by rfl, rfl⟩) hHeld ?_
             try simp only [Act.put, List.setIfInBounds_toArray, List.set_cons_zero, List.set_cons_succ])
          | (refine WalkU.one (i := 5) rfl (by kernel_rfl) (fun K hK => ?_)
             first
               | (first | (refine step_append_full rfl (.tmp 85) (.tmp 91) rfl _ L _ _ m1 c1 _ rfl hcod _ _ _ _ _ rfl (Box2.new wr.drew _ _ _) (by omega) ?_; intro p7 c7 W7 ho7 hb7; have hb8 : Below wr.heap.size wr W7 := (Below.step (Below.step (drewBelow wr) hbA) hb7); have b0 := Below.cells hb8 hfn; have b1 := Below.cells hb8 kR1; have b2 := Below.cells hb8 hc; have b3 := Below.cells hb8 hcb; have hC7 := hCr.below hb8; have hout7 := hout.below hb8; have hch7 := HPr.out _ _ _ (Chos.ofV hcl' hci hi1 hmd hdd (by simp; omega) ho7)) | (go_at_call 26; (with_reducible refine (Ih.out (k + 1) _ (ch ++ [prAt hs k]) _ (m1 + 1) _ _ _ _ _ _ _ (by omega) (by simp <;> omega) (by omega) Hln.out hC7 hch7 HOk.out hout7).mono ?_); rintro e w8 ⟨rfl, ⟨q8, n8, c8, rows8, ho8⟩, hF8⟩))
               | (go_simp; (first | (refine step_append_full rfl (.tmp 85) (.tmp 91) rfl _ L _ _ m1 c1 _ rfl hcod _ _ _ _ _ rfl (Box2.new wr.drew _ _ _) (by omega) ?_; intro p7 c7 W7 ho7 hb7; have hb8 : Below wr.heap.size wr W7 := (Below.step (Below.step (drewBelow wr) hbA) hb7); have b0 := Below.cells hb8 hfn; have b1 := Below.cells hb8 kR1; have b2 := Below.cells hb8 hc; have b3 := Below.cells hb8 hcb; have hC7 := hCr.below hb8; have hout7 := hout.below hb8; have hch7 := HPr.out _ _ _ (Chos.ofV hcl' hci hi1 hmd hdd (by simp; omega) ho7)) | (go_at_call 26; (with_reducible refine (Ih.out (k + 1) _ (ch ++ [prAt hs k]) _ (m1 + 1) _ _ _ _ _ _ _ (by omega) (by simp <;> omega) (by omega) Hln.out hC7 hch7 HOk.out hout7).mono ?_); rintro e w8 ⟨rfl, ⟨q8, n8, c8, rows8, ho8⟩, hF8⟩)))
               | go_simp
             refine hK.out _ _ ?_ (fun hHeld => ?_)
             · ((try dsimp only); first | exact ⟨hfn, kR1, hc, hcb⟩ | exact ⟨a0, a1, a2, a3⟩ | exact ⟨b0, b1, b2, b3⟩)
             clear hK K
             try simp only [Act.put, List.setIfInBounds_toArray, List.set_cons_zero, List.set_cons_succ])
        first
          | (refine WalkU.take (i := 6) (v := ?_) rfl (by kernel_rfl) (by kernel_rfl) (by kernel_rfl) (by kernel_rfl) (fun _ _ _ h => h) (Or.inl ⟨by rfl, ?_⟩) hHeld ?_
             rotate_left
             · (intro w hSw; (try dsimp only at hSw); go_simp; try with_reducible rfl)
             try simp only [Act.put, List.setIfInBounds_toArray, List.set_cons_zero, List.set_cons_succ])
          | (refine WalkU.take (i := 6) (v := undef) rfl (by kernel_rfl) (by kernel_rfl) (by kernel_rfl) (by kernel_rfl) (fun _ _ _ h => h) (Or.inr ⟨by rfl, rfl⟩) hHeld ?_
             try simp only [Act.put, List.setIfInBounds_toArray, List.set_cons_zero, List.set_cons_succ])
          | (refine WalkU.one (i := 6) rfl (by kernel_rfl) (fun K hK => ?_)
             first
               | (first | (refine step_append_full rfl (.tmp 85) (.tmp 91) rfl _ L _ _ m1 c1 _ rfl hcod _ _ _ _ _ rfl (Box2.new wr.drew _ _ _) (by omega) ?_; intro p7 c7 W7 ho7 hb7; have hb8 : Below wr.heap.size wr W7 := (Below.step (Below.step (drewBelow wr) hbA) hb7); have b0 := Below.cells hb8 hfn; have b1 := Below.cells hb8 kR1; have b2 := Below.cells hb8 hc; have b3 := Below.cells hb8 hcb; have hC7 := hCr.below hb8; have hout7 := hout.below hb8; have hch7 := HPr.out _ _ _ (Chos.ofV hcl' hci hi1 hmd hdd (by simp; omega) ho7)) | (go_at_call 26; (with_reducible refine (Ih.out (k + 1) _ (ch ++ [prAt hs k]) _ (m1 + 1) _ _ _ _ _ _ _ (by omega) (by simp <;> omega) (by omega) Hln.out hC7 hch7 HOk.out hout7).mono ?_); rintro e w8 ⟨rfl, ⟨q8, n8, c8, rows8, ho8⟩, hF8⟩))
               | (go_simp; (first | (refine step_append_full rfl (.tmp 85) (.tmp 91) rfl _ L _ _ m1 c1 _ rfl hcod _ _ _ _ _ rfl (Box2.new wr.drew _ _ _) (by omega) ?_; intro p7 c7 W7 ho7 hb7; have hb8 : Below wr.heap.size wr W7 := (Below.step (Below.step (drewBelow wr) hbA) hb7); have b0 := Below.cells hb8 hfn; have b1 := Below.cells hb8 kR1; have b2 := Below.cells hb8 hc; have b3 := Below.cells hb8 hcb; have hC7 := hCr.below hb8; have hout7 := hout.below hb8; have hch7 := HPr.out _ _ _ (Chos.ofV hcl' hci hi1 hmd hdd (by simp; omega) ho7)) | (go_at_call 26; (with_reducible refine (Ih.out (k + 1) _ (ch ++ [prAt hs k]) _ (m1 + 1) _ _ _ _ _ _ _ (by omega) (by simp <;> omega) (by omega) Hln.out hC7 hch7 HOk.out hout7).mono ?_); rintro e w8 ⟨rfl, ⟨q8, n8, c8, rows8, ho8⟩, hF8⟩)))
               | go_simp
             refine hK.out _ _ ?_ (fun hHeld => ?_)
             · ((try dsimp only); first | exact ⟨hfn, kR1, hc, hcb⟩ | exact ⟨a0, a1, a2, a3⟩ | exact ⟨b0, b1, b2, b3⟩)
             clear hK K
             try simp only [Act.put, List.setIfInBounds_toArray, List.set_cons_zero, List.set_cons_succ])
        first
          | (refine WalkU.take (i := 7) (v := ?_) rfl (by kernel_rfl) (by kernel_rfl) (by kernel_rfl) (by kernel_rfl) (fun _ _ _ h => h) (Or.inl ⟨by rfl, ?_⟩) hHeld ?_
             rotate_left
             · (intro w hSw; (try dsimp only at hSw); go_simp; try with_reducible rfl)
             try simp only [Act.put, List.setIfInBounds_toArray, List.set_cons_zero, List.set_cons_succ])
          | (refine WalkU.take (i := 7) (v := undef) rfl (by kernel_rfl) (by kernel_rfl) (by kernel_rfl) (by kernel_rfl) (fun _ _ _ h => h) (Or.inr ⟨by rfl, rfl⟩) hHeld ?_
             try simp only [Act.put, List.setIfInBounds_toArray, List.set_cons_zero, List.set_cons_succ])
          | (refine WalkU.one (i := 7) rfl (by kernel_rfl) (fun K hK => ?_)
             first
               | (first | (refine step_append_full rfl (.tmp 85) (.tmp 91) rfl _ L _ _ m1 c1 _ rfl hcod _ _ _ _ _ rfl (Box2.new wr.drew _ _ _) (by omega) ?_; intro p7 c7 W7 ho7 hb7; have hb8 : Below wr.heap.size wr W7 := (Below.step (Below.step (drewBelow wr) hbA) hb7); have b0 := Below.cells hb8 hfn; have b1 := Below.cells hb8 kR1; have b2 := Below.cells hb8 hc; have b3 := Below.cells hb8 hcb; have hC7 := hCr.below hb8; have hout7 := hout.below hb8; have hch7 := HPr.out _ _ _ (Chos.ofV hcl' hci hi1 hmd hdd (by simp; omega) ho7)) | (go_at_call 26; (with_reducible refine (Ih.out (k + 1) _ (ch ++ [prAt hs k]) _ (m1 + 1) _ _ _ _ _ _ _ (by omega) (by simp <;> omega) (by omega) Hln.out hC7 hch7 HOk.out hout7).mono ?_); rintro e w8 ⟨rfl, ⟨q8, n8, c8, rows8, ho8⟩, hF8⟩))
               | (go_simp; (first | (refine step_append_full rfl (.tmp 85) (.tmp 91) rfl _ L _ _ m1 c1 _ rfl hcod _ _ _ _ _ rfl (Box2.new wr.drew _ _ _) (by omega) ?_; intro p7 c7 W7 ho7 hb7; have hb8 : Below wr.heap.size wr W7 := (Below.step (Below.step (drewBelow wr) hbA) hb7); have b0 := Below.cells hb8 hfn; have b1 := Below.cells hb8 kR1; have b2 := Below.cells hb8 hc; have b3 := Below.cells hb8 hcb; have hC7 := hCr.below hb8; have hout7 := hout.below hb8; have hch7 := HPr.out _ _ _ (Chos.ofV hcl' hci hi1 hmd hdd (by simp; omega) ho7)) | (go_at_call 26; (with_reducible refine (Ih.out (k + 1) _ (ch ++ [prAt hs k]) _ (m1 + 1) _ _ _ _ _ _ _ (by omega) (by simp <;> omega) (by omega) Hln.out hC7 hch7 HOk.out hout7).mono ?_); rintro e w8 ⟨rfl, ⟨q8, n8, c8, rows8, ho8⟩, hF8⟩)))
               | go_simp
             refine hK.out _ _ ?_ (fun hHeld => ?_)
             · ((try dsimp only); first | exact ⟨hfn, kR1, hc, hcb⟩ | exact ⟨a0, a1, a2, a3⟩ | exact ⟨b0, b1, b2, b3⟩)
             clear hK K
             try simp only [Act.put, List.setIfInBounds_toArray, List.set_cons_zero, List.set_cons_succ])
        first
          | (refine WalkU.take (i := 8) (v := ?_) rfl (by kernel_rfl) (by kernel_rfl) (by kernel_rfl) (by kernel_rfl) (fun _ _ _ h => h) (Or.inl ⟨by rfl, ?_⟩) hHeld ?_
             rotate_left
             · (intro w hSw; (try dsimp only at hSw); go_simp; try with_reducible rfl)
             try simp only [Act.put, List.setIfInBounds_toArray, List.set_cons_zero, List.set_cons_succ])
          | (refine WalkU.take (i := 8) (v := undef) rfl (by kernel_rfl) (by kernel_rfl) (by kernel_rfl) (by kernel_rfl) (fun _ _ _ h => h) (Or.inr ⟨by rfl, rfl⟩) hHeld ?_
             try simp only [Act.put, List.setIfInBounds_toArray, List.set_cons_zero, List.set_cons_succ])
          | (refine WalkU.one (i := 8) rfl (by kernel_rfl) (fun K hK => ?_)
             first
               | (first | (refine step_append_full rfl (.tmp 85) (.tmp 91) rfl _ L _ _ m1 c1 _ rfl hcod _ _ _ _ _ rfl (Box2.new wr.drew _ _ _) (by omega) ?_; intro p7 c7 W7 ho7 hb7; have hb8 : Below wr.heap.size wr W7 := (Below.step (Below.step (drewBelow wr) hbA) hb7); have b0 := Below.cells hb8 hfn; have b1 := Below.cells hb8 kR1; have b2 := Below.cells hb8 hc; have b3 := Below.cells hb8 hcb; have hC7 := hCr.below hb8; have hout7 := hout.below hb8; have hch7 := HPr.out _ _ _ (Chos.ofV hcl' hci hi1 hmd hdd (by simp; omega) ho7)) | (go_at_call 26; (with_reducible refine (Ih.out (k + 1) _ (ch ++ [prAt hs k]) _ (m1 + 1) _ _ _ _ _ _ _ (by omega) (by simp <;> omega) (by omega) Hln.out hC7 hch7 HOk.out hout7).mono ?_); rintro e w8 ⟨rfl, ⟨q8, n8, c8, rows8, ho8⟩, hF8⟩))
               | (go_simp; (first | (refine step_append_full rfl (.tmp 85) (.tmp 91) rfl _ L _ _ m1 c1 _ rfl hcod _ _ _ _ _ rfl (Box2.new wr.drew _ _ _) (by omega) ?_; intro p7 c7 W7 ho7 hb7; have hb8 : Below wr.heap.size wr W7 := (Below.step (Below.step (drewBelow wr) hbA) hb7); have b0 := Below.cells hb8 hfn; have b1 := Below.cells hb8 kR1; have b2 := Below.cells hb8 hc; have b3 := Below.cells hb8 hcb; have hC7 := hCr.below hb8; have hout7 := hout.below hb8; have hch7 := HPr.out _ _ _ (Chos.ofV hcl' hci hi1 hmd hdd (by simp; omega) ho7)) | (go_at_call 26; (with_reducible refine (Ih.out (k + 1) _ (ch ++ [prAt hs k]) _ (m1 + 1) _ _ _ _ _ _ _ (by omega) (by simp <;> omega) (by omega) Hln.out hC7 hch7 HOk.out hout7).mono ?_); rintro e w8 ⟨rfl, ⟨q8, n8, c8, rows8, ho8⟩, hF8⟩)))
               | go_simp
             refine hK.out _ _ ?_ (fun hHeld => ?_)
             · ((try dsimp only); first | exact ⟨hfn, kR1, hc, hcb⟩ | exact ⟨a0, a1, a2, a3⟩ | exact ⟨b0, b1, b2, b3⟩)
             clear hK K
             try simp only [Act.put, List.setIfInBounds_toArray, List.set_cons_zero, List.set_cons_succ])
        first
          | (refine WalkU.take (i := 9) (v := ?_) rfl (by kernel_rfl) (by kernel_rfl) (by kernel_rfl) (by kernel_rfl) (fun _ _ _ h => h) (Or.inl ⟨by rfl, ?_⟩) hHeld ?_
             rotate_left
             · (intro w hSw; (try dsimp only at hSw); go_simp; try with_reducible rfl)
             try simp only [Act.put, List.setIfInBounds_toArray, List.set_cons_zero, List.set_cons_succ])
          | (refine WalkU.take (i := 9) (v := undef) rfl (by kernel_rfl) (by kernel_rfl) (by kernel_rfl) (by kernel_rfl) (fun _ _ _ h => h) (Or.inr ⟨by rfl, rfl⟩) hHeld ?_
             try simp only [Act.put, List.setIfInBounds_toArray, List.set_cons_zero, List.set_cons_succ])
          | (refine WalkU.one (i := 9) rfl (by kernel_rfl) (fun K hK => ?_)
             first
               | (first | (refine step_append_full rfl (.tmp 85) (.tmp 91) rfl _ L _ _ m1 c1 _ rfl hcod _ _ _ _ _ rfl (Box2.new wr.drew _ _ _) (by omega) ?_; intro p7 c7 W7 ho7 hb7; have hb8 : Below wr.heap.size wr W7 := (Below.step (Below.step (drewBelow wr) hbA) hb7); have b0 := Below.cells hb8 hfn; have b1 := Below.cells hb8 kR1; have b2 := Below.cells hb8 hc; have b3 := Below.cells hb8 hcb; have hC7 := hCr.below hb8; have hout7 := hout.below hb8; have hch7 := HPr.out _ _ _ (Chos.ofV hcl' hci hi1 hmd hdd (by simp; omega) ho7)) | (go_at_call 26; (with_reducible refine (Ih.out (k + 1) _ (ch ++ [prAt hs k]) _ (m1 + 1) _ _ _ _ _ _ _ (by omega) (by simp <;> omega) (by omega) Hln.out hC7 hch7 HOk.out hout7).mono ?_); rintro e w8 ⟨rfl, ⟨q8, n8, c8, rows8, ho8⟩, hF8⟩))
               | (go_simp; (first | (refine step_append_full rfl (.tmp 85) (.tmp 91) rfl _ L _ _ m1 c1 _ rfl hcod _ _ _ _ _ rfl (Box2.new wr.drew _ _ _) (by omega) ?_; intro p7 c7 W7 ho7 hb7; have hb8 : Below wr.heap.size wr W7 := (Below.step (Below.step (drewBelow wr) hbA) hb7); have b0 := Below.cells hb8 hfn; have b1 := Below.cells hb8 kR1; have b2 := Below.cells hb8 hc; have b3 := Below.cells hb8 hcb; have hC7 := hCr.below hb8; have hout7 := hout.below hb8; have hch7 := HPr.out _ _ _ (Chos.ofV hcl' hci hi1 hmd hdd (by simp; omega) ho7)) | (go_at_call 26; (with_reducible refine (Ih.out (k + 1) _ (ch ++ [prAt hs k]) _ (m1 + 1) _ _ _ _ _ _ _ (by omega) (by simp <;> omega) (by omega) Hln.out hC7 hch7 HOk.out hout7).mono ?_); rintro e w8 ⟨rfl, ⟨q8, n8, c8, rows8, ho8⟩, hF8⟩)))
               | go_simp
             refine hK.out _ _ ?_ (fun hHeld => ?_)
             · ((try dsimp only); first | exact ⟨hfn, kR1, hc, hcb⟩ | exact ⟨a0, a1, a2, a3⟩ | exact ⟨b0, b1, b2, b3⟩)
             clear hK K
             try simp only [Act.put, List.setIfInBounds_toArray, List.set_cons_zero, List.set_cons_succ])
        first
          | (refine WalkU.take (i := 10) (v := ?_) rfl (by kernel_rfl) (by kernel_rfl) (by kernel_rfl) (by kernel_rfl) (fun _ _ _ h => h) (Or.inl ⟨by rfl, ?_⟩) hHeld ?_
             rotate_left
             · (intro w hSw; (try dsimp only at hSw); go_simp; try with_reducible rfl)
             try simp only [Act.put, List.setIfInBounds_toArray, List.set_cons_zero, List.set_cons_succ])
          | (refine WalkU.take (i := 10) (v := undef) rfl (by kernel_rfl) (by kernel_rfl) (by kernel_rfl) (by kernel_rfl) (fun _ _ _ h => h) (Or.inr ⟨by rfl, rfl⟩) hHeld ?_
             try simp only [Act.put, List.setIfInBounds_toArray, List.set_cons_zero, List.set_cons_succ])
          | (refine WalkU.one (i := 10) rfl (by kernel_rfl) (fun K hK => ?_)
             first
               | (first | (refine step_append_full rfl (.tmp 85) (.tmp 91) rfl _ L _ _ m1 c1 _ rfl hcod _ _ _ _ _ rfl (Box2.new wr.drew _ _ _) (by omega) ?_; intro p7 c7 W7 ho7 hb7; have hb8 : Below wr.heap.size wr W7 := (Below.step (Below.step (drewBelow wr) hbA) hb7); have b0 := Below.cells hb8 hfn; have b1 := Below.cells hb8 kR1; have b2 := Below.cells hb8 hc; have b3 := Below.cells hb8 hcb; have hC7 := hCr.below hb8; have hout7 := hout.below hb8; have hch7 := HPr.out _ _ _ (Chos.ofV hcl' hci hi1 hmd hdd (by simp; omega) ho7)) | (go_at_call 26; (with_reducible refine (Ih.out (k + 1) _ (ch ++ [prAt hs k]) _ (m1 + 1) _ _ _ _ _ _ _ (by omega) (by simp <;> omega) (by omega) Hln.out hC7 hch7 HOk.out hout7).mono ?_); rintro e w8 ⟨rfl, ⟨q8, n8, c8, rows8, ho8⟩, hF8⟩))
               | (go_simp; (first | (refine step_append_full rfl (.tmp 85) (.tmp 91) rfl _ L _ _ m1 c1 _ rfl hcod _ _ _ _ _ rfl (Box2.new wr.drew _ _ _) (by omega) ?_; intro p7 c7 W7 ho7 hb7; have hb8 : Below wr.heap.size wr W7 := (Below.step (Below.step (drewBelow wr) hbA) hb7); have b0 := Below.cells hb8 hfn; have b1 := Below.cells hb8 kR1; have b2 := Below.cells hb8 hc; have b3 := Below.cells hb8 hcb; have hC7 := hCr.below hb8; have hout7 := hout.below hb8; have hch7 := HPr.out _ _ _ (Chos.ofV hcl' hci hi1 hmd hdd (by simp; omega) ho7)) | (go_at_call 26; (with_reducible refine (Ih.out (k + 1) _ (ch ++ [prAt hs k]) _ (m1 + 1) _ _ _ _ _ _ _ (by omega) (by simp <;> omega) (by omega) Hln.out hC7 hch7 HOk.out hout7).mono ?_); rintro e w8 ⟨rfl, ⟨q8, n8, c8, rows8, ho8⟩, hF8⟩)))
               | go_simp
             refine hK.out _ _ ?_ (fun hHeld => ?_)
             · ((try dsimp only); first | exact ⟨hfn, kR1, hc, hcb⟩ | exact ⟨a0, a1, a2, a3⟩ | exact ⟨b0, b1, b2, b3⟩)
             clear hK K
             try simp only [Act.put, List.setIfInBounds_toArray, List.set_cons_zero, List.set_cons_succ])
        first
          | (refine WalkU.take (i := 11) (v := ?_) rfl (by kernel_rfl) (by kernel_rfl) (by kernel_rfl) (by kernel_rfl) (fun _ _ _ h => h) (Or.inl ⟨by rfl, ?_⟩) hHeld ?_
             rotate_left
             · (intro w hSw; (try dsimp only at hSw); go_simp; try with_reducible rfl)
             try simp only [Act.put, List.setIfInBounds_toArray, List.set_cons_zero, List.set_cons_succ])
          | (refine WalkU.take (i := 11) (v := undef) rfl (by kernel_rfl) (by kernel_rfl) (by kernel_rfl) (by kernel_rfl) (fun _ _ _ h => h) (Or.inr ⟨by rfl, rfl⟩) hHeld ?_
             try simp only [Act.put, List.setIfInBounds_toArray, List.set_cons_zero, List.set_cons_succ])
          | (refine WalkU.one (i := 11) rfl (by kernel_rfl) (fun K hK => ?_)
             first
               | (first | (refine step_append_full rfl (.tmp 85) (.tmp 91) rfl _ L _ _ m1 c1 _ rfl hcod _ _ _ _ _ rfl (Box2.new wr.drew _ _ _) (by omega) ?_; intro p7 c7 W7 ho7 hb7; have hb8 : Below wr.heap.size wr W7 := (Below.step (Below.step (drewBelow wr) hbA) hb7); have b0 := Below.cells hb8 hfn; have b1 := Below.cells hb8 kR1; have b2 := Below.cells hb8 hc; have b3 := Below.cells hb8 hcb; have hC7 := hCr.below hb8; have hout7 := hout.below hb8; have hch7 := HPr.out _ _ _ (Chos.ofV hcl' hci hi1 hmd hdd (by simp; omega) ho7)) | (go_at_call 26; (with_reducible refine (Ih.out (k + 1) _ (ch ++ [prAt hs k]) _ (m1 + 1) _ _ _ _ _ _ _ (by omega) (by simp <;> omega) (by omega) Hln.out hC7 hch7 HOk.out hout7).mono ?_); rintro e w8 ⟨rfl, ⟨q8, n8, c8, rows8, ho8⟩, hF8⟩))
               | (go_simp; (first | (refine step_append_full rfl (.tmp 85) (.tmp 91) rfl _ L _ _ m1 c1 _ rfl hcod _ _ _ _ _ rfl (Box2.new wr.drew _ _ _) (by omega) ?_; intro p7 c7 W7 ho7 hb7; have hb8 : Below wr.heap.size wr W7 := (Below.step (Below.step (drewBelow wr) hbA) hb7); have b0 := Below.cells hb8 hfn; have b1 := Below.cells hb8 kR1; have b2 := Below.cells hb8 hc; have b3 := Below.cells hb8 hcb; have hC7 := hCr.below hb8; have hout7 := hout.below hb8; have hch7 := HPr.out _ _ _ (Chos.ofV hcl' hci hi1 hmd hdd (by simp; omega) ho7)) | (go_at_call 26; (with_reducible refine (Ih.out (k + 1) _ (ch ++ [prAt hs k]) _ (m1 + 1) _ _ _ _ _ _ _ (by omega) (by simp <;> omega) (by omega) Hln.out hC7 hch7 HOk.out hout7).mono ?_); rintro e w8 ⟨rfl, ⟨q8, n8, c8, rows8, ho8⟩, hF8⟩)))
               | go_simp
             refine hK.out _ _ ?_ (fun hHeld => ?_)
             · ((try dsimp only); first | exact ⟨hfn, kR1, hc, hcb⟩ | exact ⟨a0, a1, a2, a3⟩ | exact ⟨b0, b1, b2, b3⟩)
             clear hK K
             try simp only [Act.put, List.setIfInBounds_toArray, List.set_cons_zero, List.set_cons_succ])
        first
          | (refine WalkU.take (i := 12) (v := ?_) rfl (by kernel_rfl) (by kernel_rfl) (by kernel_rfl) (by kernel_rfl) (fun _ _ _ h => h) (Or.inl ⟨by rfl, ?_⟩) hHeld ?_
             rotate_left
             · (intro w hSw; (try dsimp only at hSw); go_simp; try with_reducible rfl)
             try simp only [Act.put, List.setIfInBounds_toArray, List.set_cons_zero, List.set_cons_succ])
          | (refine WalkU.take (i := 12) (v := undef) rfl (by kernel_rfl) (by kernel_rfl) (by kernel_rfl) (by kernel_rfl) (fun _ _ _ h => h) (Or.inr ⟨by rfl, rfl⟩) hHeld ?_
             try simp only [Act.put, List.setIfInBounds_toArray, List.set_cons_zero, List.set_cons_succ])
          | (refine WalkU.one (i := 12) rfl (by kernel_rfl) (fun K hK => ?_)
             first
               | (first | (refine step_append_full rfl (.tmp 85) (.tmp 91) rfl _ L _ _ m1 c1 _ rfl hcod _ _ _ _ _ rfl (Box2.new wr.drew _ _ _) (by omega) ?_; intro p7 c7 W7 ho7 hb7; have hb8 : Below wr.heap.size wr W7 := (Below.step (Below.step (drewBelow wr) hbA) hb7); have b0 := Below.cells hb8 hfn; have b1 := Below.cells hb8 kR1; have b2 := Below.cells hb8 hc; have b3 := Below.cells hb8 hcb; have hC7 := hCr.below hb8; have hout7 := hout.below hb8; have hch7 := HPr.out _ _ _ (Chos.ofV hcl' hci hi1 hmd hdd (by simp; omega) ho7)) | (go_at_call 26; (with_reducible refine (Ih.out (k + 1) _ (ch ++ [prAt hs k]) _ (m1 + 1) _ _ _ _ _ _ _ (by omega) (by simp <;> omega) (by omega) Hln.out hC7 hch7 HOk.out hout7).mono ?_); rintro e w8 ⟨rfl, ⟨q8, n8, c8, rows8, ho8⟩, hF8⟩))
               | (go_simp; (first | (refine step_append_full rfl (.tmp 85) (.tmp 91) rfl _ L _ _ m1 c1 _ rfl hcod _ _ _ _ _ rfl (Box2.new wr.drew _ _ _) (by omega) ?_; intro p7 c7 W7 ho7 hb7; have hb8 : Below wr.heap.size wr W7 := (Below.step (Below.step (drewBelow wr) hbA) hb7); have b0 := Below.cells hb8 hfn; have b1 := Below.cells hb8 kR1; have b2 := Below.cells hb8 hc; have b3 := Below.cells hb8 hcb; have hC7 := hCr.below hb8; have hout7 := hout.below hb8; have hch7 := HPr.out _ _ _ (Chos.ofV hcl' hci hi1 hmd hdd (by simp; omega) ho7)) | (go_at_call 26; (with_reducible refine (Ih.out (k + 1) _ (ch ++ [prAt hs k]) _ (m1 + 1) _ _ _ _ _ _ _ (by omega) (by simp <;> omega) (by omega) Hln.out hC7 hch7 HOk.out hout7).mono ?_); rintro e w8 ⟨rfl, ⟨q8, n8, c8, rows8, ho8⟩, hF8⟩)))
               | go_simp
             refine hK.out _ _ ?_ (fun hHeld => ?_)
             · ((try dsimp only); first | exact ⟨hfn, kR1, hc, hcb⟩ | exact ⟨a0, a1, a2, a3⟩ | exact ⟨b0, b1, b2, b3⟩)
             clear hK K
             try simp only [Act.put, List.setIfInBounds_toArray, List.set_cons_zero, List.set_cons_succ])
        first
          | (refine WalkU.take (i := 13) (v := ?_) rfl (by kernel_rfl) (by kernel_rfl) (by kernel_rfl) (by kernel_rfl) (fun _ _ _ h => h) (Or.inl ⟨by rfl, ?_⟩) hHeld ?_
             rotate_left
             · (intro w hSw; (try dsimp only at hSw); go_simp; try with_reducible rfl)
             try simp only [Act.put, List.setIfInBounds_toArray, List.set_cons_zero, List.set_cons_succ])
          | (refine WalkU.take (i := 13) (v := undef) rfl (by kernel_rfl) (by kernel_rfl) (by kernel_rfl) (by kernel_rfl) (fun _ _ _ h => h) (Or.inr ⟨by rfl, rfl⟩) hHeld ?_
             try simp only [Act.put, List.setIfInBounds_toArray, List.set_cons_zero, List.set_cons_succ])
          | (refine WalkU.one (i := 13) rfl (by kernel_rfl) (fun K hK => ?_)
             first
               | (first | (refine step_append_full rfl (.tmp 85) (.tmp 91) rfl _ L _ _ m1 c1 _ rfl hcod _ _ _ _ _ rfl (Box2.new wr.drew _ _ _) (by omega) ?_; intro p7 c7 W7 ho7 hb7; have hb8 : Below wr.heap.size wr W7 := (Below.step (Below.step (drewBelow wr) hbA) hb7); have b0 := Below.cells hb8 hfn; have b1 := Below.cells hb8 kR1; have b2 := Below.cells hb8 hc; have b3 := Below.cells hb8 hcb; have hC7 := hCr.below hb8; have hout7 := hout.below hb8; have hch7 := HPr.out _ _ _ (Chos.ofV hcl' hci hi1 hmd hdd (by simp; omega) ho7)) | (go_at_call 26; (with_reducible refine (Ih.out (k + 1) _ (ch ++ [prAt hs k]) _ (m1 + 1) _ _ _ _ _ _ _ (by omega) (by simp <;> omega) (by omega) Hln.out hC7 hch7 HOk.out hout7).mono ?_); rintro e w8 ⟨rfl, ⟨q8, n8, c8, rows8, ho8⟩, hF8⟩))
               | (go_simp; (first | (refine step_append_full rfl (.tmp 85) (.tmp 91) rfl _ L _ _ m1 c1 _ rfl hcod _ _ _ _ _ rfl (Box2.new wr.drew _ _ _) (by omega) ?_; intro p7 c7 W7 ho7 hb7; have hb8 : Below wr.heap.size wr W7 := (Below.step (Below.step (drewBelow wr) hbA) hb7); have b0 := Below.cells hb8 hfn; have b1 := Below.cells hb8 kR1; have b2 := Below.cells hb8 hc; have b3 := Below.cells hb8 hcb; have hC7 := hCr.below hb8; have hout7 := hout.below hb8; have hch7 := HPr.out _ _ _ (Chos.ofV hcl' hci hi1 hmd hdd (by simp; omega) ho7)) | (go_at_call 26; (with_reducible refine (Ih.out (k + 1) _ (ch ++ [prAt hs k]) _ (m1 + 1) _ _ _ _ _ _ _ (by omega) (by simp <;> omega) (by omega) Hln.out hC7 hch7 HOk.out hout7).mono ?_); rintro e w8 ⟨rfl, ⟨q8, n8, c8, rows8, ho8⟩, hF8⟩)))
               | go_simp
             refine hK.out _ _ ?_ (fun hHeld => ?_)
             · ((try dsimp only); first | exact ⟨hfn, kR1, hc, hcb⟩ | exact ⟨a0, a1, a2, a3⟩ | exact ⟨b0, b1, b2, b3⟩)
             clear hK K
             try simp only [Act.put, List.setIfInBounds_toArray, List.set_cons_zero, List.set_cons_succ])
        first
          | (refine WalkU.take (i := 14) (v := ?_) rfl (by kernel_rfl) (by kernel_rfl) (by kernel_rfl) (by kernel_rfl) (fun _ _ _ h => h) (Or.inl ⟨by rfl, ?_⟩) hHeld ?_
             rotate_left
             · (intro w hSw; (try dsimp only at hSw); go_simp; try with_reducible rfl)
             try simp only [Act.put, List.setIfInBounds_toArray, List.set_cons_zero, List.set_cons_succ])
          | (refine WalkU.take (i := 14) (v := undef) rfl (by kernel_rfl) (by kernel_rfl) (by kernel_rfl) (by kernel_rfl) (fun _ _ _ h => h) (Or.inr ⟨by rfl, rfl⟩) hHeld ?_
             try simp only [Act.put, List.setIfInBounds_toArray, List.set_cons_zero, List.set_cons_succ])
          | (refine WalkU.one (i := 14) rfl (by kernel_rfl) (fun K hK => ?_)
             first
               | (first | (refine step_append_full rfl (.tmp 85) (.tmp 91) rfl _ L _ _ m1 c1 _ rfl hcod _ _ _ _ _ rfl (Box2.new wr.drew _ _ _) (by omega) ?_; intro p7 c7 W7 ho7 hb7; have hb8 : Below wr.heap.size wr W7 := (Below.step (Below.step (drewBelow wr) hbA) hb7); have b0 := Below.cells hb8 hfn; have b1 := Below.cells hb8 kR1; have b2 := Below.cells hb8 hc; have b3 := Below.cells hb8 hcb; have hC7 := hCr.below hb8; have hout7 := hout.below hb8; have hch7 := HPr.out _ _ _ (Chos.ofV hcl' hci hi1 hmd hdd (by simp; omega) ho7)) | (go_at_call 26; (with_reducible refine (Ih.out (k + 1) _ (ch ++ [prAt hs k]) _ (m1 + 1) _ _ _ _ _ _ _ (by omega) (by simp <;> omega) (by omega) Hln.out hC7 hch7 HOk.out hout7).mono ?_); rintro e w8 ⟨rfl, ⟨q8, n8, c8, rows8, ho8⟩, hF8⟩))
               | (go_simp; (first | (refine step_append_full rfl (.tmp 85) (.tmp 91) rfl _ L _ _ m1 c1 _ rfl hcod _ _ _ _ _ rfl (Box2.new wr.drew _ _ _) (by omega) ?_; intro p7 c7 W7 ho7 hb7; have hb8 : Below wr.heap.size wr W7 := (Below.step (Below.step (drewBelow wr) hbA) hb7); have b0 := Below.cells hb8 hfn; have b1 := Below.cells hb8 kR1; have b2 := Below.cells hb8 hc; have b3 := Below.cells hb8 hcb; have hC7 := hCr.below hb8; have hout7 := hout.below hb8; have hch7 := HPr.out _ _ _ (Chos.ofV hcl' hci hi1 hmd hdd (by simp; omega) ho7)) | (go_at_call 26; (with_reducible refine (Ih.out (k + 1) _ (ch ++ [prAt hs k]) _ (m1 + 1) _ _ _ _ _ _ _ (by omega) (by simp <;> omega) (by omega) Hln.out hC7 hch7 HOk.out hout7).mono ?_); rintro e w8 ⟨rfl, ⟨q8, n8, c8, rows8, ho8⟩, hF8⟩)))
               | go_simp
             refine hK.out _ _ ?_ (fun hHeld => ?_)
             · ((try dsimp only); first | exact ⟨hfn, kR1, hc, hcb⟩ | exact ⟨a0, a1, a2, a3⟩ | exact ⟨b0, b1, b2, b3⟩)
             clear hK K
             try simp only [Act.put, List.setIfInBounds_toArray, List.set_cons_zero, List.set_cons_succ])
        first
          | (refine WalkU.take (i := 15) (v := ?_) rfl (by kernel_rfl) (by kernel_rfl) (by kernel_rfl) (by kernel_rfl) (fun _ _ _ h => h) (Or.inl ⟨by rfl, ?_⟩) hHeld ?_
             rotate_left
             · (intro w hSw; (try dsimp only at hSw); go_simp; try with_reducible rfl)
             try simp only [Act.put, List.setIfInBounds_toArray, List.set_cons_zero, List.set_cons_succ])
          | (refine WalkU.take (i := 15) (v := undef) rfl (by kernel_rfl) (by kernel_rfl) (by kernel_rfl) (by kernel_rfl) (fun _ _ _ h => h) (Or.inr ⟨by rfl, rfl⟩) hHeld ?_
             try simp only [Act.put, List.setIfInBounds_toArray, List.set_cons_zero, List.set_cons_succ])
          | (refine WalkU.one (i := 15) rfl (by kernel_rfl) (fun K hK => ?_)
             first
               | (first | (refine step_append_full rfl (.tmp 85) (.tmp 91) rfl _ L _ _ m1 c1 _ rfl hcod _ _ _ _ _ rfl (Box2.new wr.drew _ _ _) (by omega) ?_; intro p7 c7 W7 ho7 hb7; have hb8 : Below wr.heap.size wr W7 := (Below.step (Below.step (drewBelow wr) hbA) hb7); have b0 := Below.cells hb8 hfn; have b1 := Below.cells hb8 kR1; have b2 := Below.cells hb8 hc; have b3 := Below.cells hb8 hcb; have hC7 := hCr.below hb8; have hout7 := hout.below hb8; have hch7 := HPr.out _ _ _ (Chos.ofV hcl' hci hi1 hmd hdd (by simp; omega) ho7)) | (go_at_call 26; (with_reducible refine (Ih.out (k + 1) _ (ch ++ [prAt hs k]) _ (m1 + 1) _ _ _ _ _ _ _ (by omega) (by simp <;> omega) (by omega) Hln.out hC7 hch7 HOk.out hout7).mono ?_); rintro e w8 ⟨rfl, ⟨q8, n8, c8, rows8, ho8⟩, hF8⟩))
               | (go_simp; (first | (refine step_append_full rfl (.tmp 85) (.tmp 91) rfl _ L _ _ m1 c1 _ rfl hcod _ _ _ _ _ rfl (Box2.new wr.drew _ _ _) (by omega) ?_; intro p7 c7 W7 ho7 hb7; have hb8 : Below wr.heap.size wr W7 := (Below.step (Below.step (drewBelow wr) hbA) hb7); have b0 := Below.cells hb8 hfn; have b1 := Below.cells hb8 kR1; have b2 := Below.cells hb8 hc; have b3 := Below.cells hb8 hcb; have hC7 := hCr.below hb8; have hout7 := hout.below hb8; have hch7 := HPr.out _ _ _ (Chos.ofV hcl' hci hi1 hmd hdd (by simp; omega) ho7)) | (go_at_call 26; (with_reducible refine (Ih.out (k + 1) _ (ch ++ [prAt hs k]) _ (m1 + 1) _ _ _ _ _ _ _ (by omega) (by simp <;> omega) (by omega) Hln.out hC7 hch7 HOk.out hout7).mono ?_); rintro e w8 ⟨rfl, ⟨q8, n8, c8, rows8, ho8⟩, hF8⟩)))
               | go_simp
             refine hK.out _ _ ?_ (fun hHeld => ?_)
             · ((try dsimp only); first | exact ⟨hfn, kR1, hc, hcb⟩ | exact ⟨a0, a1, a2, a3⟩ | exact ⟨b0, b1, b2, b3⟩)
             clear hK K
             try simp only [Act.put, List.setIfInBounds_toArray, List.set_cons_zero, List.set_cons_succ])
        first
          | (refine WalkU.last (i := 16) rfl rfl (by kernel_rfl) (by kernel_rfl) (fun K hK => ?_)
             first
               | (first | (refine step_append_full rfl (.tmp 85) (.tmp 91) rfl _ L _ _ m1 c1 _ rfl hcod _ _ _ _ _ rfl (Box2.new wr.drew _ _ _) (by omega) ?_; intro p7 c7 W7 ho7 hb7; have hb8 : Below wr.heap.size wr W7 := (Below.step (Below.step (drewBelow wr) hbA) hb7); have b0 := Below.cells hb8 hfn; have b1 := Below.cells hb8 kR1; have b2 := Below.cells hb8 hc; have b3 := Below.cells hb8 hcb; have hC7 := hCr.below hb8; have hout7 := hout.below hb8; have hch7 := HPr.out _ _ _ (Chos.ofV hcl' hci hi1 hmd hdd (by simp; omega) ho7)) | (go_at_call 26; (with_reducible refine (Ih.out (k + 1) _ (ch ++ [prAt hs k]) _ (m1 + 1) _ _ _ _ _ _ _ (by omega) (by simp <;> omega) (by omega) Hln.out hC7 hch7 HOk.out hout7).mono ?_); rintro e w8 ⟨rfl, ⟨q8, n8, c8, rows8, ho8⟩, hF8⟩))
               | (go_simp; (first | (refine step_append_full rfl (.tmp 85) (.tmp 91) rfl _ L _ _ m1 c1 _ rfl hcod _ _ _ _ _ rfl (Box2.new wr.drew _ _ _) (by omega) ?_; intro p7 c7 W7 ho7 hb7; have hb8 : Below wr.heap.size wr W7 := (Below.step (Below.step (drewBelow wr) hbA) hb7); have b0 := Below.cells hb8 hfn; have b1 := Below.cells hb8 kR1; have b2 := Below.cells hb8 hc; have b3 := Below.cells hb8 hcb; have hC7 := hCr.below hb8; have hout7 := hout.below hb8; have hch7 := HPr.out _ _ _ (Chos.ofV hcl' hci hi1 hmd hdd (by simp; omega) ho7)) | (go_at_call 26; (with_reducible refine (Ih.out (k + 1) _ (ch ++ [prAt hs k]) _ (m1 + 1) _ _ _ _ _ _ _ (by omega) (by simp <;> omega) (by omega) Hln.out hC7 hch7 HOk.out hout7).mono ?_); rintro e w8 ⟨rfl, ⟨q8, n8, c8, rows8, ho8⟩, hF8⟩)))
               | go_simp
             refine hK.out _ _ ?_
             clear hK K
             try simp only [Act.put, List.setIfInBounds_toArray, List.set_cons_zero, List.set_cons_succ])
        go_wp2_with fail
        go_roundw
        case rel => exact ⟨k + 1, q8, n8, c8, rows8, by omega, by omega, by go_num, by rw [Hstep.out]; exact ho8, (hF.step hb8).trans hF8⟩
        case measure => simp [intOf]; omega
      · obtain rfl : k = n := by omega
        go_wp2_with fail
        go_end0
        rw [Hpt.out, hl.out]
        exact ⟨rfl, ⟨_, _, _, _, hout⟩, hF⟩

end Go.Proofs.YtpfklkmmhdpphaaGreatDoor
