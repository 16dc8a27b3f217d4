/- The reference's draws of regions: a half, a region. Conditions: sizes. -/
import Derived.Test.YtpfklkmmhdpphadGreatDoorMDrawS
import Derived.Test.YtpfklkmmhdpphadGreatDoorCopy2
import Derived.Deep.DeepCutAuto
namespace Go.Proofs.YtpfklkmmhdpphadGreatDoor
open Go.RowKit
set_option linter.unusedVariables false
set_option linter.unusedSimpArgs false
set_option maxRecDepth 100000

attribute [local go_sem ↓] Go.wp_at_zero Go.wp_at_succ

theorem madeOwn {w w1 : World} {n : Nat} (h : w1.ownsRow w.heap.size 3 1 (.slice (some ⟨w.heap.size, 0, none⟩) n n) n (madeCells (Value.int .i64 0).cells (n * 1)).toList) :
    Own w1 w.heap.size (w.heap.size + 1) (some ⟨w.heap.size, 0, none⟩) n n (List.replicate n 0) := by
  refine ⟨?_, fun a ha => by injection ha with ha; subst ha; exact Nat.lt_succ_self _⟩
  rw [made_zeros] at h
  exact h

/-- A half that was drawn. -/
def DrawnH (w : World) (g : Nat) (p : Option Addr) (n c : Nat) (xs : List Int) (m : Nat) (e : Ending) (w' : World) : Prop :=
  ∃ q d ys b, e = .returned (.agg #[.slice q m d, .int .i64 b]) ∧ Own w' w.heap.size w'.heap.size q m d ys ∧ Drawn1 w g p n c xs w'

set_option maxHeartbeats 2000000 in
theorem l4Half_any (g : Nat) (p : Option Addr) (n c m : Nat) (xs : List Int) (mi : Int) (w : World) (hmi : mi = (m : Int)) (hn : n ≤ 1048576) (hx : Cur w g p n c xs) (h1 : 1 ≤ m) (hm : m ≤ 3) :
    Calls Tryz.prog 70 #[.pointer (some ⟨g, 0, none⟩), .int .i64 mi] w (DrawnH w g p n c xs m) := by
  subst hmi
  have hgl := hx.lt
  have hB := boxed w (.cells #[.slice none 0 0, .int .i64 0] 36)
  have kr := Box2.new w (.slice none 0 0) (.int .i64 0) 36
  have hD0 := Drawn1.new hx hB
  have hs0 : (w.alloc (.cells #[.slice none 0 0, .int .i64 0] 36)).heap.size = w.heap.size + 1 := by simp
  go_enter Tryz.func70, Tryz.ntmps70
  go_wp2_with fail
  generalize w.alloc (.cells #[.slice none 0 0, .int .i64 0] 36) = W0 at *
  refine (l2Draw_any _ _ _ _ _ _ _ _ hn hD0.1 (by omega) (by omega) (by omega)).mono ?_
  rintro e w1 ⟨q, d, ys, rfl, hown, hys, hD1⟩
  have hD2 := hD0.step hD1
  have kr1 := kr.within hD1.2 (.inr (by omega))
  have hs1 := hD1.2.size
  have hown := hown.widen (lo' := w.heap.size + 1) (by omega) (Nat.le_refl _)
  obtain ⟨gq, rfl⟩ := hown.some_S (by omega)
  have HB : Hid (∀ k, k < ys.length → In62 (nth ys k)) := Lib.hid fun k hk => by
    have := hys k (by rw [← hown.len]; exact hk)
    unfold In62; omega
  clear hys
  by_cases h0 : gcdL ys = 0
  · have hc := hown.cell (k := 0) (by omega)
    have hf := hown.frozen 0
    have hbl := (hown.lt _ rfl).1
    dsimp only at hbl
    have hset := (hown.set 0 1).up
    have krs := kr1.other (a := ⟨gq, 0, none⟩) (.int .i64 1) (by dsimp only; omega)
    have hDs := hD2.low ((Below.refl (w.heap.size) w1).setCell (p := ⟨gq, 0, none⟩) (by dsimp only; omega) (.int .i64 1)) (Nat.le_refl _) hgl
    go_wp2_with fail
    refine (l2All_any _ _ _ _ _ (by omega) hown.ints HB.out).mono ?_
    rw [h0]
    rintro e w2 ⟨rfl, rfl⟩
    generalize nth ys 0 = y0 at *
    go_wp2_with fail
    generalize w1.setCell ⟨gq, 0, none⟩ (.int .i64 1) = W2 at *
    refine (l1Below_any _ _ _ _ _ _ _ hn hDs.1 (by omega) (by omega)).mono ?_
    rintro e w3 ⟨x, rfl, hx0, hx1, hD3⟩
    have hD4 := hDs.step hD3
    have hown4 := hset.within hD3.2 (.inr (by omega))
    have kr4 := krs.within hD3.2 (.inr (by omega))
    have r0 := kr4.c0
    have r1 := kr4.c1
    have f0 := kr4.fr 0
    have f1 := kr4.fr 1
    have kf := (kr4.set0 (.slice (some ⟨gq, 0, none⟩) m d)).set1 (.int .i64 (x - 2))
    have kf0 := kf.c0
    have kf1 := kf.c1
    go_wp2_with fail
    refine bodyPost_ret (v := .agg #[.slice (some ⟨gq, 0, none⟩) m d, .int .i64 (x - 2)]) (by simp [results, Tryz.results70, go_sem, kf0, kf1]) rfl ?_
    exact ⟨_, _, _, _, rfl, ((hown4.setBelow (a := ⟨_, _, none⟩) (by dsimp only; omega) _).setBelow (a := ⟨_, _, none⟩) (by dsimp only; omega) _).up.widen (by omega) (Nat.le_refl _),
      hD4.low (((Below.refl w.heap.size w3).setCell (p := ⟨_, _, none⟩) (by dsimp only; omega) _).setCell (p := ⟨_, _, none⟩) (by dsimp only; omega) _) (Nat.le_refl _) hgl⟩
  · have hne : (gcdL ys == 0) = false := by simpa using h0
    go_wp2_with fail
    refine (l2All_any _ _ _ _ _ (by omega) hown.ints HB.out).mono ?_
    rintro e w2 ⟨rfl, rfl⟩
    go_wp2_with fail
    refine (l1Below_any _ _ _ _ _ _ _ hn hD2.1 (by omega) (by omega)).mono ?_
    rintro e w3 ⟨x, rfl, hx0, hx1, hD3⟩
    have hD4 := hD2.step hD3
    have hown4 := hown.within hD3.2 (.inr (by omega))
    have kr4 := kr1.within hD3.2 (.inr (by omega))
    have r0 := kr4.c0
    have r1 := kr4.c1
    have f0 := kr4.fr 0
    have f1 := kr4.fr 1
    have kf := (kr4.set0 (.slice (some ⟨gq, 0, none⟩) m d)).set1 (.int .i64 (x - 2))
    have kf0 := kf.c0
    have kf1 := kf.c1
    go_wp2_with fail
    refine bodyPost_ret (v := .agg #[.slice (some ⟨gq, 0, none⟩) m d, .int .i64 (x - 2)]) (by simp [results, Tryz.results70, go_sem, kf0, kf1]) rfl ?_
    exact ⟨_, _, _, _, rfl, ((hown4.setBelow (a := ⟨_, _, none⟩) (by dsimp only; omega) _).setBelow (a := ⟨_, _, none⟩) (by dsimp only; omega) _).up.widen (by omega) (Nat.le_refl _),
      hD4.low (((Below.refl w.heap.size w3).setCell (p := ⟨_, _, none⟩) (by dsimp only; omega) _).setCell (p := ⟨_, _, none⟩) (by dsimp only; omega) _) (Nat.le_refl _) hgl⟩

/-- A region in the making. -/
structure Dr (w W : World) (g : Nat) (p : Option Addr) (n c : Nat) (xs : List Int) (m : Nat) (p' : Option Addr) (k c' : Nat) (rows : List Row) (hs : List Pr) : Prop where
  out : Box2 W (w.heap.size + 1) (.int .i64 m) (.slice p' k c') 26
  res : Box2 W w.heap.size (.int .i64 0) (.slice none 0 0) 26
  own : OwnP 36 W (w.heap.size + 2) W.heap.size p' k c' rows hs
  drawn : Drawn1 w g p n c xs W
  size : w.heap.size + 2 ≤ W.heap.size
  lens : Hid (∀ j, j < k → (nrm hs j).length = m)
  far : g < w.heap.size
theorem Dr.draws {w W W' : World} {g : Nat} {p : Option Addr} {n c : Nat} {xs : List Int} {m : Nat} {p' : Option Addr} {k c' : Nat} {rows : List Row} {hs : List Pr} (h : Dr w W g p n c xs m p' k c' rows hs) (hD : Drawn1 W g p n c xs W') : Dr w W' g p n c xs m p' k c' rows hs :=
  ⟨h.out.within hD.2 (.inr (by have := h.far; omega)), h.res.within hD.2 (.inr h.far), (h.own.within hD.2 (.inr (by have := h.far; omega))).up, h.drawn.step hD, Nat.le_trans h.size hD.2.size, h.lens, h.far⟩
theorem Dr.below {w W W' : World} {g : Nat} {p : Option Addr} {n c : Nat} {xs : List Int} {m : Nat} {p' : Option Addr} {k c' : Nat} {rows : List Row} {hs : List Pr} (h : Dr w W g p n c xs m p' k c' rows hs) (hb : Below W.heap.size W W') : Dr w W' g p n c xs m p' k c' rows hs :=
  h.draws (Drawn1.new h.drawn.1 hb)
/-- A half is put behind. -/
theorem Dr.app {w W W' : World} {g : Nat} {p : Option Addr} {n c : Nat} {xs : List Int} {m : Nat} {p' p3 : Option Addr} {k c' c3 : Nat} {rows : List Row} {hs : List Pr} (h : Dr w W g p n c xs m p' k c' rows hs)
    {mid hi : Nat} (hmid : OwnP 36 W (w.heap.size + 2) mid p' k c' rows hs) (hm2 : w.heap.size + 2 ≤ mid) {q : Option Addr} {d : Nat} {ys : List Int} {b : Int} (hr : Own W mid hi q m d ys)
    (hv : OwnV W' 36 2 (w.heap.size + 2) W'.heap.size p3 (k + 1) c3 (pcells rows hs ++ [.slice q m d, .int .i64 b])) (hg : Grow (W.alloc (.cells #[.slice q m d, .int .i64 b] 36)) W' p' p3) :
    Dr w (W'.setCell ⟨w.heap.size + 1, 1, none⟩ (.slice p3 (k + 1) c3)) g p n c xs m p3 (k + 1) c3 (rows ++ [(q, m, d)]) (hs ++ [(ys, b)]) := by
  have hsz := h.size
  have hfar := h.far
  have hlt : ∀ a, p' = some a → w.heap.size + 2 ≤ a.block := fun a ha => (h.own.outer.lt a ha).1
  have h3 := hmid.app halfNe hr hm2 (boxed _ _) hv hg
  have ko := (h.out.alloc (.cells #[.slice q m d, .int .i64 b] 36)).grow hg (fun a ha => by have := hlt a ha; omega)
  have kr := (h.res.alloc (.cells #[.slice q m d, .int .i64 b] 36)).grow hg (fun a ha => by have := hlt a ha; omega)
  have hb : Below (w.heap.size + 2) W W' := ((Below.refl _ _).alloc hsz _).trans (hg.below (by simp; omega) hlt)
  have hs3 := hb.size
  have hcnt := h.own.count
  have hlen := h.own.len
  have hl := h.lens.out
  refine ⟨ko.set1 _, kr.other _ (by dsimp only; omega), (h3.setBelow (by dsimp only; omega) _).up, ?_, ?_, Lib.hid fun j hj => ?_, hfar⟩
  · exact (h.drawn.low hb (by omega) (by omega)).low ((Below.refl w.heap.size W').setCell (p := ⟨_, _, none⟩) (by dsimp only; omega) _) (Nat.le_refl _) hfar
  · simp [World.setCell]; omega
  · by_cases hjk : j < k
    · rw [show nrm (hs ++ [(ys, b)]) j = nrm hs j by unfold nrm; rw [prAt_app (by omega)]]
      exact hl j hjk
    · obtain rfl : j = hs.length := by omega
      rw [show nrm (hs ++ [(ys, b)]) hs.length = ys by unfold nrm; rw [prAt_last]]
      exact hr.len

/-- A region that was drawn. -/
def DrawnR (w : World) (g : Nat) (p : Option Addr) (n c : Nat) (xs : List Int) (m : Nat) (e : Ending) (w' : World) : Prop :=
  ∃ q k d hs, e = .returned (.agg #[.int .i64 m, .slice q k d]) ∧ OwnPM 36 w' w.heap.size w'.heap.size q k d hs ∧ 1 ≤ k ∧ k ≤ 6 ∧ Hid (∀ j, j < k → (nrm hs j).length = m) ∧ Drawn1 w g p n c xs w'

set_option maxHeartbeats 4000000 in
theorem l4Draw_any (g : Nat) (p : Option Addr) (n c m : Nat) (xs : List Int) (mi : Int) (w : World) (hmi : mi = (m : Int)) (hn : n ≤ 1048576) (hx : Cur w g p n c xs) (h1 : 1 ≤ m) (hm : m ≤ 3) :
    Calls Tryz.prog 38 #[.pointer (some ⟨g, 0, none⟩), .int .i64 mi] w (DrawnR w g p n c xs m) := by
  subst hmi
  have hgl := hx.lt
  obtain ⟨i0, hi0, hz0, hz1, hz2⟩ := info_parts Tryz.infoInt
  have hby : i0.bytes * m ≤ 281474976710656 := by rw [hz2]; omega
  have hml : m ≤ maxLen := by unfold maxLen; omega
  have hB := boxed2 w (.cells #[.int .i64 0, .slice none 0 0] 26) (.cells #[.int .i64 m, .slice none 0 0] 26)
  have kr : Box2 ((w.alloc (.cells #[.int .i64 0, .slice none 0 0] 26)).alloc (.cells #[.int .i64 m, .slice none 0 0] 26)) w.heap.size (.int .i64 0) (.slice none 0 0) 26 := (Box2.new w _ _ _).alloc _
  have ko : Box2 ((w.alloc (.cells #[.int .i64 0, .slice none 0 0] 26)).alloc (.cells #[.int .i64 m, .slice none 0 0] 26)) (w.heap.size + 1) (.int .i64 m) (.slice none 0 0) 26 := by
    have h := Box2.new (w.alloc (.cells #[.int .i64 0, .slice none 0 0] 26)) (.int .i64 m) (.slice none 0 0) 26
    rwa [World.size_alloc] at h
  have hsz : w.heap.size + 2 ≤ ((w.alloc (.cells #[.int .i64 0, .slice none 0 0] 26)).alloc (.cells #[.int .i64 m, .slice none 0 0] 26)).heap.size := by simp
  go_enter Tryz.func38, Tryz.ntmps38
  go_wp2_with fail
  generalize (w.alloc (.cells #[.int .i64 0, .slice none 0 0] 26)).alloc (.cells #[.int .i64 m, .slice none 0 0] 26) = W0 at *
  have dr : Dr w W0 g p n c xs m none 0 0 [] [] := ⟨ko, kr, OwnP.nil _ _ _ _, Drawn1.new hx hB, hsz, Lib.hid fun j hj => by omega, hgl⟩
  clear ko kr hB hsz
  refine (l1Once_any _ _ _ _ _ _ _ hn dr.drawn.1 (by omega) (by omega)).mono ?_
  rintro e w1 ⟨t, rfl, hD⟩
  have dr1 := dr.draws hD
  clear dr hD
  go_upto_if 13 with fail
  go_cut [] (fun wx => ∃ (q : Option Addr) (k d : Nat) (rows : List Row) (hs : List Pr), k ≤ 3 ∧ Dr w wx g p n c xs m q k d rows hs)
  case first =>
    cases t
    · go_wp2_with fail
      go_meet
      exact ⟨_, _, _, _, _, by omega, dr1⟩
    · go_wp2_with fail
      go_loopw [6] (fun i wr => ∃ (k : Nat) (q : Option Addr) (d : Nat) (rows : List Row) (hs : List Pr), k ≤ m ∧ i = .int .i64 k ∧ Dr w wr g p n c xs m q k d rows hs) (fun i _ => m - (intOf i).toNat)
      case atStart => exact ⟨0, _, _, _, _, Nat.zero_le _, rfl, dr1⟩
      case round =>
        clear dr1
        obtain ⟨k, q, d, rows, hs, hk, rfl, dr⟩ := hrel
        by_cases hlt : k < m
        · have hd1 : decide ((k : Int) < (m : Int)) = true := by simp; omega
          generalize wr = W at *
          have hsW := dr.size
          go_wp2_with (at_make; refine wpList_make_full _ rfl _ _ 27 rfl W.heap.size 3 i0 (.int .i64 0) 1 Tryz.underlying27 hi0 hz0 hz1 .i64 .i64 _ _ m rfl rfl rfl rfl hby hml (Nat.le_refl _) ?_; intro w2 hmade hgrow; have ho0 := madeOwn hmade; have hc := ho0.cell hlt; have hf := ho0.frozen k)
          have hb0 : Below W.heap.size W w2 := (Below.refl _ _).grown hgrow (Nat.le_refl _) (fun k hk => by cases hk)
          clear hmade hgrow
          have hset := ho0.set k (-1)
          have hbs : Below W.heap.size W (w2.setCell ⟨W.heap.size, k, none⟩ (.int .i64 (-1))) := hb0.setCell (p := ⟨_, _, none⟩) (Nat.le_refl _) _
          have dr3 := dr.below hbs
          have own3 := dr.own.below hbs
          have hsV := hbs.size
          generalize w2.setCell ⟨W.heap.size, k, none⟩ (.int .i64 (-1)) = V at *
          clear ho0 hb0 hc hf dr
          have dr4 := dr3.below (drewBelow V)
          have own4 := own3.drew
          have hset4 := hset.drew
          have ka := dr3.out.c1
          go_region_law (first | (go_simp; go_at_call 47; refine (l1Below_any _ _ _ _ _ _ _ hn dr4.drawn.1 (by omega) (by omega)).mono ?_; rintro e w4 ⟨b, rfl, hb0', hb1', hD4⟩; have dr5 := dr4.draws hD4; have own5 := own4.within hD4.2 (.inr (by omega)); have row5 := hset4.within hD4.2 (.inr (by omega)); have kb := dr5.out.c1; have kb2 := (dr5.out.alloc (.cells #[.slice (some ⟨W.heap.size, 0, none⟩) m m, .int .i64 b] 36)).c1; have hs5 := dr5.size) | (refine step_append_half rfl (.tmp 25) (.tmp 30) rfl _ (w.heap.size + 2) _ _ _ _ _ rfl (own5.outer.alloc _) _ _ _ _ _ rfl (Box2.new _ _ _ _) (by omega) (by simp; omega) ?_; intro p3 c3 w3 ho3 hg3; have ko3 := (dr5.out.alloc _).grow hg3 (fun a ha => by have := (own5.outer.lt a ha).1; omega); have kof := ko3.fr 1; have koc4 := ko3.c1))
          all_goals
            have drN := dr5.app own5 (by omega) row5 ho3 hg3
            go_wp2
            go_roundw
            case rel => exact ⟨k + 1, _, _, _, _, by omega, by go_num, drN⟩
            case measure => simp [intOf]; omega
        · obtain rfl : k = m := by omega
          go_wp2_with fail
          go_meet
          exact ⟨_, _, _, _, _, by omega, dr⟩
  clear dr1
  obtain ⟨q0, k0, d0, rows0, hs0, hk0, dr0⟩ := hcut
  go_wp2_with fail
  refine (l1Below_any _ _ _ _ _ _ _ hn dr0.drawn.1 (by omega) (by omega)).mono ?_
  rintro e w2 ⟨x, rfl, hx0, hx1, hD⟩
  have dr1 := dr0.draws hD
  clear dr0 hD
  obtain ⟨z, hz⟩ : ∃ z : Nat, 1 + x = (z : Int) := ⟨(1 + x).toNat, by omega⟩
  have hz1 : 1 ≤ z := by omega
  have hz3 : z ≤ 3 := by omega
  go_wp2_with fail
  go_loopw [9] (fun i wr => ∃ (j k : Nat) (q : Option Addr) (d : Nat) (rows : List Row) (hs : List Pr), j ≤ z ∧ j ≤ k ∧ k ≤ 3 + j ∧ i = .int .i64 j ∧ Dr w wr g p n c xs m q k d rows hs) (fun i _ => z - (intOf i).toNat)
  case atStart => exact ⟨0, _, _, _, _, _, Nat.zero_le _, Nat.zero_le _, by omega, rfl, dr1⟩
  case round =>
    clear dr1
    obtain ⟨j, k, q, d, rows, hs, hj, hjk, hk, rfl, dr⟩ := hrel
    by_cases hlt : j < z
    · have hd1 : decide ((j : Int) < (z : Int)) = true := by simp; omega
      generalize wr = V at *
      have hsV := dr.size
      have dr4 := dr.below (drewBelow V)
      have own4 := dr.own.drew
      have ka := dr.out.c1
      go_wp2_with fail
      go_region_law (first | (go_simp; go_at_call 70; refine (l4Half_any _ _ _ _ m _ _ _ rfl hn dr4.drawn.1 h1 hm).mono ?_; rintro e w4 ⟨q4, d4, ys, b, rfl, ho4, hD4⟩; have dr5 := dr4.draws hD4; have own5 := own4.within hD4.2 (.inr (by omega)); have kb := dr5.out.c1; have kb2 := (dr5.out.alloc (.cells #[.slice q4 m d4, .int .i64 b] 36)).c1; have hs5 := dr5.size) | (refine step_append_half rfl (.tmp 42) (.tmp 46) rfl _ (w.heap.size + 2) _ _ _ _ _ rfl (own5.outer.alloc _) _ _ _ _ _ rfl (Box2.new _ _ _ _) (by omega) (by simp; omega) ?_; intro p3 c3 w3 ho3 hg3; have ko3 := (dr5.out.alloc _).grow hg3 (fun a ha => by have := (own5.outer.lt a ha).1; omega); have kof := ko3.fr 1; have koc4 := ko3.c1))
      all_goals
        have drN := dr5.app own5 (by omega) ho4 ho3 hg3
        go_wp2
        go_roundw
        case rel => exact ⟨j + 1, k + 1, _, _, _, _, by omega, by omega, by omega, by go_num, drN⟩
        case measure => simp [intOf]; omega
    · obtain rfl : j = z := by omega
      have hsV := dr.size
      have r0 := dr.res.c0
      have r1 := dr.res.c1
      have f0 := dr.res.fr 0
      have f1 := dr.res.fr 1
      have o0 := dr.out.c0
      have o1 := dr.out.c1
      have kf := (dr.res.set0 (.int .i64 m)).set1 (.slice q k d)
      have kf0 := kf.c0
      have kf1 := kf.c1
      go_wp2_with fail
      refine bodyPost_ret (v := .agg #[.int .i64 m, .slice q k d]) (by simp [results, Tryz.results38, go_sem, kf0, kf1]) rfl ?_
      exact ⟨_, _, _, _, rfl, ⟨_, ((dr.own.setBelow (a := ⟨_, _, none⟩) (by dsimp only; omega) _).setBelow (a := ⟨_, _, none⟩) (by dsimp only; omega) _).up.widen (by omega) (Nat.le_refl _)⟩, by omega, by omega, dr.lens,
        dr.drawn.low (((Below.refl w.heap.size wr).setCell (p := ⟨_, _, none⟩) (by dsimp only; omega) _).setCell (p := ⟨_, _, none⟩) (by dsimp only; omega) _) (Nat.le_refl _) hgl⟩

end Go.Proofs.YtpfklkmmhdpphadGreatDoor
