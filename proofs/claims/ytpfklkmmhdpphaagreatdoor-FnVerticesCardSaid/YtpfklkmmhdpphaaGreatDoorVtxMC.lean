/- Texts joined: VtxD VtxE VtxF VtxL. -/
import Derived.Test.YtpfklkmmhdpphaaGreatDoorVtxMB
import Derived.Test.YtpfklkmmhdpphaaGreatDoorVtxShelf
import Derived.Lib.OwnBridge
import Derived.Lib.QuietBelow
import Derived.Lib.SliceRun
import Derived.Test.YtpfklkmmhdpphaaGreatDoorReg
import Derived.Laws.EntriesVeiled
set_option maxRecDepth 4000

/- VerticesOf: the program's sort of points. Conditions: sizes, reduced fractions. -/
namespace Go.Proofs.YtpfklkmmhdpphaaGreatDoor
open Go.RowKit
set_option linter.unusedVariables false
set_option linter.unusedSimpArgs false
set_option maxRecDepth 100000

set_option maxHeartbeats 1000000 in
theorem compareFractions_drew (p q : Option Addr) (n c d : Nat) (xs ys : List Int) (a b : Int) (w : World) (hn : n ≤ 9223372036854775807) (hx : Ints w p n xs) (hy : Ints w q n ys) (W0 : World) (hW0 : Hid (W0 = (w.alloc (.cells #[.slice p n c, .int .i64 a] 32)).alloc (.cells #[.slice q n d, .int .i64 b] 32))) :
    Calls Tryz.prog 33 #[.agg #[.slice p n c, .int .i64 a], .agg #[.slice q n d, .int .i64 b]] w fun e w' => e = .returned (.int .i64 (fracCmp xs a ys b)) ∧ ∃ z, w' = W0.drewN z := by
  have hl := Lib.hid hx.len
  have hl2 := Lib.hid hy.len
  obtain ⟨k0, k1, k2, k3⟩ := box2c w (.slice p n c) (.int .i64 a) (.slice q n d) (.int .i64 b) 32 32
  have hb0 := boxed2 w (.cells #[.slice p n c, .int .i64 a] 32) (.cells #[.slice q n d, .int .i64 b] 32)
  have hx0 := (hx.alloc (.cells #[.slice p n c, .int .i64 a] 32)).alloc (.cells #[.slice q n d, .int .i64 b] 32)
  have hy0 := (hy.alloc (.cells #[.slice p n c, .int .i64 a] 32)).alloc (.cells #[.slice q n d, .int .i64 b] 32)
  go_enter Tryz.func33, Tryz.ntmps33
  go_wp2
  generalize (w.alloc (.cells #[.slice p n c, .int .i64 a] 32)).alloc (.cells #[.slice q n d, .int .i64 b] 32) = W at *
  go_loopw [10] (fun i wr => ∃ k : Nat, k ≤ n ∧ i = .int .i64 k ∧ Hid (cmpL ((scaleW xs b).drop k) ((scaleW ys a).drop k) = fracCmp xs a ys b) ∧ Drawn W wr) (fun i _ => n - (intOf i).toNat)
  case atStart => exact ⟨0, Nat.zero_le _, rfl, rfl, Drawn.refl _⟩
  case round =>
    obtain ⟨k, hk, rfl, hcm, hD⟩ := hrel
    have k0 := (hD.cell _).trans k0
    have k1 := (hD.cell _).trans k1
    have k2 := (hD.cell _).trans k2
    have k3 := (hD.cell _).trans k3
    by_cases hlt : k < n
    · obtain ⟨b1, o1, rfl, hc⟩ := (hD.ints hx0).cell k hlt
      obtain ⟨b2, o2, rfl, hc2⟩ := (hD.ints hy0).cell k hlt
      have e1 := scaleW_nth (xs := xs) (q := b) (k := k) (by rw [hl.out]; exact hlt)
      have e2 := scaleW_nth (xs := ys) (q := a) (k := k) (by rw [hl2.out]; exact hlt)
      by_cases h0 : cmpI (wrap64 (nth xs k * b)) (wrap64 (nth ys k * a)) = 0
      · have h0' : (cmpI (wrap64 (nth xs k * b)) (wrap64 (nth ys k * a)) != 0) = false := by simp [h0]
        have H0 := Lib.hid h0
        have E1 := Lib.hid e1
        have E2 := Lib.hid e2
        clear h0 e1 e2
        go_wp2
        go_quiet ((go_at_call 65; rw [wrapEq, wrapEq]; exact Calls.quiet_of (qs (cmpCompare_any _ _ _))))
        go_wp2
        go_roundw
        case rel => exact ⟨k + 1, by omega, by go_num, (cmpL_step (by rw [scaleW_length, hl.out]; exact hlt) (by rw [scaleW_length, hl2.out]; exact hlt) (by rw [E1.out, E2.out]; exact H0.out)).symm.trans hcm.out, hD.more _⟩
        case measure => simp [intOf]; omega
      · have h0' : (cmpI (wrap64 (nth xs k * b)) (wrap64 (nth ys k * a)) != 0) = true := by simp [h0]
        have H0 := Lib.hid h0
        have E1 := Lib.hid e1
        have E2 := Lib.hid e2
        clear h0 e1 e2
        go_wp2
        go_quiet ((go_at_call 65; rw [wrapEq, wrapEq]; exact Calls.quiet_of (qs (cmpCompare_any _ _ _))))
        go_wp2
        go_ret
        refine ⟨ret_int ?_, by rw [hW0.out]; exact hD.more _⟩
        rw [← hcm.out, cmpL_stop (by rw [scaleW_length, hl.out]; exact hlt) (by rw [scaleW_length, hl2.out]; exact hlt) (by rw [E1.out, E2.out]; exact H0.out), E1.out, E2.out]
    · go_wp2
      go_ret
      refine ⟨ret_int ?_, by rw [hW0.out]; exact hD⟩
      have := hcm.out
      rw [List.drop_eq_nil_of_le (by rw [scaleW_length, hl.out]; omega), List.drop_eq_nil_of_le (by rw [scaleW_length, hl2.out]; omega)] at this
      exact this

def rAt (R : List Row) (i : Nat) : Row := R.getD i (none, 0, 0)
theorem rAt_eq {R : List Row} {i : Nat} (h : i < R.length) : rAt R i = R[i] := by simp [rAt, List.getD, h]
/-- The cells of the points numbered by seq. -/
def scells (R : List Row) (hs : List Pr) (seq : List Nat) : List Value := pcells (seq.map (rAt R)) (seq.map (prAt hs))
theorem scells_length (R : List Row) (hs : List Pr) (seq : List Nat) : (scells R hs seq).length = seq.length * 2 := by rw [scells, pcells_length (by simp), List.length_map]
/-- The points, in an order of their own. -/
structure PrsS (lo : Nat) (B : Nat) (W : World) (g n c : Nat) (R : List Row) (hs : List Pr) (seq : List Nat) : Prop where
  hdr : OwnV W 32 2 lo (g + 1) (some ⟨g, 0, none⟩) n c (scells R hs seq)
  row : ∀ i, i < n → Own W lo B (rAt R i).1 (rAt R i).2.1 (rAt R i).2.2 (nrm hs i)
  gB : g < B
  len : seq.length = n
  lt : ∀ i ∈ seq, i < n

theorem PrsS.written {lo B : Nat} {W W' : World} {g n c : Nat} {R : List Row} {hs : List Pr} {seq seq' : List Nat} (h : PrsS lo B W g n c R hs seq) (hw : Within g (g + 1) W W') (hd : OwnV W' 32 2 lo (g + 1) (some ⟨g, 0, none⟩) n c (scells R hs seq')) (hl : seq'.length = n) (hlt : ∀ i ∈ seq', i < n) : PrsS lo B W' g n c R hs seq' :=
  ⟨hd, fun i hi => (h.row i hi).kept (q := some ⟨g, 0, none⟩) hw.grownAt (h.hdr.ne (h.row i hi).v ratNe), h.gB, hl, hlt⟩
theorem PrsS.below {lo B : Nat} {W W' : World} {g n c : Nat} {R : List Row} {hs : List Pr} {seq : List Nat} (h : PrsS lo B W g n c R hs seq) (hb : Below W.heap.size W W') : PrsS lo B W' g n c R hs seq :=
  ⟨h.hdr.below hb, fun i hi => (h.row i hi).below hb, h.gB, h.len, h.lt⟩

theorem within_putV {α : Type} [Inhabited α] (enc : α → Value) (w : World) (g m : Nat) (d : Array α) : Within g (g + 1) w (Sort.putRow enc (Sort.ahead w m) g 0 d) :=
  ⟨rfl, rfl, rfl, by simp [Sort.putRow, Sort.mapBlock, Sort.ahead], fun k hk hd => by
    simp [Sort.putRow, Sort.mapBlock, Sort.ahead, Array.getElem?_modify, show g ≠ k by omega]⟩
theorem below_growV (w : World) (os : Array Obj) : Below w.heap.size w (Sort.grow w os) :=
  ⟨rfl, rfl, rfl, by simp [Sort.grow], fun k hk => by simp [Sort.grow, Array.getElem?_append, hk]⟩
theorem ownsRow_put2 {w : World} {base : Nat} {e : TypeId} {g n cap q : Nat} {xs : List Value} (F : Array Value) (h : w.ownsRow base e 2 (.slice (some ⟨g, 0, none⟩) n cap) n xs) (hF : F.size = n * 2) :
    (Sort.putRow id (Sort.ahead w q) g 0 F).ownsRow base e 2 (.slice (some ⟨g, 0, none⟩) n cap) n F.toList := by
  rcases h.2 with ⟨e0, _⟩ | ⟨g', cap', cur, e0, hb, hg, hn, hm, hs, ht⟩
  · cases e0
  · injection e0 with e1 _ e3
    injection e1 with e1
    injection e1 with e1
    subst e1; subst e3
    refine ⟨by simpa using hF, .inr ⟨g, cap, Sort.putCells id 0 F cur, rfl, hb, ?_, by omega, hm, by simpa [Sort.putCells] using hs, ?_⟩⟩
    · simp [Sort.putRow, Sort.mapBlock, Sort.ahead, Array.getElem?_modify, hg, Sort.onCells]
    · apply List.ext_getElem?
      intro j
      rw [List.getElem?_take, Array.getElem?_toList, Array.getElem?_toList]
      by_cases hj : j < n * 2
      · have hm2 : n * 2 ≤ cap * 2 := Nat.mul_le_mul_right _ hn
        have hjc : j < cur.size := by omega
        simp only [if_pos hj, Sort.putCells, Array.getElem?_mapIdx, Array.getElem?_eq_getElem hjc, Option.map_some]
        rw [if_pos (by simp; omega), Array.getElem?_eq_getElem (by omega)]
        simp [getElem!_pos, show j < F.size by omega]
      · rw [if_neg hj, Array.getElem?_eq_none (by omega)]

/-- A point's cells, the number kept within the list. -/
def encV (R : List Row) (hs : List Pr) (n : Nat) (i : Nat) : List Value := [Row.val (rAt R (min i (n - 1))), .int .i64 (bnd hs (min i (n - 1)))]
theorem flat_scells {R : List Row} {hs : List Pr} {n : Nat} {seq : List Nat} (h : ∀ i ∈ seq, i < n) : (Sort.flatK (encV R hs n) 2 seq.toArray).toList = scells R hs seq := by
  refine List.ext_getElem? fun j => ?_
  rw [Array.getElem?_toList]
  by_cases hj : j < seq.length * 2
  · have hk : j / 2 < seq.length := by omega
    have hsz : j < (Sort.flatK (encV R hs n) 2 seq.toArray).size := by simp; omega
    have h1 := Sort.get_flatK (encV R hs n) 2 seq.toArray j (by simpa using hj)
    rw [getElem!_pos (Sort.flatK (encV R hs n) 2 seq.toArray) j hsz] at h1
    rw [Array.getElem?_eq_getElem hsz, h1]
    have hin := h (seq[j / 2]) (List.getElem_mem hk)
    rw [getElem!_pos seq.toArray (j / 2) (by simpa using hk), List.getElem_toArray]
    have hr := pcells_row (rows := seq.map (rAt R)) (hs := seq.map (prAt hs)) (by simp) (k := j / 2) (by simpa using hk)
    rw [List.getElem_map] at hr
    have hb : bnd (seq.map (prAt hs)) (j / 2) = bnd hs seq[j / 2] := by rw [bnd, prAt_eq (by simpa using hk), List.getElem_map]; rfl
    rw [hb] at hr
    have hmn : min seq[j / 2] (n - 1) = seq[j / 2] := by omega
    rcases Nat.mod_two_eq_zero_or_one j with e | e
    · have : j = j / 2 * 2 := by omega
      rw [e]
      conv => rhs; rw [scells, this]
      rw [hr.1, encV, hmn]; rfl
    · have : j = j / 2 * 2 + 1 := by omega
      rw [e]
      conv => rhs; rw [scells, this]
      rw [hr.2, encV, hmn]; rfl
  · rw [Array.getElem?_eq_none (by simp; omega), List.getElem?_eq_none (by rw [scells_length]; omega)]

theorem Tryz.aRat : ∀ w, (isAgg 32).run Tryz.prog w = .ok true w := Tryz.isAgg32
theorem Tryz.zRat : ∀ w, (Go.sizeOf 32).run Tryz.prog w = .ok 2 w := Tryz.sizeOf32
theorem ltOf_swo {D : Nat} (f : Nat → Pr) (h : ∀ i, Red D (f i)) : Sort.SWO (ltOf fun i j : Nat => cmpP (f i) (f j)) := by
  have hlt : ∀ x y : Nat, ltOf (fun i j => cmpP (f i) (f j)) x y = decide (cmpP (f x) (f y) < 0) := fun _ _ => rfl
  exact ⟨fun x => by rw [hlt, cmpP_me]; simp, fun x y z h1 h2 => by rw [hlt] at *; simp only [decide_eq_true_eq] at *; exact cmpP_tr (h x) (h y) (h z) h1 h2,
    fun x y z h1 h2 => by rw [hlt] at *; simp only [decide_eq_false_iff_not] at *; exact cmpP_ntr (h x) (h y) (h z) h1 h2⟩

set_option maxHeartbeats 1000000 in
theorem sortV_any {D lo : Nat} {w : World} {g n c : Nat} {R : List Row} {hs : List Pr} (h : PrsS lo w.heap.size w g n c R hs (List.range n)) (h1 : 1 ≤ n) (hn : n ≤ 1000000) (hred : ∀ i, i < n → Red D (prAt hs i)) (hD : D ≤ 3) :
    Calls Tryz.prog 32 #[.slice (some ⟨g, 0, none⟩) n c, .func (.func 33) #[] #[]] w fun e w' => e = .returned (.tuple #[]) ∧ ∃ seq, PrsS lo w.heap.size w' g n c R hs seq ∧ Within g (g + 1) w w' ∧ (∀ i, i ∈ seq ↔ i < n) ∧ seq.Nodup ∧ (seq.map (prAt hs)).Pairwise (fun a b => ¬ cmpP b a < 0) := by
  have hgw := h.gB
  have hclamp : ∀ i, min i (n - 1) < n := fun i => by omega
  have hO := ltOf_swo (fun i => prAt hs (min i (n - 1))) (fun i => hred _ (hclamp i))
  have hlt : ∀ x y : Nat, ltOf (fun i j => cmpP (prAt hs (min i (n - 1))) (prAt hs (min j (n - 1)))) x y = decide (cmpP (prAt hs (min x (n - 1))) (prAt hs (min y (n - 1))) < 0) := fun _ _ => rfl
  have eg : ∀ args w, (callFunc 33 args).run Tryz.prog w = .ok (.enter 33 args) w := enters_of Tryz.func33 (by kernel_rfl) rfl
  have hsz : (List.range n).toArray.size = n := by simp
  have hcmp : CmpLays Tryz.prog 33 #[] (encV R hs n) 2 (fun i j => cmpP (prAt hs (min i (n - 1))) (prAt hs (min j (n - 1)))) g 0 (List.range n).toArray.size w := fun m os dk _ x y => by
    have hw := within_putV id w g m (Sort.flatK (encV R hs n) 2 dk)
    have hW : ∀ i : Nat, Own (sortWorldK (encV R hs n) 2 w g 0 m dk os) lo w.heap.size (rAt R (min i (n - 1))).1 (rAt R (min i (n - 1))).2.1 (rAt R (min i (n - 1))).2.2 (nrm hs (min i (n - 1))) := fun i =>
      ((h.row _ (hclamp i)).kept (q := some ⟨g, 0, none⟩) hw.grownAt (h.hdr.ne (h.row _ (hclamp i)).v ratNe)).below (below_growV _ os)
    have ix := hW x
    have iy := hW y
    have lx : (rAt R (min x (n - 1))).2.1 = D := ix.len.symm.trans (hred _ (hclamp x)).len
    have ly : (rAt R (min y (n - 1))).2.1 = D := iy.len.symm.trans (hred _ (hclamp y)).len
    have hc := compareFractions_drew (rAt R (min x (n - 1))).1 (rAt R (min y (n - 1))).1 D (rAt R (min x (n - 1))).2.2 (rAt R (min y (n - 1))).2.2 (nrm hs (min x (n - 1))) (nrm hs (min y (n - 1))) (bnd hs (min x (n - 1))) (bnd hs (min y (n - 1))) (sortWorldK (encV R hs n) 2 w g 0 m dk os) (by omega) (lx ▸ ix.ints) (ly ▸ iy.ints) _ (Lib.hid rfl)
    have e1 : (encV R hs n x).toArray = #[.slice (rAt R (min x (n - 1))).1 D (rAt R (min x (n - 1))).2.2, .int .i64 (bnd hs (min x (n - 1)))] := by rw [encV, Row.val, lx]
    have e2 : (encV R hs n y).toArray = #[.slice (rAt R (min y (n - 1))).1 D (rAt R (min y (n - 1))).2.2, .int .i64 (bnd hs (min y (n - 1)))] := by rw [encV, Row.val, ly]
    rw [e1, e2]
    refine hc.mono ?_
    rintro e w' ⟨he, z, hw'⟩
    refine ⟨he, z, #[.cells #[.slice (rAt R (min x (n - 1))).1 D (rAt R (min x (n - 1))).2.2, .int .i64 (bnd hs (min x (n - 1)))] 32, .cells #[.slice (rAt R (min y (n - 1))).1 D (rAt R (min y (n - 1))).2.2, .int .i64 (bnd hs (min y (n - 1)))] 32], ?_⟩
    rw [hw', Sort.alloc_eq_grow, Sort.alloc_eq_grow, Sort.grow_grow]
    rfl
  have hH : Sort.HoldsK (encV R hs n) 2 w g 0 (List.range n).toArray := fun j hj => by
    have hj2 : j < n * 2 := by simpa using hj
    refine ⟨?_, h.hdr.frozen _⟩
    rw [Nat.zero_add, h.hdr.cell hj2, ← flat_scells (n := n) (fun i hi => by simpa using hi), Array.getElem?_toList, Array.getElem?_eq_getElem hj, getElem!_pos (Sort.flatK (encV R hs n) 2 (List.range n).toArray) j hj]; rfl
  have hc := AnyQ.slices_SortFunc Tryz.laysSortRat 2 Tryz.aRat Tryz.zRat (encV R hs n) (fun _ => rfl) (fun x v hv => by simp [encV] at hv; rcases hv with rfl | rfl <;> rfl) (fun i j => cmpP (prAt hs (min i (n - 1))) (prAt hs (min j (n - 1)))) hO 33 #[] g 0 c (List.range n).toArray w eg hcmp hH hgw (by simp; omega)
  rw [hsz] at hc
  refine hc.mono ?_
  rintro e w' ⟨he, d', m, os, hp, hs', rfl⟩
  have hsd : d'.size = n := by have := hp.1; simpa using this
  have hpm : d'.toList.Perm (List.range n) := by
    have := hp.2.2
    rw [show d'.extract 0 n = d' by rw [← hsd]; simp, show (List.range n).toArray.extract 0 n = (List.range n).toArray by
      conv => lhs; arg 3; rw [← hsz]
      simp] at this
    exact this
  have hmem : ∀ i, i ∈ d'.toList ↔ i < n := fun i => by rw [hpm.mem_iff]; simp
  have hlen : d'.toList.length = n := by simpa using hsd
  have hwi := within_putV id w g m (Sort.flatK (encV R hs n) 2 d')
  have hbg := below_growV (Sort.putRow id (Sort.ahead w m) g 0 (Sort.flatK (encV R hs n) 2 d')) os
  have hown : OwnV (Sort.putRow id (Sort.ahead w m) g 0 (Sort.flatK (encV R hs n) 2 d')) 32 2 lo (g + 1) (some ⟨g, 0, none⟩) n c (scells R hs d'.toList) := by
    refine ⟨?_, h.hdr.top⟩
    have := ownsRow_put2 (q := m) (Sort.flatK (encV R hs n) 2 d') h.hdr.row (by simp [hsd])
    rw [show d' = d'.toList.toArray by simp, flat_scells (fun i hi => (hmem i).1 hi)] at this
    simpa using this
  have hP := h.written hwi hown hlen (fun i hi => (hmem i).1 hi)
  refine ⟨he, d'.toList, hP.below hbg, hwi.trans (Within.of_below hbg), hmem, hpm.nodup_iff.2 List.nodup_range, ?_⟩
  rw [List.pairwise_map, List.pairwise_iff_getElem]
  intro i j hi hj hij
  have := hs' i j (Nat.zero_le _) hij (by omega)
  rw [hlt] at this
  simp only [decide_eq_false_iff_not] at this
  rw [getElem!_pos d' i (by omega), getElem!_pos d' j (by omega)] at this
  have m1 := (hmem d'[i]).1 (by simp)
  have m2 := (hmem d'[j]).1 (by simp)
  rw [show min d'[i] (n - 1) = d'[i] by omega, show min d'[j] (n - 1) = d'[j] by omega] at this
  simpa using this

end Go.Proofs.YtpfklkmmhdpphaaGreatDoor

/- VerticesOf: slices.CompactFunc at points. Conditions: sizes, reduced fractions. Printed by vcomp.py. -/
namespace Go.Proofs.YtpfklkmmhdpphaaGreatDoor
open Go.RowKit
set_option linter.unusedVariables false
set_option linter.unusedSimpArgs false

/-- The numbers of the points that stay. -/
def keepI (hs : List Pr) (seq : List Nat) : Nat → List Nat
  | 0 => []
  | t + 1 => if 0 < t ∧ cmpP (prAt hs (seq.getD t 0)) (prAt hs (seq.getD (t - 1) 0)) = 0 then keepI hs seq t else keepI hs seq t ++ [seq.getD t 0]
theorem getD_at {seq : List Nat} {t : Nat} (h : t < seq.length) : seq.getD t 0 = seq[t] := by simp [List.getD, h]
theorem keepI_map {hs : List Pr} {seq : List Nat} : ∀ t, t ≤ seq.length → (keepI hs seq t).map (prAt hs) = vComp (seq.map (prAt hs)) t
  | 0, _ => rfl
  | t + 1, h => by
    have e1 : prAt (seq.map (prAt hs)) t = prAt hs (seq.getD t 0) := by rw [prAt_eq (by rw [List.length_map]; omega), List.getElem_map, getD_at (by omega)]
    have e2 : 0 < t → prAt (seq.map (prAt hs)) (t - 1) = prAt hs (seq.getD (t - 1) 0) := fun ht => by rw [prAt_eq (by simp; omega), List.getElem_map, getD_at (by omega)]
    rw [keepI, vComp, e1]
    by_cases ht : 0 < t
    · rw [e2 ht]
      split
      · exact keepI_map t (by omega)
      · rw [List.map_append, keepI_map t (by omega)]; rfl
    · rw [if_neg (fun h => ht h.1), if_neg (fun h => ht h.1), List.map_append, keepI_map t (by omega)]; rfl
theorem keepI_sub {hs : List Pr} {seq : List Nat} : ∀ t, t ≤ seq.length → (keepI hs seq t).Sublist (seq.take t)
  | 0, _ => by simp [keepI]
  | t + 1, h => by
    have ih := keepI_sub (hs := hs) (seq := seq) t (by omega)
    rw [keepI, List.take_succ_eq_append_getElem (by omega)]
    split
    · exact ih.trans (List.sublist_append_left _ _)
    · rw [getD_at (by omega)]; exact ih.append (List.Sublist.refl _)
theorem keepI_no {hs : List Pr} {seq : List Nat} {t : Nat} (h : ¬ cmpP (prAt hs (seq.getD t 0)) (prAt hs (seq.getD (t - 1) 0)) = 0) : keepI hs seq (t + 1) = keepI hs seq t ++ [seq.getD t 0] := by rw [keepI, if_neg (fun k => h k.2)]
theorem keepI_yes {hs : List Pr} {seq : List Nat} {t : Nat} (h0 : 0 < t) (h : cmpP (prAt hs (seq.getD t 0)) (prAt hs (seq.getD (t - 1) 0)) = 0) : keepI hs seq (t + 1) = keepI hs seq t := by rw [keepI, if_pos ⟨h0, h⟩]
theorem keepI_one (hs : List Pr) (seq : List Nat) : keepI hs seq 1 = [seq.getD 0 0] := by simp [keepI]

theorem OwnV.clear2 {E : TypeId} {lo hi g n c k : Nat} : ∀ (zs : List Value) (o : Nat) (w : World) (vs : List Value), OwnV w E 2 lo hi (some ⟨g, 0, none⟩) n c vs → k * 2 ≤ o → ∃ vs', OwnV (w.setCells g o zs) E 2 lo hi (some ⟨g, 0, none⟩) n c vs' ∧ vs'.take (k * 2) = vs.take (k * 2)
  | [], _, _, vs, h, _ => ⟨vs, h, rfl⟩
  | z :: zs, o, w, vs, h, hk => by
    obtain ⟨vs', h1, h2⟩ := OwnV.clear2 (k := k) zs (o + 1) (w.setCell ⟨g, o, none⟩ z) (vs.set o z) ⟨(h.row.stored (g := g) (cap := c) o z).1, h.top⟩ (by omega)
    refine ⟨vs', h1, ?_⟩
    rw [h2, List.take_set_of_le (by omega)]
theorem Within.setCells {g : Nat} : ∀ (zs : List Value) (o : Nat) (w : World), Within g (g + 1) w (w.setCells g o zs)
  | [], _, w => Within.refl _ _ w
  | z :: zs, o, w => ((Within.refl g (g + 1) w).setCell (p := ⟨g, o, none⟩) (Nat.le_refl _) (Nat.lt_succ_self _) z).trans (Within.setCells zs (o + 1) _)

/-- The closure that tells equals. -/
theorem eqPts_any (p q : Option Addr) (n c d : Nat) (xs ys : List Int) (a b : Int) (w : World) (hn : n ≤ 9223372036854775807) (hx : Ints w p n xs) (hy : Ints w q n ys) :
    Calls Tryz.prog 35 #[.agg #[.slice p n c, .int .i64 a], .agg #[.slice q n d, .int .i64 b]] w (Ret (.bool (fracCmp xs a ys b == 0)) w) := by
  obtain ⟨k0, k1, k2, k3⟩ := box2c w (.slice p n c) (.int .i64 a) (.slice q n d) (.int .i64 b) 32 32
  have hb0 := boxed2 w (.cells #[.slice p n c, .int .i64 a] 32) (.cells #[.slice q n d, .int .i64 b] 32)
  have hx0 := hx.below hb0
  have hy0 := hy.below hb0
  go_enter Tryz.func35, Tryz.ntmps35
  go_wp2_with fail
  generalize ((w.alloc (.cells #[.slice p n c, .int .i64 a] 32)).alloc (.cells #[.slice q n d, .int .i64 b] 32)) = W at *
  refine (compareFractions_any _ _ _ _ _ _ _ _ _ _ hn hx0 hy0).mono ?_
  rintro e w1 ⟨rfl, hb1⟩
  go_wp2_with fail
  go_ret
  exact ⟨rfl, Below.step hb0 hb1⟩

/-- The points that stay, in the head of the row. -/
def Thin (lo B : Nat) (w : World) (g c : Nat) (R : List Row) (hs : List Pr) (n : Nat) (ks : List Nat) (e : Ending) (w' : World) : Prop :=
  e = .returned (.slice (some ⟨g, 0, none⟩) ks.length c) ∧ OwnV w' 32 2 lo (g + 1) (some ⟨g, 0, none⟩) ks.length c (scells R hs ks) ∧ (∀ i, i < n → Own w' lo B (rAt R i).1 (rAt R i).2.1 (rAt R i).2.2 (nrm hs i)) ∧ Within g (g + 1) w w'

/-- The inner loop: what was kept lies ahead, what is to come behind. -/
structure Thinning (lo B : Nat) (w wr : World) (g n c : Nat) (R : List Row) (hs : List Pr) (seq : List Nat) (t kk : Nat) (cur : List Nat) : Prop where
  pts : PrsS lo B wr g n c R hs cur
  len : (keepI hs seq t).length = kk
  lt : kk < t
  eq : cur = keepI hs seq t ++ seq.drop kk
  low : Within g (g + 1) w wr
theorem Thinning.at_ {lo B : Nat} {w wr : World} {g n c : Nat} {R : List Row} {hs : List Pr} {seq : List Nat} {t kk : Nat} {cur : List Nat} (h : Thinning lo B w wr g n c R hs seq t kk cur) {j : Nat} (hj : kk ≤ j) : cur.getD j 0 = seq.getD j 0 := by
  rw [h.eq, List.getD, List.getD, List.getElem?_append_right (by rw [h.len]; exact hj), h.len, List.getElem?_drop]
  congr 2; omega
theorem Thinning.below {lo B : Nat} {w wr w' : World} {g n c : Nat} {R : List Row} {hs : List Pr} {seq : List Nat} {t kk : Nat} {cur : List Nat} (h : Thinning lo B w wr g n c R hs seq t kk cur) (hb : Below wr.heap.size wr w') : Thinning lo B w w' g n c R hs seq t kk cur :=
  ⟨h.pts.below hb, h.len, h.lt, h.eq, h.low.trans (Within.of_below hb)⟩
theorem Thinning.skip {lo B : Nat} {w wr : World} {g n c : Nat} {R : List Row} {hs : List Pr} {seq : List Nat} {t kk : Nat} {cur : List Nat} (h : Thinning lo B w wr g n c R hs seq t kk cur) (he : keepI hs seq (t + 1) = keepI hs seq t) : Thinning lo B w wr g n c R hs seq (t + 1) kk cur :=
  ⟨h.pts, by rw [he]; exact h.len, by have := h.lt; omega, by rw [he]; exact h.eq, h.low⟩
theorem Thinning.keep {lo B : Nat} {w wr : World} {g n c : Nat} {R : List Row} {hs : List Pr} {seq : List Nat} {t kk : Nat} {cur : List Nat} (h : Thinning lo B w wr g n c R hs seq t kk cur) (hsl : seq.length = n) (ht : t < n) (hlt : ∀ i ∈ seq, i < n) (he : keepI hs seq (t + 1) = keepI hs seq t ++ [seq.getD t 0]) :
    Thinning lo B w ((wr.setCell ⟨g, kk * 2, none⟩ (Row.val (rAt R (seq.getD t 0)))).setCell ⟨g, kk * 2 + 1, none⟩ (.int .i64 (bnd hs (seq.getD t 0)))) g n c R hs seq (t + 1) (kk + 1) (cur.set kk (seq.getD t 0)) := by
  have hl := h.lt
  have hcl : cur.length = n := h.pts.len
  have hw : Within g (g + 1) wr ((wr.setCell ⟨g, kk * 2, none⟩ (Row.val (rAt R (seq.getD t 0)))).setCell ⟨g, kk * 2 + 1, none⟩ (.int .i64 (bnd hs (seq.getD t 0)))) :=
    ((Within.refl g (g + 1) wr).setCell (p := ⟨g, kk * 2, none⟩) (Nat.le_refl _) (Nat.lt_succ_self _) _).setCell (p := ⟨g, kk * 2 + 1, none⟩) (Nat.le_refl _) (Nat.lt_succ_self _) _
  have hmem : ∀ i ∈ cur.set kk (seq.getD t 0), i < n := fun i hi => by
    rcases List.mem_or_eq_of_mem_set hi with hi | rfl
    · exact h.pts.lt i hi
    · rw [getD_at (by omega)]; exact hlt _ (List.getElem_mem _)
  refine ⟨h.pts.written hw ⟨?_, h.pts.hdr.top⟩ (by simpa using hcl) hmem, by rw [he, List.length_append, h.len]; rfl, by omega, ?_, h.low.trans hw⟩
  · have h1 := (((h.pts.hdr.row.stored (g := g) (cap := c) (kk * 2) (Row.val (rAt R (seq.getD t 0)))).1).stored (g := g) (cap := c) (kk * 2 + 1) (.int .i64 (bnd hs (seq.getD t 0)))).1
    have h2 := pcells_set (rows := cur.map (rAt R)) (hs := cur.map (prAt hs)) (by simp) (k := kk) (by rw [List.length_map, hcl]; omega) (rAt R (seq.getD t 0)) (prAt hs (seq.getD t 0))
    rw [scells] at h1
    rw [show (Value.int .i64 (bnd hs (seq.getD t 0))) = .int .i64 (prAt hs (seq.getD t 0)).2 from rfl, h2, ← List.map_set, ← List.map_set] at h1
    exact h1
  · rw [h.eq, he, List.append_assoc]
    have hd : seq.drop kk = seq.getD kk 0 :: seq.drop (kk + 1) := by rw [getD_at (by omega)]; exact List.drop_eq_getElem_cons (by omega)
    rw [hd, List.set_append, if_neg (by rw [h.len]; omega), h.len, Nat.sub_self]
    rfl

theorem PrsS.cellsAt {lo B : Nat} {W : World} {g n c : Nat} {R : List Row} {hs : List Pr} {seq : List Nat} (h : PrsS lo B W g n c R hs seq) {t : Nat} (ht : t < n) :
    W.cell? ⟨g, t * 2, none⟩ = some (Row.val (rAt R (seq.getD t 0))) ∧ W.cell? ⟨g, t * 2 + 1, none⟩ = some (.int .i64 (bnd hs (seq.getD t 0))) ∧ seq.getD t 0 < n := by
  have hl : t < seq.length := by rw [h.len]; exact ht
  have hr := pcells_row (rows := seq.map (rAt R)) (hs := seq.map (prAt hs)) (by simp) (k := t) (by simpa using hl)
  have h1 := h.hdr.cell (k := t * 2) (by omega)
  have h2 := h.hdr.cell (k := t * 2 + 1) (by omega)
  rw [scells] at h1 h2
  rw [hr.1, List.getElem_map] at h1
  rw [hr.2, bnd, prAt_eq (by simpa using hl), List.getElem_map] at h2
  rw [getD_at hl]
  exact ⟨h1, h2, h.lt _ (List.getElem_mem hl)⟩

theorem clearPts {lo hi g n c kk : Nat} {vs : List Value} {W : World} (h : kk < n) (ho : OwnV W 32 2 lo hi (some ⟨g, 0, none⟩) n c vs) : ∃ zs, ∀ ty, (Builtin.clear_ #[28] ty #[.slice (some ⟨g, kk * 2, none⟩) (n - kk) (c - kk)]).run Tryz.prog W = .ok (.tuple #[]) (W.setCells g (kk * 2) zs) := by
  refine ⟨(Builtin.zeroCells #[.slice none 0 0, .int .i64 0] (n - kk)).toList, fun ty => ?_⟩
  have hzl : (Builtin.zeroCells #[.slice none 0 0, .int .i64 0] (n - kk)).toList.length = (n - kk) * 2 := by simp [Builtin.zeroCells]
  have hz1 : ∀ v ∈ (Builtin.zeroCells #[.slice none 0 0, .int .i64 0] (n - kk)).toList, v.oneCell' = true := fun v hv => by
    simp only [Builtin.zeroCells, Array.toList_map, List.mem_map] at hv
    obtain ⟨i, _, rfl⟩ := hv
    show (#[Value.slice none 0 0, Value.int .i64 0][i % 2]!).oneCell' = true
    rcases Nat.mod_two_eq_zero_or_one i with e | e <;> (rw [e]; rfl)
  have hst := run_storeCells_cells (P := Tryz.prog) g (kk * 2) _ 0 W (fun j hj => by
    rw [hzl] at hj
    rw [Nat.add_zero, ho.cell (by omega), List.getElem?_eq_getElem (by rw [ho.len]; omega)]; rfl) (fun j hj => ho.frozen _) hz1
  simp only [Nat.add_zero] at hst
  obtain ⟨m, hm⟩ : ∃ m, n - kk = m + 1 := ⟨n - kk - 1, by omega⟩
  rw [hm] at hst ⊢
  have hv := Tryz.zeroValue32
  have hcs : (Value.agg #[Value.slice none 0 0, Value.int .i64 0]).cells = #[Value.slice none 0 0, Value.int .i64 0] := rfl
  simp [Builtin.clear_, run_underlying Tryz.underlying28, hv, hcs, hst]

set_option maxHeartbeats 8000000 in
theorem compactV_any {D lo B : Nat} {w : World} {g n c : Nat} {R : List Row} {hs : List Pr} {seq : List Nat} (h : PrsS lo B w g n c R hs seq) (h1 : 1 ≤ n) (hn : n ≤ 1000000) (hred : ∀ i, i < n → Red D (prAt hs i)) (hD : D ≤ 3) :
    Calls Tryz.prog 34 #[.slice (some ⟨g, 0, none⟩) n c, .func (.func 35) #[] #[]] w (Thin lo B w g c R hs n (keepI hs seq n)) := by
  have hsl := Lib.hid h.len
  have Hred := Lib.hid hred
  have Hlt := Lib.hid h.lt
  clear hred
  by_cases h2 : n < 2
  · obtain rfl : n = 1 := by omega
    have hk : keepI hs seq 1 = seq := by
      rw [keepI_one]
      match seq, h.len with
      | [x], _ => rfl
    go_enter Tryz.func34, Tryz.ntmps34
    go_wp2_with fail
    go_ret
    rw [hk]
    refine ⟨?_, by rw [hsl.out]; exact h.hdr, h.row, Within.refl _ _ _⟩
    rw [hsl.out]; rfl
  · have hd2 : decide (n < 2) = false := by simpa using h2
    have hd2i : decide ((n : Int) < 2) = false := by simp only [decide_eq_false_iff_not]; omega
    have HP := Lib.hid h
    have hcap : n ≤ c ∧ c ≤ 9223372036854775807 := by
      rcases h.hdr.form with ⟨h0, _⟩ | ⟨_, _, _, _, _, h1, h2⟩
      · cases h0
      · unfold maxLen at h2; omega
    have hgl := h.hdr.lt _ rfl
    have HC : Hid (∀ V, (∀ i, i < n → Own V lo B (rAt R i).1 (rAt R i).2.1 (rAt R i).2.2 (nrm hs i)) → ∀ i j, i < n → j < n → Calls Tryz.prog 35 #[.agg #[Row.val (rAt R i), .int .i64 (bnd hs i)], .agg #[Row.val (rAt R j), .int .i64 (bnd hs j)]] V (Ret (.bool (cmpP (prAt hs i) (prAt hs j) == 0)) V)) := Lib.hid fun V hV i j hi hj => by
      have ix := hV i hi
      have iy := hV j hj
      have lx : (rAt R i).2.1 = D := ix.len.symm.trans (Hred.out i hi).len
      have ly : (rAt R j).2.1 = D := iy.len.symm.trans (Hred.out j hj).len
      have e1 : Row.val (rAt R i) = .slice (rAt R i).1 D (rAt R i).2.2 := by rw [Row.val, lx]
      have e2 : Row.val (rAt R j) = .slice (rAt R j).1 D (rAt R j).2.2 := by rw [Row.val, ly]
      rw [e1, e2]
      exact eqPts_any _ _ _ _ _ _ _ _ _ V (by omega) (lx ▸ ix.ints) (ly ▸ iy.ints)
    clear h
    go_enter Tryz.func34, Tryz.ntmps34
    go_wp2_with fail
    clear hd2 hd2i h2
    go_loopw [5] (fun i wr => ∃ k : Nat, 1 ≤ k ∧ k ≤ n ∧ i = .int .i64 k ∧ Hid (keepI hs seq k = seq.take k) ∧ Below w.heap.size w wr) (fun i _ => n - (intOf i).toNat)
    case atStart => exact ⟨1, Nat.le_refl _, h1, rfl, Lib.hid (by
      rw [keepI_one]
      match seq, hsl.out with
      | x :: r, _ => rfl
      | [], e => simp at e; omega), Below.refl _ _⟩
    case round =>
      obtain ⟨k, hk1, hk, rfl, hkeep, hb⟩ := hrel
      generalize wr = W at *
      by_cases hlt : k < n
      · have hi1 := (HP.out.cellsAt (t := k) hlt).2.2
        have hi2 := (HP.out.cellsAt (t := k - 1) (by omega)).2.2
        obtain ⟨ca0, ca1, _⟩ := (HP.out.below hb).cellsAt (t := k) hlt
        obtain ⟨cb0, cb1, _⟩ := (HP.out.below hb).cellsAt (t := k - 1) (by omega)
        have K1 : Hid (∀ d' os, Calls Tryz.prog 35 #[.agg #[Row.val (rAt R (seq.getD k 0)), .int .i64 (bnd hs (seq.getD k 0))], .agg #[Row.val (rAt R (seq.getD (k - 1) 0)), .int .i64 (bnd hs (seq.getD (k - 1) 0))]] (Sort.grow (redrawn W d') os) fun e w' => e = .returned (.bool (cmpP (prAt hs (seq.getD k 0)) (prAt hs (seq.getD (k - 1) 0)) == 0)) ∧ ∃ p : Regrown, w' = Sort.grow (redrawn W p.d) p.os) :=
          Lib.hid fun d' os => Calls.regrown_of (HC.out _ (fun i hi => (HP.out.row i hi).below (Below.step hb (below_regrown W d' os))) _ _ hi1 hi2)
        have ea0 := cell_regrown ca0
        have ea1 := cell_regrown ca1
        have eb0 := cell_regrown cb0
        have eb1 := cell_regrown cb1
        have Hq : Hid (∀ b, (cmpP (prAt hs (seq.getD k 0)) (prAt hs (seq.getD (k - 1) 0)) == 0) = b → if b = true then cmpP (prAt hs (seq.getD k 0)) (prAt hs (seq.getD (k - 1) 0)) = 0 else ¬ cmpP (prAt hs (seq.getD k 0)) (prAt hs (seq.getD (k - 1) 0)) = 0) := Lib.hid fun b hb => by cases b <;> simp_all
        have Hi1 := Lib.hid hi1
        have Hi2 := Lib.hid hi2
        clear ca0 ca1 cb0 cb1 hi1 hi2
        generalize rAt R (seq.getD k 0) = r1 at *
        generalize rAt R (seq.getD (k - 1) 0) = r2 at *
        obtain ⟨q1, m1, d1⟩ := r1
        obtain ⟨q2, m2, d2⟩ := r2
        generalize bnd hs (seq.getD k 0) = b1 at *
        generalize bnd hs (seq.getD (k - 1) 0) = b2 at *
        have sm : IntKind.i64.wrap ((k : Int) - 1) = ((k - 1 : Nat) : Int) := by rw [wrapEq, wrap64_id (by omega) (by omega)]; omega
        have sz1 : (0 : Int) ≤ (k : Int) - 1 := by omega
        have sz2 : (k : Int) - 1 < (n : Int) := by omega
        have sz3 : ((k : Int) - 1).toNat = k - 1 := by omega
        have sz4 : k - 1 < n := by omega
        have szc : ((k - 1 : Nat) : Int) = (k : Int) - 1 := by omega
        clear szc
        cases hqq : (cmpP (prAt hs (seq.getD k 0)) (prAt hs (seq.getD (k - 1) 0)) == 0)
        · have hne := Lib.hid (by simpa using Hq.out _ hqq : ¬ cmpP (prAt hs (seq.getD k 0)) (prAt hs (seq.getD (k - 1) 0)) = 0)
          rw [hqq] at K1
          clear hqq Hq
          go_wp2_with fail
          refine wp_region_quiet_below (by kernel_rfl) (by kernel_rfl) ?_
          repeat (go_big_quiet_step (with_reducible exact K1.out _ _))
          refine wpQuiet_nil ?_
          intro _ hw'
          obtain ⟨⟨dq, osq⟩, hw''⟩ := hw'
          subst hw''
          obtain ⟨V, hV⟩ : ∃ V, V = Sort.grow (redrawn W dq) osq := ⟨_, rfl⟩
          have hbV : Below W.heap.size W V := hV ▸ below_regrown W dq osq
          rw [← hV]
          clear hV
          go_wp2_with fail
          go_roundw
          case rel => exact ⟨k + 1, by omega, by omega, by go_num, Lib.hid (by rw [keepI_no hne.out, hkeep.out, getD_at (by rw [hsl.out]; exact hlt), List.take_succ_eq_append_getElem (by rw [hsl.out]; exact hlt)]), Below.step hb hbV⟩
          case measure => simp [intOf]; omega
        · have heq := Lib.hid (by simpa using Hq.out _ hqq : cmpP (prAt hs (seq.getD k 0)) (prAt hs (seq.getD (k - 1) 0)) = 0)
          rw [hqq] at K1
          clear hqq Hq
          go_wp2_with fail
          refine wp_region_quiet_below (by kernel_rfl) (by kernel_rfl) ?_
          repeat (go_big_quiet_step (with_reducible exact K1.out _ _))
          refine wpQuiet_nil ?_
          intro _ hw'
          obtain ⟨⟨dq, osq⟩, hw''⟩ := hw'
          subst hw''
          obtain ⟨V, hV⟩ : ∃ V, V = Sort.grow (redrawn W dq) osq := ⟨_, rfl⟩
          have hbV : Below W.heap.size W V := hV ▸ below_regrown W dq osq
          rw [← hV]
          clear hV
          go_wp2_with fail
          have hbT := Below.step hb hbV
          have hI0 : Thinning lo B w V g n c R hs seq (k + 1) k seq := by
            have e : keepI hs seq (k + 1) = seq.take k := (keepI_yes (by omega) heq.out).trans hkeep.out
            exact ⟨HP.out.below hbT, by rw [e, List.length_take, hsl.out]; omega, by omega, by rw [e, List.take_append_drop], Within.of_below hbT⟩
          clear sm sz1 sz2 sz3 sz4
          have hck : ¬ c = k := by omega
          go_loopw [5, 7] (fun u v wr => ∃ (k2 kk : Nat) (cur : List Nat), 1 ≤ k2 ∧ k + k2 ≤ n ∧ v = .int .i64 k2 ∧ u = .int .i64 kk ∧ Thinning lo B w wr g n c R hs seq (k + k2) kk cur) (fun _ v _ => n - (k + (intOf v).toNat))
          case atStart => exact ⟨1, k, seq, Nat.le_refl _, by omega, rfl, rfl, hI0⟩
          case round =>
            clear hI0 hbT hbV hb
            obtain ⟨k2, kk, cur, hk2, hkn, rfl, rfl, hI⟩ := hrel
            have hkk := hI.lt
            generalize wr = W at *
            by_cases hlt2 : k + k2 < n
            · have hi1 : seq.getD (k + k2) 0 < n := by rw [getD_at (by rw [hsl.out]; exact hlt2)]; exact Hlt.out _ (List.getElem_mem _)
              have hi2 : seq.getD (k + k2 - 1) 0 < n := by rw [getD_at (by rw [hsl.out]; omega)]; exact Hlt.out _ (List.getElem_mem _)
              obtain ⟨ca0, ca1, _⟩ := hI.pts.cellsAt (t := k + k2) hlt2
              obtain ⟨cb0, cb1, _⟩ := hI.pts.cellsAt (t := k + k2 - 1) (by omega)
              obtain ⟨cc0, cc1, _⟩ := hI.pts.cellsAt (t := kk) (by omega)
              rw [hI.at_ (by omega), show (k + k2) * 2 = k * 2 + k2 * 2 by omega] at ca0 ca1
              rw [hI.at_ (by omega), show (k + k2 - 1) * 2 = k * 2 + (k2 - 1) * 2 by omega] at cb0 cb1
              have K1 : Hid (∀ d' os, Calls Tryz.prog 35 #[.agg #[Row.val (rAt R (seq.getD (k + k2) 0)), .int .i64 (bnd hs (seq.getD (k + k2) 0))], .agg #[Row.val (rAt R (seq.getD (k + k2 - 1) 0)), .int .i64 (bnd hs (seq.getD (k + k2 - 1) 0))]] (Sort.grow (redrawn W d') os) fun e w' => e = .returned (.bool (cmpP (prAt hs (seq.getD (k + k2) 0)) (prAt hs (seq.getD (k + k2 - 1) 0)) == 0)) ∧ ∃ p : Regrown, w' = Sort.grow (redrawn W p.d) p.os) :=
                Lib.hid fun d' os => Calls.regrown_of (HC.out _ (fun i hi => (hI.pts.row i hi).below (below_regrown W d' os)) _ _ hi1 hi2)
              have ea0 := cell_regrown ca0
              have ea1 := cell_regrown ca1
              have eb0 := cell_regrown cb0
              have eb1 := cell_regrown cb1
              have Hq : Hid (∀ b, (cmpP (prAt hs (seq.getD (k + k2) 0)) (prAt hs (seq.getD (k + k2 - 1) 0)) == 0) = b → if b = true then cmpP (prAt hs (seq.getD (k + k2) 0)) (prAt hs (seq.getD (k + k2 - 1) 0)) = 0 else ¬ cmpP (prAt hs (seq.getD (k + k2) 0)) (prAt hs (seq.getD (k + k2 - 1) 0)) = 0) := Lib.hid fun b hb => by cases b <;> simp_all
              have HI := Lib.hid hI
              have hfz := hI.pts.hdr.frozen (kk * 2)
              have hfz1 := hI.pts.hdr.frozen (kk * 2 + 1)
              have Hkp : Hid (∀ W, Thinning lo B w W g n c R hs seq (k + k2) kk cur → keepI hs seq (k + k2 + 1) = keepI hs seq (k + k2) ++ [seq.getD (k + k2) 0] → Thinning lo B w ((W.setCell ⟨g, kk * 2, none⟩ (Row.val (rAt R (seq.getD (k + k2) 0)))).setCell ⟨g, kk * 2 + 1, none⟩ (.int .i64 (bnd hs (seq.getD (k + k2) 0)))) g n c R hs seq (k + k2 + 1) (kk + 1) (cur.set kk (seq.getD (k + k2) 0))) :=
                Lib.hid fun W h1 h2 => h1.keep hsl.out hlt2 Hlt.out h2
              clear cb0 cb1 hi1 hi2 hI
              generalize rAt R (seq.getD (k + k2) 0) = r1 at *
              generalize rAt R (seq.getD (k + k2 - 1) 0) = r2 at *
              obtain ⟨q1, m1, d1⟩ := r1
              obtain ⟨q2, m2, d2⟩ := r2
              generalize bnd hs (seq.getD (k + k2) 0) = b1 at *
              generalize bnd hs (seq.getD (k + k2 - 1) 0) = b2 at *
              simp only [Row.val] at ca0 K1 Hkp ea0 eb0
              generalize Row.val (rAt R (cur.getD kk 0)) = x0 at *
              generalize bnd hs (cur.getD kk 0) = x1 at *
              have sm : IntKind.i64.wrap ((k2 : Int) - 1) = ((k2 - 1 : Nat) : Int) := by rw [wrapEq, wrap64_id (by omega) (by omega)]; omega
              have sz1 : (0 : Int) ≤ (k2 : Int) - 1 := by omega
              have sz2 : (k2 : Int) - 1 < ((n - k : Nat) : Int) := by omega
              have sz3 : ((k2 : Int) - 1).toNat = k2 - 1 := by omega
              have sz4 : k2 - 1 < n - k := by omega
              have sz5 : k2 < n - k := by omega
              have sz6 : kk < n := by omega
              cases hqq : (cmpP (prAt hs (seq.getD (k + k2) 0)) (prAt hs (seq.getD (k + k2 - 1) 0)) == 0)
              · have hne := Lib.hid (by simpa using Hq.out _ hqq : ¬ cmpP (prAt hs (seq.getD (k + k2) 0)) (prAt hs (seq.getD (k + k2 - 1) 0)) = 0)
                rw [hqq] at K1
                clear hqq Hq
                go_wp2_with fail
                refine wp_region_quiet_below (by kernel_rfl) (by kernel_rfl) ?_
                repeat (go_big_quiet_step (with_reducible exact K1.out _ _))
                refine wpQuiet_nil ?_
                intro _ hw'
                obtain ⟨⟨dq, osq⟩, hw''⟩ := hw'
                subst hw''
                obtain ⟨V, hV⟩ : ∃ V, V = Sort.grow (redrawn W dq) osq := ⟨_, rfl⟩
                have hbV : Below W.heap.size W V := hV ▸ below_regrown W dq osq
                rw [← hV]
                clear hV
                have va0 := Below.cells hbV ca0
                have va1 := Below.cells hbV ca1
                have vc0 := Below.cells hbV cc0
                have vc1 := Below.cells hbV cc1
                have vf0 := (hbV.frozen (World.block_lt_of_cell? W _ cc0)).trans hfz
                have vf1 := (hbV.frozen (World.block_lt_of_cell? W _ cc1)).trans hfz1
                clear ca0 ca1 cc0 cc1 hfz hfz1 ea0 ea1 eb0 eb1
                go_wp2_with fail
                go_roundw
                case rel => exact ⟨k2 + 1, kk + 1, _, by omega, by omega, by go_num, by go_num, Hkp.out _ (HI.out.below hbV) (keepI_no hne.out)⟩
                case measure => simp [intOf]; omega
              · have heq2 := Lib.hid (by simpa using Hq.out _ hqq : cmpP (prAt hs (seq.getD (k + k2) 0)) (prAt hs (seq.getD (k + k2 - 1) 0)) = 0)
                rw [hqq] at K1
                clear hqq Hq
                go_wp2_with fail
                refine wp_region_quiet_below (by kernel_rfl) (by kernel_rfl) ?_
                repeat (go_big_quiet_step (with_reducible exact K1.out _ _))
                refine wpQuiet_nil ?_
                intro _ hw'
                obtain ⟨⟨dq, osq⟩, hw''⟩ := hw'
                subst hw''
                obtain ⟨V, hV⟩ : ∃ V, V = Sort.grow (redrawn W dq) osq := ⟨_, rfl⟩
                have hbV : Below W.heap.size W V := hV ▸ below_regrown W dq osq
                rw [← hV]
                clear hV
                go_wp2_with fail
                go_roundw
                case rel => exact ⟨k2 + 1, kk, cur, by omega, by omega, by go_num, rfl, (HI.out.below hbV).skip (keepI_yes (by omega) heq2.out)⟩
                case measure => simp [intOf]; omega
            · have hend : k + k2 = n := by omega
              have HI := Lib.hid hI
              obtain ⟨zs, hcl⟩ : ∃ zs, ∀ ty, (Builtin.clear_ #[28] ty #[.slice (some ⟨g, kk * 2, none⟩) (n - kk) (c - kk)]).run Tryz.prog W = .ok (.tuple #[]) (W.setCells g (kk * 2) zs) := clearPts (by omega : kk < n) hI.pts.hdr
              have hck2 : ¬ c = kk := by omega
              have hkc : kk ≤ c := by omega
              have hkn2 : kk ≤ n := by omega
              have Hend := Lib.hid hend
              clear hI hend
              go_wp2_with fail
              go_ret
              obtain ⟨vs', hv1, hv2⟩ := OwnV.clear2 (k := kk) zs (kk * 2) W _ HI.out.pts.hdr (Nat.le_refl _)
              have hwc := Within.setCells (g := g) zs (kk * 2) W
              have hpre := hv1.preS (k := kk) hkn2
              have hlen := HI.out.len
              have heqc := HI.out.eq
              rw [Hend.out] at hlen heqc
              have hsc : (scells R hs cur).take (kk * 2) = scells R hs (keepI hs seq n) := by
                rw [scells, (pcells_split (by simp) kk (by rw [List.length_map, HI.out.pts.len]; exact hkn2)).1, ← List.map_take, ← List.map_take, heqc, List.take_append_of_le_length (by omega), List.take_of_length_le (by omega)]
                rfl
              rw [hv2, hsc] at hpre
              refine ⟨by rw [hlen]; rfl, by rw [hlen]; exact hpre, fun i hi => ?_, HI.out.low.trans hwc⟩
              exact (HI.out.pts.row i hi).kept (q := some ⟨g, 0, none⟩) hwc.grownAt (HI.out.pts.hdr.ne (HI.out.pts.row i hi).v ratNe)
      · obtain rfl : k = n := by omega
        go_wp2_with fail
        go_ret
        have e : keepI hs seq k = seq := by rw [hkeep.out, List.take_of_length_le (by rw [hsl.out]; exact Nat.le_refl _)]
        rw [e]
        refine ⟨?_, by rw [hsl.out]; exact HP.out.hdr.below hb, fun i hi => (HP.out.row i hi).below hb, Within.of_below hb⟩
        rw [hsl.out]; rfl

end Go.Proofs.YtpfklkmmhdpphaaGreatDoor

/- VerticesOf: the contracts of impl.VerticesOf and of both IsWholeRegion. Conditions: sizes. -/
namespace Go.Proofs.YtpfklkmmhdpphaaGreatDoor
open Go.RowKit
set_option linter.unusedVariables false
set_option linter.unusedSimpArgs false

theorem frozenNew (w : World) (u : Value) (T : TypeId) (k : Nat) : (w.alloc (.cells #[u] T)).frozen? ⟨w.heap.size, k, none⟩ = false := by
  have h := heap_alloc_new w (.cells #[u] T)
  unfold World.frozen?
  rw [h]
  simp
theorem compactNil (p : Option Addr) (c : Nat) (f : Value) (w : World) : Calls Tryz.prog 34 #[.slice p 0 c, f] w fun e w' => e = .returned (.slice p 0 c) ∧ w = w' := by
  go_enter Tryz.func34, Tryz.ntmps34
  go_wp2
  go_ret
  exact ⟨rfl, rfl⟩

theorem OwnP.toS {w : World} {L g n c : Nat} {rows : List Row} {hs : List Pr} (h : OwnP 32 w L w.heap.size (some ⟨g, 0, none⟩) n c rows hs) : PrsS L w.heap.size w g n c rows hs (List.range n) := by
  have hc := h.count
  have hl := h.len
  have e1 : (List.range n).map (rAt rows) = rows := by
    refine List.ext_getElem (by simp [hc]) fun i h1 h2 => ?_
    rw [List.getElem_map, List.getElem_range, rAt_eq h2]
  have e2 : (List.range n).map (prAt hs) = hs := by
    refine List.ext_getElem (by simp; omega) fun i h1 h2 => ?_
    rw [List.getElem_map, List.getElem_range, prAt_eq h2]
  refine ⟨⟨by rw [scells, e1, e2]; exact h.outer.row, fun a ha => by injection ha with ha; subst ha; exact Nat.lt_succ_self _⟩, fun i hi => by rw [rAt_eq (by omega)]; exact h.inner i (by omega), (h.outer.lt _ rfl).2.2, by simp, fun i hi => by simpa using hi⟩

theorem thin_own {lo B : Nat} {w' : World} {g c n : Nat} {R : List Row} {hs : List Pr} {ks : List Nat} (hap : R.Pairwise fun r s => blk r.1 ≠ blk s.1 ∨ r.1 = none) (hR : R.length = n) (hnd : ks.Nodup) (hlt : ∀ i ∈ ks, i < n) (hgB : g < B) (hB : B ≤ w'.heap.size)
    (hv : OwnV w' 32 2 lo (g + 1) (some ⟨g, 0, none⟩) ks.length c (scells R hs ks)) (hr : ∀ i, i < n → Own w' lo B (rAt R i).1 (rAt R i).2.1 (rAt R i).2.2 (nrm hs i)) :
    OwnP 32 w' lo w'.heap.size (some ⟨g, 0, none⟩) ks.length c (ks.map (rAt R)) (ks.map (prAt hs)) := by
  refine ⟨hv.up, by simp, fun k hk => ?_, ?_⟩
  · have hk' : k < ks.length := by simpa using hk
    rw [List.getElem_map, nrm, prAt_eq (by simpa using hk'), List.getElem_map]
    exact (hr _ (hlt _ (List.getElem_mem hk'))).widen (Nat.le_refl _) hB
  · rw [List.pairwise_map]
    refine List.Pairwise.imp_of_mem (R := fun a b => a ≠ b) ?_ hnd
    intro a b ha hb hne
    have h1 := hlt a ha
    have h2 := hlt b hb
    rw [rAt_eq (by omega), rAt_eq (by omega)]
    have hp := List.pairwise_iff_getElem.1 hap
    by_cases hab : a < b
    · exact hp a b (by omega) (by omega) hab
    · rcases hp b a (by omega) (by omega) (by omega) with h3 | h3
      · exact .inl fun e => h3 e.symm
      · by_cases h4 : (R[a]'(by omega)).1 = none
        · exact .inr h4
        · refine .inl fun e => ?_
          rw [h3] at e
          cases h5 : (R[a]'(by omega)).1 with
          | none => exact h4 h5
          | some x => rw [h5] at e; simp [blk] at e

set_option maxHeartbeats 4000000 in
theorem implVertices_any (z : Int) (p : Option Addr) (n c : Nat) (hs : List Pr) (w : World) (hn : n ≤ 9223372036854775807) (hx : Prs w p n hs) :
    Calls Tryz.prog 6 #[.agg #[.int .i64 z, .slice p n c]] w (NewVs w (vtxV z hs)) := by
  have kr := Box2.new w (.int .i64 z) (.slice p n c) 26
  have hbw := boxed w (.cells #[.int .i64 z, .slice p n c] 26)
  have hx0 := hx.below hbw
  have kr0 := kr.c0
  have kr1 := kr.c1
  cases hr : isReg z hs
  · have HV := Lib.hid (show vtxV z hs = [] by simp [vtxV, hr])
    go_enter Tryz.func6, Tryz.ntmps6
    go_wp2_with fail
    refine (implIsRegion_any _ _ _ _ _ _ hn hx0).mono ?_
    rw [hr]
    rintro e w1 ⟨rfl, hb1⟩
    have hb2 := Below.step hbw hb1
    go_wp2_with fail
    go_ret
    rw [HV.out]
    exact ⟨_, _, _, rfl, OwnPM.nil _ _ _ _, hb2⟩
  · obtain ⟨D, rfl, h1, h3, h8, hO⟩ := isReg_okh hr
    have HV := Lib.hid (show vtxV (D : Int) hs = (ptsC hs D 0 []).foldl vPut [] by simp [vtxV, hr])
    have HR := Lib.hid hr
    have H8 : 8 ^ D ≤ 512 := by
      have : D = 1 ∨ D = 2 ∨ D = 3 := by omega
      rcases this with rfl | rfl | rfl <;> decide
    have H8 := Lib.hid H8
    have Hred := Lib.hid (ptsC_red hO h1 h3 D 0 [] (fun _ h => absurd h (by simp)) (by simp))
    have Hlen := Lib.hid (ptsC_len hs h8 D 0 [])
    clear hr
    go_enter Tryz.func6, Tryz.ntmps6
    go_wp2_with fail
    refine (implIsRegion_any _ _ _ _ _ _ hn hx0).mono ?_
    rw [HR.out]
    rintro e w1 ⟨rfl, hb1⟩
    have hb2 := Below.step hbw hb1
    have kr2 := (kr.below hb1)
    have hs2 := hb2.size
    have hx1 := hx0.below hb1
    clear kr0 kr1 kr hx0 hb1
    have c0 : ((w1.alloc (.cells #[.slice none 0 0] 28)).alloc (.cells #[.nilFunc] 51)).cell? ⟨w1.heap.size, 0, none⟩ = some (.slice none 0 0) := Below.cells (boxed _ _) (cellNew w1 _ _)
    have c1 : ((w1.alloc (.cells #[.slice none 0 0] 28)).alloc (.cells #[.nilFunc] 51)).cell? ⟨w1.heap.size + 1, 0, none⟩ = some .nilFunc := by
      have h := cellNew (w1.alloc (.cells #[.slice none 0 0] 28)) .nilFunc 51
      rwa [World.size_alloc] at h
    have f0 : ((w1.alloc (.cells #[.slice none 0 0] 28)).alloc (.cells #[.nilFunc] 51)).frozen? ⟨w1.heap.size, 0, none⟩ = false := ((boxed _ _).frozen (by simp)).trans (frozenNew w1 _ _ _)
    have f1 : ((w1.alloc (.cells #[.slice none 0 0] 28)).alloc (.cells #[.nilFunc] 51)).frozen? ⟨w1.heap.size + 1, 0, none⟩ = false := by
      have h := frozenNew (w1.alloc (.cells #[.slice none 0 0] 28)) .nilFunc 51 0
      rwa [World.size_alloc] at h
    have hbA := boxed2 w1 (.cells #[.slice none 0 0] 28) (.cells #[.nilFunc] 51)
    have hsA : ((w1.alloc (.cells #[.slice none 0 0] 28)).alloc (.cells #[.nilFunc] 51)).heap.size = w1.heap.size + 1 + 1 := by simp
    have HsA := Lib.hid hsA
    clear hsA
    go_upto_region 5 with fail
    generalize (w1.alloc (.cells #[.slice none 0 0] 28)).alloc (.cells #[.nilFunc] 51) = W2 at *
    have hbS := hbA.setCell (p := ⟨w1.heap.size + 1, 0, none⟩) (by dsimp only; omega) (Value.func (.func 26) #[] #[.pointer (some ⟨w.heap.size, 0, none⟩), .pointer (some ⟨w1.heap.size, 0, none⟩), .pointer (some ⟨w1.heap.size + 1, 0, none⟩)])
    have hC : Cells w1 (W2.setCell ⟨w1.heap.size + 1, 0, none⟩ (Value.func (.func 26) #[] #[.pointer (some ⟨w.heap.size, 0, none⟩), .pointer (some ⟨w1.heap.size, 0, none⟩), .pointer (some ⟨w1.heap.size + 1, 0, none⟩)])) w.heap.size w1.heap.size (w1.heap.size + 1) (w1.heap.size + 2) D p n c hs :=
      ⟨hbS, kr2, hx1, Nat.le_refl _, Nat.lt_succ_self _, Nat.lt_succ_self _, by simp; rw [HsA.out]; exact Nat.le_refl _, World.cell?_setCell_same _ _ _ c1⟩
    have hOut : OutIs w1.heap.size (w1.heap.size + 2) (W2.setCell ⟨w1.heap.size + 1, 0, none⟩ (Value.func (.func 26) #[] #[.pointer (some ⟨w.heap.size, 0, none⟩), .pointer (some ⟨w1.heap.size, 0, none⟩), .pointer (some ⟨w1.heap.size + 1, 0, none⟩)])) none 0 0 [] [] :=
      ⟨(World.cell?_of_block (Below.heap_setCell W2 _ _ w1.heap.size (by dsimp only; omega))).trans c0, by rw [World.frozen?_setCell]; exact f0, OwnP.nil _ _ _ _⟩
    go_upto_region 6 with fail
    generalize (W2.setCell ⟨w1.heap.size + 1, 0, none⟩ (Value.func (.func 26) #[] #[.pointer (some ⟨w.heap.size, 0, none⟩), .pointer (some ⟨w1.heap.size, 0, none⟩), .pointer (some ⟨w1.heap.size + 1, 0, none⟩)])) = W3 at *
    have hfn := hC.fn
    clear c0 c1 f0 f1 hbA HsA
    go_wp2_with fail
    refine (pick_any w1 w.heap.size w1.heap.size (w1.heap.size + 1) (w1.heap.size + 2) _ _ _ _ _ h1 h3 hO h8 D 0 _ [] _ _ _ _ _ _ _ [] W3 (by simp) (by simp) (Nat.zero_le _) (by have := H8.out; simp; omega) hC (Chos.nil _ _ _) (fun _ h => absurd h (by simp)) hOut).mono ?_
    rintro e w4 ⟨rfl, ⟨q, m, c4, rows, ho⟩, hF⟩
    rw [List.nil_append] at ho
    have hb4 : Below w.heap.size w w4 := (Below.step hb2 hbS).trans (hF.belowB (fun k hk hX => by unfold XO at hX; omega) (by omega) (by have := hbS.size; omega))
    have hlw := hC.lw
    have hs34 := hF.size
    have hoc := ho.cell
    have hml : (ptsC hs D 0 []).length = m := by rw [← ho.own.len]; exact ho.own.count
    have Hml := Lib.hid hml
    have hm9 : m ≤ 512 := by rw [← hml]; exact Nat.le_trans Hlen.out H8.out
    clear hml
    by_cases hm0 : m = 0
    · subst hm0
      have HV2 := Lib.hid (show vtxV (D : Int) hs = [] by rw [HV.out, List.length_eq_zero_iff.1 Hml.out]; rfl)
      go_wp2_with fail
      refine (AnyF.slices_SortFunc_none Tryz.laysSortRat q c4 _ w4).mono ?_
      rintro e w5 ⟨rfl, rfl⟩
      go_wp2_with fail
      refine (compactNil q c4 _ w5).mono ?_
      rintro e w6 ⟨rfl, rfl⟩
      go_wp2_with fail
      go_ret
      rw [HV2.out]
      have h := ho.own
      rw [List.length_eq_zero_iff.1 Hml.out] at h
      exact ⟨_, _, _, rfl, ⟨rows, h.widen (by omega) (Nat.le_refl _)⟩, hb4⟩
    · obtain ⟨g, rfl, hgL, hgw⟩ : ∃ g, q = some ⟨g, 0, none⟩ ∧ w1.heap.size + 2 ≤ g ∧ g < w4.heap.size := by
        rcases ho.own.outer.form with ⟨_, h0, _⟩ | ⟨g, e, h2, _, h4, _⟩
        · omega
        · exact ⟨g, e, h2, h4⟩
      have HO := Lib.hid ho
      have Hr : Hid (∀ i, i < m → Red D (prAt (ptsC hs D 0 []) i)) := Lib.hid fun i hi => Hred.out _ (prAt_mem (by rw [Hml.out]; exact hi))
      generalize hP : ptsC hs D 0 [] = P at *
      have HPe := Lib.hid hP
      clear hP ho
      go_wp2_with fail
      refine (sortV_any (D := D) (lo := w1.heap.size + 2) HO.out.own.toS (by omega) (by omega) Hr.out h3).mono ?_
      rintro e w5 ⟨rfl, seq, hS, hW5, hmem, hnd, hsrt⟩
      have hoc5 : w5.cell? ⟨w1.heap.size, 0, none⟩ = some (.slice (some ⟨g, 0, none⟩) m c4) := (World.cell?_of_block (hW5.block w1.heap.size (by omega) (.inl (by omega)))).trans hoc
      have Hs := Lib.hid (And.intro hmem (And.intro hnd hsrt))
      have hsl := Lib.hid hS.len
      have hb5 := Below.mark hb4 hW5 (by omega)
      clear hmem hnd hsrt hoc
      go_wp2_with fail
      refine (compactV_any (D := D) hS (by omega) (by omega) Hr.out h3).mono ?_
      rintro e w6 ⟨rfl, hv6, hr6, hW6⟩
      go_wp2_with fail
      go_ret
      have e1 : (keepI P seq m).map (prAt P) = vtxV (D : Int) hs := by
        rw [keepI_map _ (by rw [hsl.out]; exact Nat.le_refl _), HV.out]
        have h := vSame (D := D) (vs := P) (ps := seq.map (prAt P)) Hred.out (fun x => ?_) (Hs.out.2.2.imp (fun h => by omega))
        · rwa [List.length_map, hsl.out] at h
        · rw [List.mem_map]
          constructor
          · rintro ⟨i, hi, rfl⟩
            exact prAt_mem (by rw [Hml.out]; exact (Hs.out.1 i).1 hi)
          · intro hx
            obtain ⟨i, hi, rfl⟩ := List.getElem_of_mem hx
            exact ⟨i, (Hs.out.1 i).2 (by rw [← Hml.out]; exact hi), prAt_eq hi⟩
      have hsub := keepI_sub (hs := P) (seq := seq) m (by rw [hsl.out]; exact Nat.le_refl _)
      rw [List.take_of_length_le (by rw [hsl.out]; exact Nat.le_refl _)] at hsub
      have hfin := thin_own HO.out.own.apart HO.out.own.count (hsub.nodup Hs.out.2.1) (fun i hi => (Hs.out.1 i).1 (hsub.subset hi)) hgw (by have := hW5.size; have := hW6.size; omega) hv6 hr6
      rw [e1] at hfin
      exact ⟨_, _, _, rfl, ⟨_, hfin.widen (by omega) (Nat.le_refl _)⟩, Below.mark hb5 hW6 (by omega)⟩

end Go.Proofs.YtpfklkmmhdpphaaGreatDoor

/- VerticesOf: how long the results are; both IsWholeRegion. Conditions: sizes. -/
namespace Go.Proofs.YtpfklkmmhdpphaaGreatDoor
open Go.RowKit
set_option linter.unusedVariables false
set_option linter.unusedSimpArgs false

theorem vtxV_red {D : Nat} {hs : List Pr} : ∀ p ∈ vtxV (D : Int) hs, Red D p ∧ D ≤ 3 := fun p hp => by
  unfold vtxV at hp
  split at hp
  · rename_i h
    obtain ⟨D', e, h1, h3, h8, hO⟩ := isReg_okh h
    obtain rfl : D = D' := by omega
    exact ⟨fold_red _ _ (ptsC_red hO h1 h3 _ 0 [] (fun _ h => absurd h (by simp)) (by simp)) (fun _ h => absurd h (by simp)) p hp, h3⟩
  · simp at hp
theorem totH_bound {hs : List Pr} {m : Nat} (h : ∀ p ∈ hs, p.1.length ≤ m) : totH hs ≤ hs.length * m := by
  induction hs with
  | nil => simp [totH, nrms, tot]
  | cons x r ih =>
    have h1 := h x (by simp)
    have h2 := ih fun p hp => h p (by simp [hp])
    simp only [totH, nrms, tot, List.map_cons, List.sum_cons, List.length_cons] at h2 ⊢
    rw [Nat.add_mul, Nat.one_mul]
    omega
theorem vtxV_len (z : Int) (hs : List Pr) : (vtxV z hs).length ≤ 512 ∧ totH (vtxV z hs) ≤ 1536 := by
  by_cases h : isReg z hs = true
  · obtain ⟨D, rfl, h1, h3, h8, hO⟩ := isReg_okh h
    have hl : (vtxV (D : Int) hs).length ≤ 512 := by
      have e : vtxV (D : Int) hs = (ptsC hs D 0 []).foldl vPut [] := by simp [vtxV, h]
      rw [e]
      have h2 := fold_len (ptsC hs D 0 []) []
      have h4 := ptsC_len hs h8 D 0 []
      have h5 : 8 ^ D ≤ 512 := by
        have : D = 1 ∨ D = 2 ∨ D = 3 := by omega
        rcases this with rfl | rfl | rfl <;> decide
      simp only [List.length_nil] at h2
      omega
    refine ⟨hl, Nat.le_trans (totH_bound (m := 3) fun p hp => ?_) (by omega)⟩
    have := vtxV_red p hp
    have h6 := this.1.len
    omega
  · have e : vtxV z hs = [] := by unfold vtxV; rw [if_neg h]
    rw [e]; simp [totH, nrms, tot]

def wholeV (z : Int) (hs : List Pr) : Bool := (vtxV z hs).all (fun p => p.2 == 1) && decide (0 < (vtxV z hs).length)
theorem whole_no {vs : List Pr} {k : Nat} (h : k < vs.length) (hb : ¬ bnd vs k = 1) : (vs.all (fun p => p.2 == 1) && decide (0 < vs.length)) = false := by
  rw [Bool.and_eq_false_iff]
  left
  rw [List.all_eq_false]
  exact ⟨prAt vs k, prAt_mem h, by simpa [bnd] using hb⟩
theorem whole_yes {vs : List Pr} (h : ∀ k, k < vs.length → bnd vs k = 1) : (vs.all (fun p => p.2 == 1) && decide (0 < vs.length)) = decide (0 < vs.length) := by
  have : vs.all (fun p => p.2 == 1) = true := by
    rw [List.all_eq_true]
    intro p hp
    obtain ⟨k, hk, rfl⟩ := List.getElem_of_mem hp
    have := h k hk
    rw [bnd, prAt_eq hk] at this
    simpa using this
  rw [this, Bool.true_and]

set_option maxHeartbeats 1000000 in
theorem implWhole_any (z : Int) (p : Option Addr) (n c : Nat) (hs : List Pr) (w : World) (hn : n ≤ 9223372036854775807) (hx : Prs w p n hs) :
    Calls Tryz.prog 12 #[.agg #[.int .i64 z, .slice p n c]] w (Ret (.bool (wholeV z hs)) w) := by
  have hbw := boxed w (.cells #[.int .i64 z, .slice p n c] 26)
  have hx0 := hx.below hbw
  go_enter Tryz.func12, Tryz.ntmps12
  go_wp2_with fail
  refine (implVertices_any _ _ _ _ _ _ hn hx0).mono ?_
  rintro e w1 ⟨q, m, c1, rfl, ho, hb1⟩
  have hb2 := Below.step hbw hb1
  have hrd := ho.rd
  have hml := Lib.hid hrd.len
  have HV := Lib.hid (show wholeV z hs = ((vtxV z hs).all (fun p => p.2 == 1) && decide (0 < (vtxV z hs).length)) from rfl)
  have hm9 := ho.small
  clear ho hx hx0
  generalize vtxV z hs = vs at *
  go_wp2_with fail
  go_loopw [10] (fun i wr => ∃ k : Nat, k ≤ m ∧ i = .int .i64 k ∧ Hid (∀ j, j < k → bnd vs j = 1) ∧ Below w1.heap.size w1 wr) (fun i _ => m - (intOf i).toNat)
  case atStart => exact ⟨0, Nat.zero_le _, rfl, Lib.hid (fun j hj => absurd hj (by omega)), Below.refl _ _⟩
  case round =>
    obtain ⟨k, hk, rfl, hall, hb⟩ := hrel
    by_cases hlt : k < m
    · obtain ⟨b, o, q2, m2, d2, rfl, hc, hcb, _, _, _⟩ := (hrd.below hb).cell k hlt
      have kb := Box2.new wr (.slice q2 m2 d2) (.int .i64 (bnd vs k)) 32
      have kb1 := kb.c1
      have hbx := Below.step hb (boxed wr (.cells #[.slice q2 m2 d2, .int .i64 (bnd vs k)] 32))
      by_cases h1 : bnd vs k = 1
      · have hne : (bnd vs k != 1) = false := by simp [h1]
        have H1 := Lib.hid h1
        clear h1
        go_wp2_with fail
        go_roundw
        case rel =>
          refine ⟨k + 1, by omega, by go_num, Lib.hid fun j hj => ?_, hbx⟩
          by_cases hjk : j < k
          · exact hall.out j hjk
          · obtain rfl : j = k := by omega
            exact H1.out
        case measure => simp [intOf]; omega
      · have hne : (bnd vs k != 1) = true := by simp [h1]
        have HN := Lib.hid (whole_no (vs := vs) (by rw [hml.out]; exact hlt) h1)
        clear h1
        go_wp2_with fail
        go_ret
        exact ⟨ret_bool (by rw [HV.out, HN.out]), Below.step hb2 hbx⟩
    · obtain rfl : k = m := by omega
      have HY := Lib.hid (whole_yes (vs := vs) (fun j hj => hall.out j (by rw [← hml.out]; exact hj)))
      go_wp2_with fail
      go_ret
      exact ⟨ret_bool (by rw [HV.out, HY.out, hml.out]), Below.step hb2 hb⟩

set_option maxHeartbeats 1000000 in
theorem specWhole_any (z : Int) (p : Option Addr) (n c : Nat) (hs : List Pr) (w : World) (hn : n ≤ 9223372036854775807) (hx : Prs w p n hs) :
    Calls Tryz.prog 13 #[.agg #[.int .i64 z, .slice p n c]] w (Ret (.bool (wholeV z hs)) w) := by
  have hbw := boxed w (.cells #[.int .i64 z, .slice p n c] 26)
  have hx0 := hx.below hbw
  go_enter Tryz.func13, Tryz.ntmps13
  go_wp2_with fail
  refine (specVertices_any _ _ _ _ _ _ hn hx0).mono ?_
  rintro e w1 ⟨q, m, c1, rfl, ho, hb1⟩
  have hb2 := Below.step hbw hb1
  have hrd := ho.rd
  have hml := Lib.hid hrd.len
  have HV := Lib.hid (show wholeV z hs = ((vtxV z hs).all (fun p => p.2 == 1) && decide (0 < (vtxV z hs).length)) from rfl)
  have hm9 := ho.small
  clear ho hx hx0
  generalize vtxV z hs = vs at *
  go_wp2_with fail
  go_loop [4] (fun i => ∃ k : Nat, k ≤ m ∧ i = .int .i64 k ∧ Hid (∀ j, j < k → bnd vs j = 1)) (fun i => m - (intOf i).toNat)
  case atStart => exact ⟨0, Nat.zero_le _, rfl, Lib.hid (fun j hj => absurd hj (by omega))⟩
  case round =>
    obtain ⟨k, hk, rfl, hall⟩ := hrel
    by_cases hlt : k < m
    · obtain ⟨b, o, q2, m2, d2, rfl, hc, hcb, _, _, _⟩ := hrd.cell k hlt
      by_cases h1 : bnd vs k = 1
      · have hne : (bnd vs k != 1) = false := by simp [h1]
        have H1 := Lib.hid h1
        clear h1
        go_wp2_with fail
        go_round
        case rel =>
          refine ⟨k + 1, by omega, by go_num, Lib.hid fun j hj => ?_⟩
          by_cases hjk : j < k
          · exact hall.out j hjk
          · obtain rfl : j = k := by omega
            exact H1.out
        case measure => simp [intOf]; omega
      · have hne : (bnd vs k != 1) = true := by simp [h1]
        have HN := Lib.hid (whole_no (vs := vs) (by rw [hml.out]; exact hlt) h1)
        clear h1
        go_wp2_with fail
        go_ret
        exact ⟨ret_bool (by rw [HV.out, HN.out]), hb2⟩
    · obtain rfl : k = m := by omega
      have HY := Lib.hid (whole_yes (vs := vs) (fun j hj => hall.out j (by rw [← hml.out]; exact hj)))
      go_wp2_with fail
      go_ret
      exact ⟨ret_bool (by rw [HV.out, HY.out, hml.out]), hb2⟩

end Go.Proofs.YtpfklkmmhdpphaaGreatDoor
