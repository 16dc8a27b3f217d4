/- More words for slices of pairs: made by make, grown by append, written in place. Conditions: none. -/
import Derived.Test.YtpfklkmmhdpphaaGreatDoorHalves
import Derived.Test.YtpfklkmmhdpphaaGreatDoorPairs
namespace Go.Proofs.YtpfklkmmhdpphaaGreatDoor
open Go.RowKit
set_option linter.unusedVariables false
set_option linter.unusedSimpArgs false
set_option maxRecDepth 100000

def mixP (ys zs : List Pr) (k : Nat) : List Pr := ys.take k ++ zs.drop k
theorem mixP_zero (ys zs : List Pr) : mixP ys zs 0 = zs := by simp [mixP]
theorem mixP_all {ys zs : List Pr} {k : Nat} (h : ys.length ≤ k) (h' : zs.length ≤ k) : mixP ys zs k = ys := by
  simp [mixP, List.take_of_length_le h, List.drop_eq_nil_of_le h']
theorem mixP_set {ys zs : List Pr} {k : Nat} (h : k < ys.length) (h' : k < zs.length) : (mixP ys zs k).set k (prAt ys k) = mixP ys zs (k + 1) := by
  unfold mixP
  rw [take_prAt h, List.set_append_right _ _ (by simp; omega)]
  have e : k - (ys.take k).length = 0 := by simp; omega
  rw [e, List.drop_eq_getElem_cons h', List.set_cons_zero]
  simp
theorem mixP_at {ys zs : List Pr} {k : Nat} (h2 : k ≤ ys.length) : prAt (mixP ys zs k) k = prAt zs k := by
  have hl : (ys.take k).length = k := by simp; omega
  unfold mixP prAt
  simp [List.getD, List.getElem?_append_right, hl]
theorem mixP_length {ys zs : List Pr} {k : Nat} (h : k ≤ ys.length) (h' : ys.length = zs.length) : (mixP ys zs k).length = ys.length := by
  simp [mixP]; omega

theorem made_pairs (n : Nat) : (madeCells (Value.agg #[.slice none 0 0, .int .i64 0]).cells (n * 2)).toList = pcells (List.replicate n (none, 0, 0)) (List.replicate n ([], 0)) := by
  have e : (Value.agg #[.slice none 0 0, .int .i64 0]).cells = #[.slice none 0 0, .int .i64 0] := rfl
  rw [e]
  apply List.ext_getElem
  · rw [pcells_length (by simp)]; simp [size_madeCells]
  · intro i h1 h2
    simp only [madeCells, Array.getElem_toList, Array.getElem_map, Array.getElem_range]
    have hi : i < n * 2 := by simpa [size_madeCells] using h1
    have hr := pcells_row (rows := List.replicate n ((none, 0, 0) : Row)) (hs := List.replicate n (([], 0) : Pr)) (by simp) (k := i / 2) (by simp; omega)
    have hb : bnd (List.replicate n (([], 0) : Pr)) (i / 2) = 0 := by rw [bnd, prAt_eq (by simp; omega)]; simp
    rw [hb] at hr
    simp only [List.getElem_replicate] at hr
    rcases Nat.mod_two_eq_zero_or_one i with h0 | h0
    · have h3 := hr.1
      rw [show i / 2 * 2 = i by omega] at h3
      rw [List.getElem?_eq_getElem h2] at h3
      injection h3 with h3
      rw [h3]
      simp [h0, Row.val]
    · have h3 := hr.2
      rw [show i / 2 * 2 + 1 = i by omega] at h3
      rw [List.getElem?_eq_getElem h2] at h3
      injection h3 with h3
      rw [h3]
      simp [h0]

theorem made_ownP {E : TypeId} {w w1 : World} {n : Nat} (hown : w1.ownsRow w.heap.size E 2 (.slice (some ⟨w.heap.size, 0, none⟩) n n) n (madeCells (Value.agg #[.slice none 0 0, .int .i64 0]).cells (n * 2)).toList) :
    OwnP E w1 w.heap.size w1.heap.size (some ⟨w.heap.size, 0, none⟩) n n (List.replicate n (none, 0, 0)) (List.replicate n ([], 0)) := by
  rw [made_pairs] at hown
  refine ⟨⟨hown, fun a ha => by have := hown.lt a.block (by rw [ha]; rfl); exact this.2⟩, by simp, fun k hk => ?_, ?_⟩
  · simp only [List.getElem_replicate]
    rw [show nrm (List.replicate n (([], 0) : Pr)) k = [] by simp only [List.length_replicate] at hk; rw [nrm, prAt_eq (by simpa using hk)]; simp]
    exact Own.nil _ _ _
  · rw [List.pairwise_iff_getElem]
    intro i j _ _ _
    exact .inr (by simp)

/-- Behind the append of a pair whose row is new. w: where the row is known; W: at the append; W': behind it. -/
theorem OwnP.app {E : TypeId} (hE : E ≠ 3) {w W W' : World} {lo mid : Nat} {p p' : Option Addr} {n c c' : Nat} {rows : List Row} {hs : List Pr} (h : OwnP E w lo mid p n c rows hs)
    {hi : Nat} {q : Option Addr} {m d : Nat} {ys : List Int} {b : Int} (hr : Own w mid hi q m d ys) (hlm : lo ≤ mid)
    (hb : Below w.heap.size w W) (hv : OwnV W' E 2 lo W'.heap.size p' (n + 1) c' (pcells rows hs ++ [.slice q m d, .int .i64 b])) (hg : Grow W W' p p') :
    OwnP E W' lo W'.heap.size p' (n + 1) c' (rows ++ [(q, m, d)]) (hs ++ [(ys, b)]) := by
  have hc := h.count
  have hl := h.len
  have keep : ∀ {lo' hi' : Nat} {q' : Option Addr} {n' c' : Nat} {zs : List Int}, lo ≤ lo' → Own w lo' hi' q' n' c' zs → Own W' lo W'.heap.size q' n' c' zs := fun hlo hz =>
    ((hz.below hb).kept (q := p) hg.by_ ((h.outer.below hb).ne (hz.below hb).v hE)).up.widen hlo (Nat.le_refl _)
  refine ⟨by rw [pcells_app hl]; exact hv, by simp [hl], fun k hk => ?_, ?_⟩
  · by_cases hkl : k < rows.length
    · rw [nrm, prAt_app (by omega)]
      simp only [List.getElem_append_left hkl]
      exact keep (Nat.le_refl _) (h.inner k hkl)
    · simp only [List.length_append, List.length_cons, List.length_nil] at hk
      obtain rfl : k = rows.length := by omega
      have e : nrm (hs ++ [(ys, b)]) rows.length = ys := by rw [nrm, hl, prAt_last]
      rw [e]
      simp only [List.getElem_append_right (Nat.le_refl _), Nat.sub_self, List.getElem_cons_zero]
      exact keep hlm hr
  · rw [List.pairwise_append]
    refine ⟨h.apart, List.pairwise_singleton _ _, fun r hr1 s hs => ?_⟩
    simp only [List.mem_singleton] at hs
    subst hs
    obtain ⟨j, hj, rfl⟩ := List.getElem_of_mem hr1
    exact (h.inner j hj).apart hr (.inl (Nat.le_refl _))

/-- The number of one pair is written anew. -/
theorem OwnP.setB {E : TypeId} (hE : E ≠ 3) {w : World} {lo hi g : Nat} {n c : Nat} {rows : List Row} {hs : List Pr} (h : OwnP E w lo hi (some ⟨g, 0, none⟩) n c rows hs) (k : Nat) (hk : k < n) (b : Int) :
    OwnP E (w.setCell ⟨g, k * 2 + 1, none⟩ (.int .i64 b)) lo hi (some ⟨g, 0, none⟩) n c rows (hs.set k (nrm hs k, b)) := by
  have hc := h.count
  have hl := h.len
  refine ⟨⟨?_, h.outer.top⟩, by simpa using hl, fun j hj => ?_, h.apart⟩
  · rw [← pcells_set1 hl (by omega)]
    exact (h.outer.row.stored (g := g) (cap := c) (k * 2 + 1) (.int .i64 b)).1
  · have hin := (h.inner j hj).kept (q := some ⟨g, 0, none⟩) (set_grown w g (k * 2 + 1) (.int .i64 b)) (h.outer.ne (h.inner j hj).v hE)
    have e : nrm (hs.set k (nrm hs k, b)) j = nrm hs j := by
      rw [nrm, prAt_set (by omega)]
      split
      · rename_i e; subst e; rfl
      · rfl
    rw [e]; exact hin

theorem Own.emptyOf {w : World} {lo hi : Nat} {p : Option Addr} {n c : Nat} {xs : List Int} (h : Own w lo hi p n c xs) (h0 : n = 0) : xs = [] := by
  have := h.len; exact List.length_eq_zero_iff.1 (by omega)

/-- One row of the pairs is written anew. -/
theorem OwnP.mark {E : TypeId} (hE : E ≠ 3) {w : World} {lo hi : Nat} {p : Option Addr} {n c : Nat} {rows : List Row} {hs : List Pr} (h : OwnP E w lo hi p n c rows hs) (k : Nat) (hk : k < rows.length) :
    ∃ lo' hi', Own w lo' hi' rows[k].1 rows[k].2.1 rows[k].2.2 (nrm hs k) ∧ ∀ (w' : World) (ys : List Int), Own w' lo' hi' rows[k].1 rows[k].2.1 rows[k].2.2 ys → Within lo' hi' w w' → OwnP E w' lo hi p n c rows (hs.set k (ys, bnd hs k)) ∧ Within lo hi w w' := by
  have hT : 3 ≠ E := fun e => hE e.symm
  have hc := h.count
  have hl := h.len
  have hin := h.inner k hk
  have hcs : ∀ ys : List Int, pcells rows (hs.set k (ys, bnd hs k)) = pcells rows hs := fun ys => by
    have h1 := pcells_set hl hk rows[k] (ys, bnd hs k)
    have h2 := pcells_set hl hk rows[k] (nrm hs k, bnd hs k)
    rw [List.set_getElem_self] at h1 h2
    rw [← h1]
    have e : hs.set k (nrm hs k, bnd hs k) = hs := by
      rw [show (nrm hs k, bnd hs k) = prAt hs k from rfl, prAt_eq (by omega)]; exact List.set_getElem_self _
    rw [e] at h2
    exact h2
  have hlens : ∀ ys : List Int, rows.length = (hs.set k (ys, bnd hs k)).length := fun ys => by simpa using hl
  rcases hin.form with ⟨hp, hn, hcc⟩ | ⟨g, hp, hg1, hg2, hg3, _⟩
  · have hlh : lo ≤ hi := by
      rcases h.outer.form with ⟨_, hn0, _⟩ | ⟨g, _, h1, h2, _⟩
      · omega
      · omega
    have e0 := hin.emptyOf hn
    refine ⟨lo, lo, ?_, fun w' ys ho hw => ?_⟩
    · rw [hp, hn, hcc, e0]; exact Own.nil _ _ _
    · have e1 := ho.emptyOf hn
      subst e1
      have e2 : hs.set k ([], bnd hs k) = hs := by
        rw [← e0, show (nrm hs k, bnd hs k) = prAt hs k from rfl, prAt_eq (by omega)]; exact List.set_getElem_self _
      rw [e2]
      exact ⟨h.within hw (.inr (Nat.le_refl _)), hw.wide (Nat.le_refl _) hlh⟩
  · refine ⟨g, g + 1, ?_, fun w' ys ho hw => ⟨⟨?_, hlens ys, fun j hj => ?_, h.apart⟩, hw.wide hg1 hg2⟩⟩
    · rw [hp] at hin ⊢; exact hin.tight
    · rw [hcs]
      exact h.outer.kept (q := rows[k].1) (by rw [hp]; exact hw.grownAt) (hin.v.ne h.outer hT)
    · rw [nrm, prAt_set (by omega)]
      by_cases hjk : k = j
      · subst hjk
        rw [if_pos rfl]
        exact ho.widen hg1 hg2
      · rw [if_neg hjk]
        have hap : blk rows[k].1 ≠ blk rows[j].1 ∨ rows[j].1 = none := by
          have h2 := List.pairwise_iff_getElem.1 h.apart
          by_cases hlt : k < j
          · rcases h2 k j hk hj hlt with h3 | h3
            · exact .inl h3
            · rw [hp] at h3; cases h3
          · rcases h2 j k hj hk (by omega) with h3 | h3
            · exact .inl fun e => h3 e.symm
            · exact .inr h3
        exact (h.inner j hj).kept (q := rows[k].1) (by rw [hp]; exact hw.grownAt) hap

theorem OwnP.rowAt {E : TypeId} {w : World} {lo hi : Nat} {p : Option Addr} {n c : Nat} {rows : List Row} {hs : List Pr} (h : OwnP E w lo hi p n c rows hs) (k : Nat) (hlt : k < n) (hk : k < rows.length) :
    ∃ g, p = some ⟨g, 0, none⟩ ∧ lo ≤ g ∧ g < hi ∧ w.cell? ⟨g, k * 2, none⟩ = some (.slice rows[k].1 rows[k].2.1 rows[k].2.2) ∧ w.cell? ⟨g, k * 2 + 1, none⟩ = some (.int .i64 (bnd hs k)) ∧ (∀ j, w.frozen? ⟨g, j, none⟩ = false) := by
  rcases h.outer.form with ⟨_, rfl, _⟩ | ⟨g, rfl, h1, h2, _⟩
  · omega
  · have hr := pcells_row h.len (k := k) hk
    have hcell := h.outer.cell (k := k * 2) (by omega)
    have hcell2 := h.outer.cell (k := k * 2 + 1) (by omega)
    rw [hr.1] at hcell
    rw [hr.2] at hcell2
    exact ⟨g, rfl, h1, h2, hcell, hcell2, h.outer.frozen⟩

/-- The empty slice of pairs. -/
theorem OwnP.empty (E : TypeId) (w : World) : OwnP E (w.alloc (.cells #[] E)) w.heap.size (w.heap.size + 1) (some ⟨w.heap.size, 0, none⟩) 0 0 [] [] :=
  ⟨⟨World.ownsRow_made w #[] 0 (Nat.le_refl _) (Nat.zero_le _) rfl, fun a ha => by injection ha with ha; subst ha; exact Nat.lt_succ_self _⟩, rfl, fun k h => absurd h (by simp), List.Pairwise.nil⟩

/-- The slices of numbers of pairs. -/
def nrms (hs : List Pr) : List (List Int) := hs.map (·.1)
theorem nrms_length (hs : List Pr) : (nrms hs).length = hs.length := by simp [nrms]
theorem nrms_nth {hs : List Pr} {k : Nat} (h : k < hs.length) : nthR (nrms hs) k = nrm hs k := by
  rw [nthR_eq (by rw [nrms_length]; exact h), nrm, prAt_eq h]; simp [nrms]
def totH (hs : List Pr) : Nat := tot (nrms hs)
theorem totH_take {hs : List Pr} {k : Nat} (h : k < hs.length) : totH (hs.take (k + 1)) = totH (hs.take k) + (nrm hs k).length := by
  unfold totH
  have := tot_take (xss := nrms hs) (k := k) (by rw [nrms_length]; exact h)
  rw [nrms_nth h] at this
  simpa [nrms, List.map_take] using this
theorem totH_le (hs : List Pr) (k : Nat) : totH (hs.take k) ≤ totH hs := by
  have := tot_le (nrms hs) k
  simpa [totH, nrms, List.map_take] using this
theorem len_le_totH {hs : List Pr} {k : Nat} (h : k < hs.length) : (nrm hs k).length ≤ totH hs := by
  have := totH_le hs (k + 1)
  rw [totH_take h] at this
  omega

/-- The numbers from k on, in pairs whose slices are as long as those of hs. -/
def upP : Int → List Pr → List Pr
  | _, [] => []
  | k, h :: r => (upFrom k h.1.length, k + (h.1.length : Int)) :: upP (k + (h.1.length : Int) + 1) r
theorem upP_length (hs : List Pr) : ∀ k, (upP k hs).length = hs.length := by
  induction hs with
  | nil => intro k; rfl
  | cons x r ih => intro k; simp [upP, ih]
theorem upP_at (hs : List Pr) : ∀ (k0 : Int) (k : Nat), k < hs.length → prAt (upP k0 hs) k = (upFrom (k0 + (totH (hs.take k) : Nat) + k) (nrm hs k).length, k0 + (totH (hs.take k) : Nat) + k + ((nrm hs k).length : Int)) := by
  induction hs with
  | nil => intro k0 k h; simp at h
  | cons x r ih =>
    intro k0 k h
    cases k with
    | zero => simp [prAt, nrm, upP, totH, nrms, tot]
    | succ k =>
      have h' : k < r.length := by simpa using h
      have := ih (k0 + (x.1.length : Int) + 1) k h'
      rw [show prAt (upP k0 (x :: r)) (k + 1) = prAt (upP (k0 + (x.1.length : Int) + 1) r) k by simp [prAt, upP], this,
        show nrm (x :: r) (k + 1) = nrm r k by simp [nrm, prAt]]
      have e : k0 + (x.1.length : Int) + 1 + (totH (r.take k) : Nat) + (k : Int) = k0 + (totH ((x :: r).take (k + 1)) : Nat) + ((k + 1 : Nat) : Int) := by
        simp only [List.take_succ_cons, totH, nrms, tot, List.map_cons, List.sum_cons]
        omega
      rw [e]

end Go.Proofs.YtpfklkmmhdpphaaGreatDoor
