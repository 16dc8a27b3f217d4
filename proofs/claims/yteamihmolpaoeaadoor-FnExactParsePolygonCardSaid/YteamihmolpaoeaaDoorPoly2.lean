/- Plain geometry of the plane: a polygon told by its turns is its own hull, and a hull is such a polygon. No program in sight. Conditions: none. -/
import Derived.Test.YteamihmolpaoeaaDoorPoly1
namespace Go.Proofs.YteamihmolpaoeaaDoor
set_option linter.unusedVariables false
set_option linter.unusedSimpArgs false
set_option maxRecDepth 100000

/-- Triples with neighbours, out of triples of neighbours. -/
theorem span_all {T : Nat → Nat → Nat → Prop} {lo hi : Nat} (h0 : ∀ i, lo ≤ i → i + 2 ≤ hi → T i (i + 1) (i + 2))
    (hs : ∀ i j k l, lo ≤ i → i < j → j < k → k < l → l ≤ hi → T i j k → T j k l → T i j l ∧ T i k l) :
    ∀ d i, lo ≤ i → i + 2 + d ≤ hi → T i (i + 1) (i + 2 + d) ∧ T i (i + 1 + d) (i + 2 + d) := by
  intro d
  induction d with
  | zero => intro i h1 h2; exact ⟨h0 i h1 h2, h0 i h1 h2⟩
  | succ d ih =>
    intro i h1 h2
    have e1 := (ih i h1 (by omega)).1
    have e2 := (ih (i + 1) (by omega) (by omega)).2
    rw [show i + 1 + 1 + d = i + 2 + d by omega, show i + 1 + 2 + d = i + 2 + (d + 1) by omega] at e2
    have := hs i (i + 1) (i + 2 + d) (i + 2 + (d + 1)) h1 (by omega) (by omega) (by omega) h2 e1 e2
    rw [show i + 1 + (d + 1) = i + 2 + d by omega]
    exact this
theorem span_first {T : Nat → Nat → Nat → Prop} {lo hi : Nat} (h0 : ∀ i, lo ≤ i → i + 2 ≤ hi → T i (i + 1) (i + 2))
    (hs : ∀ i j k l, lo ≤ i → i < j → j < k → k < l → l ≤ hi → T i j k → T j k l → T i j l ∧ T i k l) {i k : Nat} (h1 : lo ≤ i) (h2 : i + 2 ≤ k) (h3 : k ≤ hi) : T i (i + 1) k := by
  have := (span_all h0 hs (k - i - 2) i h1 (by omega)).1
  rwa [show i + 2 + (k - i - 2) = k by omega] at this
theorem span_last {T : Nat → Nat → Nat → Prop} {lo hi : Nat} (h0 : ∀ i, lo ≤ i → i + 2 ≤ hi → T i (i + 1) (i + 2))
    (hs : ∀ i j k l, lo ≤ i → i < j → j < k → k < l → l ≤ hi → T i j k → T j k l → T i j l ∧ T i k l) {i k : Nat} (h1 : lo ≤ i) (h2 : i < k) (h3 : k + 1 ≤ hi) : T i k (k + 1) := by
  have := (span_all h0 hs (k - i - 1) i h1 (by omega)).2
  rwa [show i + 1 + (k - i - 1) = k by omega, show i + 2 + (k - i - 1) = k + 1 by omega] at this

/-! ### Stacks by index -/
def seg (Q : Nat → Pt) (lo : Nat) : Nat → List Pt
  | 0 => [Q lo]
  | k + 1 => Q (lo + k + 1) :: seg Q lo k

theorem seg_rev (Q : Nat → Pt) (lo : Nat) : ∀ k, (seg Q lo k).reverse = (List.range (k + 1)).map fun i => Q (lo + i)
  | 0 => by simp [seg, List.range_succ]
  | k + 1 => by
    rw [seg, List.reverse_cons, seg_rev Q lo k, List.range_succ (n := k + 1), List.map_append]
    simp [Nat.add_assoc]
theorem seg_drop (Q : Nat → Pt) (lo k : Nat) : (seg Q lo k).reverse.dropLast = (List.range k).map fun i => Q (lo + i) := by
  rw [seg_rev, List.range_succ, List.map_append]
  simp
theorem seg_head (Q : Nat → Pt) (lo k : Nat) : (seg Q lo k).head? = some (Q (lo + k)) := by
  cases k <;> rfl
theorem seg_last (Q : Nat → Pt) (lo : Nat) : ∀ k, (seg Q lo k).getLast? = some (Q lo)
  | 0 => rfl
  | k + 1 => by
    have := seg_last Q lo k
    rw [seg]
    cases h : seg Q lo k with
    | nil => rw [h] at this; simp at this
    | cons a r => rw [List.getLast?_cons_cons, ← h]; exact this
theorem seg_cons (Q : Nat → Pt) (lo k : Nat) : ∃ r, seg Q lo k = Q (lo + k) :: r := by
  cases k with
  | zero => exact ⟨[], rfl⟩
  | succ k => exact ⟨_, rfl⟩
theorem seg_length (Q : Nat → Pt) (lo : Nat) : ∀ k, (seg Q lo k).length = k + 1
  | 0 => rfl
  | k + 1 => by rw [seg, List.length_cons, seg_length Q lo k]
theorem seg_mem {Q : Nat → Pt} {lo : Nat} {a : Pt} : ∀ {k}, a ∈ seg Q lo k ↔ ∃ i, i ≤ k ∧ a = Q (lo + i)
  | 0 => by
    simp only [seg, List.mem_singleton]
    exact ⟨fun h => ⟨0, by omega, h⟩, fun ⟨i, h, e⟩ => by
      obtain rfl : i = 0 := by omega
      exact e⟩
  | k + 1 => by
    rw [seg, List.mem_cons, seg_mem (k := k)]
    constructor
    · rintro (h | ⟨i, h, e⟩)
      · exact ⟨k + 1, by omega, h⟩
      · exact ⟨i, by omega, e⟩
    · rintro ⟨i, h, e⟩
      by_cases hi : i = k + 1
      · subst hi; exact .inl e
      · exact .inr ⟨i, by omega, e⟩
theorem seg_desc {Q : Nat → Pt} {lo : Nat} : ∀ {k}, (∀ i, i < k → lx (Q (lo + i)) (Q (lo + i + 1))) → DescR (seg Q lo k)
  | 0, _ => trivial
  | k + 1, h => by
    have ih := seg_desc (k := k) fun i hi => h i (by omega)
    have h1 := h k (by omega)
    rw [seg]
    obtain ⟨r, e⟩ := seg_cons Q lo k
    rw [e] at ih ⊢
    exact ⟨h1, ih⟩
theorem seg_desc' {Q : Nat → Pt} {lo : Nat} : ∀ {k}, DescR (seg Q lo k) → ∀ i, i < k → lx (Q (lo + i)) (Q (lo + i + 1))
  | 0, _, i, hi => by omega
  | k + 1, h, i, hi => by
    rw [seg] at h
    obtain ⟨r, e⟩ := seg_cons Q lo k
    rw [e] at h
    by_cases hk : i = k
    · subst hk; exact h.1
    · exact seg_desc' (k := k) (by rw [e]; exact h.2) i (by omega)
theorem seg_conv {Q : Nat → Pt} {lo : Nat} : ∀ {k}, (∀ i, i + 2 ≤ k → 0 < tn (Q (lo + i)) (Q (lo + i + 1)) (Q (lo + i + 2))) → ConvR (seg Q lo k)
  | 0, _ => trivial
  | 1, _ => trivial
  | k + 2, h => by
    have ih := seg_conv (k := k + 1) fun i hi => h i (by omega)
    have h1 := h k (by omega)
    rw [seg] at ih
    rw [seg, seg]
    obtain ⟨r, e⟩ := seg_cons Q lo k
    rw [e] at ih ⊢
    exact ⟨h1, ih⟩
theorem seg_conv' {Q : Nat → Pt} {lo : Nat} : ∀ {k}, ConvR (seg Q lo k) → ∀ i, i + 2 ≤ k → 0 < tn (Q (lo + i)) (Q (lo + i + 1)) (Q (lo + i + 2))
  | 0, _, i, hi => by omega
  | 1, _, i, hi => by omega
  | k + 2, h, i, hi => by
    rw [seg, seg] at h
    obtain ⟨r, e⟩ := seg_cons Q lo k
    rw [e] at h
    by_cases hk : i = k
    · subst hk; exact h.1
    · exact seg_conv' (k := k + 1) (by rw [seg, e]; exact h.2) i (by omega)
theorem seg_edge {S : List Pt} {Q : Nat → Pt} {lo : Nat} : ∀ {k}, (∀ i, i < k → ∀ s ∈ S, 0 ≤ tn (Q (lo + i)) (Q (lo + i + 1)) s) → EdgeR S (seg Q lo k)
  | 0, _ => trivial
  | k + 1, h => by
    have ih := seg_edge (k := k) fun i hi => h i (by omega)
    have h1 := h k (by omega)
    rw [seg]
    obtain ⟨r, e⟩ := seg_cons Q lo k
    rw [e] at ih ⊢
    exact ⟨h1, ih⟩
theorem seg_edge' {S : List Pt} {Q : Nat → Pt} {lo : Nat} : ∀ {k}, EdgeR S (seg Q lo k) → ∀ i, i < k → ∀ s ∈ S, 0 ≤ tn (Q (lo + i)) (Q (lo + i + 1)) s
  | 0, _, i, hi => by omega
  | k + 1, h, i, hi => by
    rw [seg] at h
    obtain ⟨r, e⟩ := seg_cons Q lo k
    rw [e] at h
    by_cases hk : i = k
    · subst hk; exact h.1
    · exact seg_edge' (k := k) (by rw [e]; exact h.2) i (by omega)
theorem seg_map (f : Pt → Pt) (Q : Nat → Pt) (lo : Nat) : ∀ k, (seg Q lo k).map f = seg (fun i => f (Q i)) lo k
  | 0 => rfl
  | k + 1 => by rw [seg, List.map_cons, seg_map f Q lo k, seg]
theorem seg_congr {Q Q' : Nat → Pt} {lo : Nat} : ∀ {k}, (∀ i, i ≤ k → Q (lo + i) = Q' (lo + i)) → seg Q lo k = seg Q' lo k
  | 0, h => by simpa [seg] using h 0 (by omega)
  | k + 1, h => by rw [seg, seg, seg_congr (k := k) fun i hi => h i (by omega), Nat.add_assoc, h (k + 1) (by omega)]
/-- Each stack is one by index. -/
theorem seg_of (st : List Pt) (h : st ≠ []) : ∃ Q, st = seg Q 0 (st.length - 1) := by
  refine ⟨fun i => st.reverse.getD i (0, 0), ?_⟩
  have hl : 0 < st.length := List.length_pos_iff.2 h
  have := seg_rev (fun i => st.reverse.getD i (0, 0)) 0 (st.length - 1)
  rw [← List.reverse_inj, this, show st.length - 1 + 1 = st.length by omega]
  refine List.ext_getElem (by simp) fun i h1 h2 => ?_
  simp only [List.length_reverse] at h1
  simp [List.getD, h1]

/-! ### The upper side is the lower side of the mirrored points -/
def ng (a : Pt) : Pt := (-a.1, -a.2)
theorem ng_ng (a : Pt) : ng (ng a) = a := by simp [ng]
theorem ng_inj {a b : Pt} (h : ng a = ng b) : a = b := by rw [← ng_ng a, h, ng_ng]
theorem tn_ng (a b c : Pt) : tn (ng a) (ng b) (ng c) = tn a b c := by unfold tn cr sb ng; grind
theorem lx_ng {a b : Pt} : lx (ng a) (ng b) ↔ lx b a := by unfold lx ng; simp only; omega
theorem ng_mem {a : Pt} {S : List Pt} : ng a ∈ S.map ng ↔ a ∈ S := by
  rw [List.mem_map]
  exact ⟨fun ⟨b, hb, e⟩ => ng_inj e ▸ hb, fun h => ⟨a, h, rfl⟩⟩
theorem map_ng_ng (l : List Pt) : (l.map ng).map ng = l := by
  rw [List.map_map]
  have : (ng ∘ ng) = id := funext ng_ng
  rw [this, List.map_id]

theorem pushC_map {α β : Type} {t : α → α → α → Int} {t' : β → β → β → Int} (f : α → β) (h : ∀ a b c, t' (f a) (f b) (f c) = t a b c) (x : α) : ∀ st, (pushC t st x).map f = pushC t' (st.map f) (f x)
  | [] => rfl
  | [_] => rfl
  | b :: a :: r => by
    rw [pushC, List.map_cons, List.map_cons, pushC, h]
    split
    · rw [pushC_map f h x (a :: r), List.map_cons]
    · rfl
theorem foldC_map {α β : Type} {t : α → α → α → Int} {t' : β → β → β → Int} (f : α → β) (h : ∀ a b c, t' (f a) (f b) (f c) = t a b c)   : ∀ (l st : List α), (l.foldl (pushC t) st).map f = (l.map f).foldl (pushC t') (st.map f)
  | [], _ => rfl
  | x :: l, st => by rw [List.foldl_cons, foldC_map f h l, pushC_map f h, List.map_cons, List.foldl_cons]
theorem chainR_map {α β : Type} {t : α → α → α → Int} {t' : β → β → β → Int} (f : α → β) (h : ∀ a b c, t' (f a) (f b) (f c) = t a b c) (l : List α) : (chainR t l).map f = chainR t' (l.map f) := foldC_map f h l []
theorem hullOf_map {α β : Type} {t : α → α → α → Int} {t' : β → β → β → Int} (f : α → β) (h : ∀ a b c, t' (f a) (f b) (f c) = t a b c) (l : List α) : (hullOf t l).map f = hullOf t' (l.map f) := by
  unfold hullOf
  rw [List.map_append, List.map_dropLast, List.map_dropLast, List.map_reverse, List.map_reverse, chainR_map f h, chainR_map f h, List.map_reverse]
theorem pushC_length {α : Type} {t : α → α → α → Int} (x : α) : ∀ st, (pushC t st x).length ≤ st.length + 1
  | [] => by simp [pushC]
  | [_] => by simp [pushC]
  | b :: a :: r => by
    rw [pushC]
    split
    · have := pushC_length (t := t) x (a :: r)
      simp only [List.length_cons] at this ⊢; omega
    · simp
theorem foldC_length {α : Type} {t : α → α → α → Int} : ∀ (l st : List α), (l.foldl (pushC t) st).length ≤ st.length + l.length
  | [], st => by simp
  | x :: l, st => by
    have h1 := foldC_length (t := t) l (pushC t st x)
    have h2 := pushC_length (t := t) x st
    simp only [List.foldl_cons, List.length_cons] at *; omega
theorem hullOf_length {α : Type} (t : α → α → α → Int) (l : List α) : (hullOf t l).length ≤ 2 * (l.length - 1) := by
  have h1 := foldC_length (t := t) l []
  have h2 := foldC_length (t := t) l.reverse []
  simp only [hullOf, List.length_append, List.length_dropLast, List.length_reverse, chainR, List.length_nil] at *; omega

theorem pairwise_last {x : Pt} : ∀ {S : List Pt}, (x :: S).Pairwise lx → ∀ s ∈ x :: S, s = (x :: S).getLast (by simp) ∨ lx s ((x :: S).getLast (by simp))
  | [], _, s, hs => .inl (by simpa using hs)
  | y :: S, h, s, hs => by
    have hp := List.pairwise_cons.1 h
    rw [List.getLast_cons (by simp)]
    rcases List.mem_cons.1 hs with rfl | hs
    · rcases pairwise_last hp.2 y (by simp) with e | e
      · rw [← e]; exact .inr (hp.1 y (by simp))
      · exact .inr ((hp.1 y (by simp)).trans e)
    · exact pairwise_last hp.2 s hs

/-- Both sides of the hull of points in order. -/
theorem sides_ok (S : List Pt) (h : S ≠ []) (hp : S.Pairwise lx) : ∃ mn mx, Hul S (chainR tn S) mn mx ∧ Hul (S.map ng) ((chainR tn S.reverse).map ng) (ng mx) (ng mn) ∧ mn ∈ S ∧ mx ∈ S ∧ (∀ s ∈ S, s = mx ∨ lx s mx) := by
  obtain ⟨x, S', rfl⟩ := List.exists_cons_of_ne_nil h
  have h1 := chain_ok x S' hp
  have hlast := pairwise_last hp
  generalize hmx : (x :: S').getLast (by simp) = mx at *
  have hmxS : mx ∈ x :: S' := by rw [← hmx]; exact List.getLast_mem _
  have hrev : ((x :: S').reverse.map ng).Pairwise lx := by
    rw [List.pairwise_map, List.pairwise_reverse]
    exact hp.imp fun h => lx_ng.2 h
  have hne : (x :: S').reverse.map ng ≠ [] := by simp
  obtain ⟨y, R, hR⟩ := List.exists_cons_of_ne_nil hne
  rw [hR] at hrev
  have h2 := chain_ok y R hrev
  have hy : y = ng mx := by
    have e : ((x :: S').reverse.map ng).head? = some (ng mx) := by
      rw [List.head?_map, List.head?_reverse, List.getLast?_eq_some_getLast (by simp), hmx]; rfl
    rw [hR] at e
    simpa using e
  have hl : (y :: R).getLast (by simp) = ng x := by
    have e : ((x :: S').reverse.map ng).getLast? = some (ng x) := by
      rw [List.getLast?_map, List.getLast?_reverse]; rfl
    rw [hR, List.getLast?_eq_some_getLast (by simp)] at e
    simpa using e
  rw [hl, ← hR, ← chainR_map ng tn_ng, hy] at h2
  have hmem : ∀ a, a ∈ (x :: S').reverse.map ng ↔ a ∈ (x :: S').map ng := fun a => by simp only [List.mem_map, List.mem_reverse]
  exact ⟨x, mx, h1, ⟨h2.desc, h2.conv, h2.edge.mono fun s hs => (hmem s).2 hs, h2.low, h2.high, fun a ha => (hmem a).1 (h2.sub a ha), fun s hs => h2.least s ((hmem s).2 hs)⟩, by simp, hmxS, hlast⟩

end Go.Proofs.YteamihmolpaoeaaDoor
