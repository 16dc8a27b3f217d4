/- Plain geometry of the plane: a polygon told by its turns is the hull of its corners. No program in sight. Conditions: none. -/
import Derived.Test.YteamihmolpaoeaaDoorPoly2
namespace Go.Proofs.YteamihmolpaoeaaDoor
set_option linter.unusedVariables false
set_option linter.unusedSimpArgs false
set_option maxRecDepth 100000

/-- What the program asks of a polygon: all turns go to the left, the first corner is the least one, the triangles at it go around. -/
structure Fan (n : Nat) (P : Nat → Pt) : Prop where
  n3 : 3 ≤ n
  first : ∀ k, 0 < k → k < n → lx (P 0) (P k)
  fan : ∀ k, 0 < k → k + 1 < n → 0 < tn (P 0) (P k) (P (k + 1))
  loc : ∀ k, k < n → 0 < tn (P k) (P ((k + 1) % n)) (P ((k + 2) % n))

def cyc (n : Nat) (P : Nat → Pt) (i : Nat) : Pt := P (i % n)
theorem cyc_lt {n : Nat} {P : Nat → Pt} {i : Nat} (h : i < n) : cyc n P i = P i := by rw [cyc, Nat.mod_eq_of_lt h]
theorem cyc_n {n : Nat} {P : Nat → Pt} : cyc n P n = P 0 := by rw [cyc, Nat.mod_self]
theorem cyc_n1 {n : Nat} {P : Nat → Pt} (h : 1 < n) : cyc n P (n + 1) = P 1 := by rw [cyc, Nat.add_mod_left, Nat.mod_eq_of_lt h]
theorem Fan.turn {n : Nat} {P : Nat → Pt} (h : Fan n P) {k : Nat} (hk : k < n) : 0 < tn (cyc n P k) (cyc n P (k + 1)) (cyc n P (k + 2)) := by
  rw [cyc_lt hk]; exact h.loc k hk
theorem Fan.in3 {n : Nat} {P : Nat → Pt} (h : Fan n P) {k : Nat} (hk : k + 2 < n) : 0 < tn (P k) (P (k + 1)) (P (k + 2)) := by
  have := h.turn (k := k) (by omega)
  rwa [cyc_lt (by omega), cyc_lt (by omega), cyc_lt hk] at this

theorem tn_brk (o a b c : Pt) : tn a b c = cr (sb a o) (sb b o) + cr (sb b o) (sb c o) - cr (sb a o) (sb c o) := by unfold tn cr sb; grind
theorem pluck (a b c d : Pt) : cr a c * cr b d = cr a b * cr c d + cr a d * cr b c := by unfold cr; grind
theorem plk {a b c d e f : Int} (hp : d * e = a * c + f * b) (ha : 0 < a) (hb : 0 < b) (hc : 0 < c) (hd : 0 < d) (he : 0 < e) (t1 : d < a + b) (t2 : e < b + c) : f < a + e ∧ f < d + c := by
  have m1 : d * e < (a + b) * e := Int.mul_lt_mul_of_pos_right t1 he
  have m2 : a * e < a * (b + c) := Int.mul_lt_mul_of_pos_left t2 ha
  have m3 : d * e < d * (b + c) := Int.mul_lt_mul_of_pos_left t2 hd
  have m4 : d * c < (a + b) * c := Int.mul_lt_mul_of_pos_right t1 hc
  constructor
  · have : b * f < b * (a + e) := by
      have e1 : b * f = d * e - a * c := by rw [hp, Int.mul_comm b f]; omega
      have e2 : (a + b) * e = a * e + b * e := by rw [Int.add_mul]
      have e3 : a * (b + c) = a * b + a * c := by rw [Int.mul_add]
      have e4 : b * (a + e) = a * b + b * e := by rw [Int.mul_add, Int.mul_comm b a]
      omega
    exact Int.lt_of_mul_lt_mul_left this (by omega)
  · have : b * f < b * (d + c) := by
      have e1 : b * f = d * e - a * c := by rw [hp, Int.mul_comm b f]; omega
      have e2 : d * (b + c) = b * d + d * c := by rw [Int.mul_add, Int.mul_comm d b]
      have e3 : (a + b) * c = a * c + b * c := by rw [Int.add_mul]
      have e4 : b * (d + c) = b * d + b * c := by rw [Int.mul_add]
      omega
    exact Int.lt_of_mul_lt_mul_left this (by omega)

/-- The corners go around the first one. -/
theorem Fan.around {n : Nat} {P : Nat → Pt} (h : Fan n P) : ∀ d i, 0 < i → i + 1 + d < n → 0 < cr (sb (P i) (P 0)) (sb (P (i + 1 + d)) (P 0)) := by
  intro d
  induction d with
  | zero => intro i h0 h1; exact h.fan i h0 h1
  | succ d ih =>
    intro i h0 h1
    exact slope_lt_le (h.first i h0 (by omega)).pos (h.first (i + 1 + d) (by omega) (by omega)).pos (h.first (i + 1 + (d + 1)) (by omega) h1).pos (ih i h0 (by omega)) (Int.le_of_lt (h.fan (i + 1 + d) (by omega) (by omega)))
theorem Fan.brk {n : Nat} {P : Nat → Pt} (h : Fan n P) {i j : Nat} (h0 : 0 < i) (h1 : i < j) (h2 : j < n) : 0 < cr (sb (P i) (P 0)) (sb (P j) (P 0)) := by
  have := h.around (j - i - 1) i h0 (by omega)
  rwa [show i + 1 + (j - i - 1) = j by omega] at this

theorem Fan.step {n : Nat} {P : Nat → Pt} (h : Fan n P) : ∀ i j k l, 1 ≤ i → i < j → j < k → k < l → l ≤ n - 1 → 0 < tn (P i) (P j) (P k) → 0 < tn (P j) (P k) (P l) → 0 < tn (P i) (P j) (P l) ∧ 0 < tn (P i) (P k) (P l) := by
  intro i j k l h1 h2 h3 h4 h5 t1 t2
  rw [tn_brk (P 0)] at t1 t2 ⊢
  rw [tn_brk (P 0) (P i) (P k) (P l)]
  have hp := pluck (sb (P i) (P 0)) (sb (P j) (P 0)) (sb (P k) (P 0)) (sb (P l) (P 0))
  have := plk hp (h.brk (by omega) h2 (by omega)) (h.brk (by omega) h3 (by omega)) (h.brk (by omega) h4 (by omega)) (h.brk (i := i) (j := k) (by omega) (by omega) (by omega)) (h.brk (i := j) (j := l) (by omega) (by omega) (by omega)) (by omega) (by omega)
  omega

/-- No corner lies to the right of a side. -/
theorem Fan.left {n : Nat} {P : Nat → Pt} (h : Fan n P) {i s : Nat} (hi : i < n) (hs : s < n) (h1 : s ≠ i) (h2 : s ≠ (i + 1) % n) : 0 < tn (cyc n P i) (cyc n P (i + 1)) (P s) := by
  have h3 := h.n3
  by_cases e0 : i = 0
  · subst e0
    rw [Nat.mod_eq_of_lt (by omega)] at h2
    rw [cyc_lt hi, cyc_lt (by omega)]
    exact h.brk (i := 1) (j := s) (by omega) (by omega) hs
  · by_cases en : i + 1 = n
    · rw [en, cyc_n, cyc_lt hi, tn_rot (P i)]
      rw [en, Nat.mod_self] at h2
      exact h.brk (i := s) (j := i) (by omega) (by omega) hi
    · rw [Nat.mod_eq_of_lt (by omega)] at h2
      rw [cyc_lt hi, cyc_lt (by omega)]
      by_cases es : s = 0
      · subst es
        rw [← tn_rot]
        exact h.fan i (by omega) (by omega)
      · have H0 : ∀ i, 1 ≤ i → i + 2 ≤ n - 1 → 0 < tn (P i) (P (i + 1)) (P (i + 2)) := fun i _ hi => h.in3 (by omega)
        by_cases hlt : s < i
        · rw [← tn_rot]
          exact span_last (T := fun i j k => 0 < tn (P i) (P j) (P k)) H0 h.step (by omega) hlt (by omega)
        · exact span_first (T := fun i j k => 0 < tn (P i) (P j) (P k)) H0 h.step (by omega) (by omega) (by omega)
theorem Fan.left' {n : Nat} {P : Nat → Pt} (h : Fan n P) {i s : Nat} (hi : i < n) (hs : s < n) : 0 ≤ tn (cyc n P i) (cyc n P (i + 1)) (P s) := by
  by_cases h1 : s = i
  · subst h1; rw [cyc_lt hi, tn_aab]; omega
  · by_cases h2 : s = (i + 1) % n
    · rw [h2]
      show 0 ≤ tn _ (P ((i + 1) % n)) _
      rw [tn_abb]; omega
    · exact Int.le_of_lt (h.left hi hs h1 h2)

/-- The corners go up, then down. -/
theorem Fan.valley {n : Nat} {P : Nat → Pt} (h : Fan n P) {j : Nat} (h0 : 2 ≤ j) (h1 : j + 1 < n) (hd : lx (P j) (P (j - 1))) : lx (P (j + 1)) (P j) := by
  rcases lx_total (P j) (P (j + 1)) with e | e | e
  · exfalso
    have p0 := h.first j (by omega) (by omega)
    have t1 := h.in3 (k := j - 1) (by omega)
    rw [show j - 1 + 1 = j by omega, show j - 1 + 2 = j + 1 by omega] at t1
    have t2 := h.fan (j - 1) (by omega) (by omega)
    rw [show j - 1 + 1 = j by omega] at t2
    have t3 := h.fan j (by omega) h1
    have c1 : 0 < cr (sb (P (j + 1)) (P j)) (sb (P (j - 1)) (P j)) := by
      rw [tn_rot] at t1; exact t1
    have c2 : 0 < cr (sb (P (j - 1)) (P j)) (sb (P j) (P 0)) := by
      have e2 : tn (P 0) (P (j - 1)) (P j) = cr (sb (P (j - 1)) (P j)) (sb (P j) (P 0)) := by unfold tn cr sb; grind
      rw [← e2]; exact t2
    have c3 : 0 < cr (sb (P j) (P 0)) (sb (P (j + 1)) (P j)) := by rw [← tn_step]; exact t3
    have := slope_lt_le e.pos hd.pos p0.pos c1 (by omega)
    rw [cr_anti] at this
    omega
  · exfalso
    have := h.turn (k := j) (by omega)
    rw [cyc_lt (by omega), cyc_lt h1, ← e, tn_aac] at this
    omega
  · exact e
theorem Fan.uni {n : Nat} {P : Nat → Pt} (h : Fan n P) : ∃ m, 0 < m ∧ m < n ∧ (∀ i, i < m → lx (cyc n P i) (cyc n P (i + 1))) ∧ ∀ i, m ≤ i → i < n → lx (cyc n P (i + 1)) (cyc n P i) := by
  have h3 := h.n3
  have hup : lx (P 0) (P 1) := h.first 1 (by omega) (by omega)
  have key : ∀ t, 1 ≤ t → t ≤ n → (∀ i, i < t → lx (cyc n P i) (cyc n P (i + 1))) ∨ ∃ m, 0 < m ∧ m < t ∧ (∀ i, i < m → lx (cyc n P i) (cyc n P (i + 1))) ∧ ∀ i, m ≤ i → i < t → lx (cyc n P (i + 1)) (cyc n P i) := by
    intro t
    induction t with
    | zero => intro h1; omega
    | succ t ih =>
      intro _ ht
      by_cases ht0 : t = 0
      · subst ht0
        refine .inl fun i hi => ?_
        obtain rfl : i = 0 := by omega
        rw [cyc_lt (by omega), cyc_lt (by omega)]
        exact hup
      rcases ih (by omega) (by omega) with ha | ⟨m, m0, m1, m2, m3⟩
      · rcases lx_total (cyc n P t) (cyc n P (t + 1)) with e | e | e
        · refine .inl fun i hi => ?_
          by_cases hi' : i = t
          · subst hi'; exact e
          · exact ha i (by omega)
        · exfalso
          have := h.turn (k := t) (by omega)
          rw [← e, tn_aac] at this
          omega
        · refine .inr ⟨t, by omega, by omega, ha, fun i h1 h2 => ?_⟩
          obtain rfl : i = t := by omega
          exact e
      · refine .inr ⟨m, m0, by omega, m2, fun i h1 h2 => ?_⟩
        by_cases hi' : i < t
        · exact m3 i h1 hi'
        · obtain rfl : i = t := by omega
          by_cases hn : i + 1 = n
          · rw [hn, cyc_n, cyc_lt (by omega)]
            exact h.first i (by omega) (by omega)
          · have hd := m3 (i - 1) (by omega) (by omega)
            rw [show i - 1 + 1 = i by omega, cyc_lt (by omega), cyc_lt (by omega)] at hd
            rw [cyc_lt (by omega), cyc_lt (by omega)]
            exact h.valley (by omega) (by omega) hd
  rcases key n (by omega) (Nat.le_refl _) with ha | ⟨m, m0, m1, m2, m3⟩
  · exfalso
    have h1 := ha (n - 1) (by omega)
    rw [show n - 1 + 1 = n by omega, cyc_n, cyc_lt (by omega)] at h1
    exact (h1.trans (h.first (n - 1) (by omega) (by omega))).irrefl
  · exact ⟨m, m0, m1, m2, m3⟩

theorem up_all {Q : Nat → Pt} {m : Nat} (h : ∀ i, i < m → lx (Q i) (Q (i + 1))) : ∀ d i, i + d ≤ m → Q i = Q (i + d) ∨ lx (Q i) (Q (i + d))
  | 0, i, _ => .inl rfl
  | d + 1, i, hi => by
    have h1 := h (i + d) (by omega)
    rcases up_all h d i (by omega) with e | e
    · rw [e]; exact .inr h1
    · exact .inr (e.trans h1)

theorem lx_antisymm {a b : Pt} (h1 : a = b ∨ lx a b) (h2 : b = a ∨ lx b a) : a = b := by
  rcases h1 with h1 | h1
  · exact h1
  · rcases h2 with h2 | h2
    · exact h2.symm
    · exact absurd (h1.trans h2) fun h => h.irrefl

/-- A polygon is its own hull. -/
theorem Fan.hull {n : Nat} {P : Nat → Pt} (h : Fan n P) {S : List Pt} (hp : S.Pairwise lx) (hm : ∀ a, a ∈ S ↔ ∃ i, i < n ∧ a = P i) : hullOf tn S = (List.range n).map P := by
  have h3 := h.n3
  have hne : S ≠ [] := fun e => by
    have := (hm (P 0)).2 ⟨0, by omega, rfl⟩
    rw [e] at this; simp at this
  obtain ⟨mn, mx, hL, hU, hmn, hmx, hgr⟩ := sides_ok S hne hp
  obtain ⟨m, m0, m1, m2, m3⟩ := h.uni
  have hQS : ∀ i, cyc n P i ∈ S := fun i => (hm _).2 ⟨i % n, Nat.mod_lt _ (by omega), rfl⟩
  have hmn0 : mn = P 0 := by
    obtain ⟨i, hi, e⟩ := (hm mn).1 hmn
    have h1 := hL.least (P 0) ((hm _).2 ⟨0, by omega, rfl⟩)
    refine lx_antisymm (by rcases h1 with h1 | h1; exact .inl h1.symm; exact .inr h1) ?_
    by_cases hi0 : i = 0
    · subst hi0; exact .inl e.symm
    · rw [e]; exact .inr (h.first i (by omega) hi)
  have hmx0 : mx = P m := by
    obtain ⟨i, hi, e⟩ := (hm mx).1 hmx
    refine lx_antisymm ?_ ?_
    · rw [e]
      by_cases him : i ≤ m
      · have := up_all m2 (m - i) i (by omega)
        rw [show i + (m - i) = m by omega, cyc_lt hi, cyc_lt m1] at this
        exact this
      · have := up_all (Q := fun j => cyc n P (n - j)) (m := n - m) (fun j hj => by
          have := m3 (n - (j + 1)) (by omega) (by omega)
          rwa [show n - (j + 1) + 1 = n - j by omega] at this) (i - m) (n - i) (by omega)
        rw [show n - (n - i) = i by omega, show n - (n - i + (i - m)) = m by omega, cyc_lt hi, cyc_lt m1] at this
        exact this
    · rcases hgr (P m) ((hm _).2 ⟨m, m1, rfl⟩) with e | e
      · exact .inl e
      · exact .inr e
  have eL : chainR tn S = seg (cyc n P) 0 m := by
    refine chain_uniq _ _ hL.desc (seg_desc fun i hi => by simpa using m2 i hi) hL.conv (seg_conv fun i hi => by simpa using h.turn (k := i) (by omega)) ?_ ?_ (hL.edge.mono fun s hs => ?_) (seg_edge fun i hi s hs => ?_)
    · rw [hL.high, seg_head, Nat.zero_add, cyc_lt m1, hmx0]
    · rw [hL.low, seg_last, cyc_lt (by omega), hmn0]
    · obtain ⟨i, _, e⟩ := seg_mem.1 hs
      rw [e]; exact hQS _
    · obtain ⟨j, hj, e⟩ := (hm s).1 (hL.sub s hs)
      rw [e, Nat.zero_add]
      exact h.left' (by omega) hj
  have eU : (chainR tn S.reverse).map ng = (seg (cyc n P) m (n - m)).map ng := by
    rw [seg_map]
    refine chain_uniq _ _ hU.desc (seg_desc fun i hi => lx_ng.2 (m3 (m + i) (by omega) (by omega))) hU.conv (seg_conv fun i hi => by rw [tn_ng]; exact h.turn (k := m + i) (by omega)) ?_ ?_ (hU.edge.mono fun s hs => ?_) (seg_edge fun i hi s hs => ?_)
    · rw [hU.high, seg_head, show m + (n - m) = n by omega, cyc_n, hmn0]
    · rw [hU.low, seg_last, cyc_lt m1, hmx0]
    · obtain ⟨i, _, e⟩ := seg_mem.1 hs
      rw [e]; exact ng_mem.2 (hQS _)
    · have h1 := hU.sub s hs
      rw [List.mem_map] at h1
      obtain ⟨a, ha, rfl⟩ := h1
      obtain ⟨j, hj, e⟩ := (hm a).1 ha
      rw [tn_ng, e]
      exact h.left' (by omega) hj
  have eU' : chainR tn S.reverse = seg (cyc n P) m (n - m) := by
    rw [← map_ng_ng (chainR tn S.reverse), eU, map_ng_ng]
  unfold hullOf
  rw [eL, eU', seg_drop, seg_drop]
  refine List.ext_getElem (by simp; omega) fun i h1 h2 => ?_
  simp only [List.length_map, List.length_range] at h2
  rw [List.getElem_append]
  split
  · simp [cyc_lt h2]
  · rename_i hi
    simp only [List.length_map, List.length_range] at hi
    simp only [List.getElem_map, List.getElem_range, List.length_map, List.length_range]
    rw [show m + (i - m) = i by omega, cyc_lt h2]

end Go.Proofs.YteamihmolpaoeaaDoor
