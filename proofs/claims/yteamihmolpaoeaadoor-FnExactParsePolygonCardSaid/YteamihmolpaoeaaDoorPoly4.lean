/- Plain geometry of the plane: a hull of three corners or more is a polygon as the program asks it. No program in sight. Conditions: none. -/
import Derived.Test.YteamihmolpaoeaaDoorPoly3
namespace Go.Proofs.YteamihmolpaoeaaDoor
set_option linter.unusedVariables false
set_option linter.unusedSimpArgs false
set_option maxRecDepth 100000

theorem up_lt {Q : Nat → Pt} {m : Nat} (h : ∀ i, i < m → lx (Q i) (Q (i + 1))) {i j : Nat} (hij : i < j) (hj : j ≤ m) : lx (Q i) (Q j) := by
  rcases up_all h (j - (i + 1)) (i + 1) (by omega) with e | e
  · rw [show i + 1 + (j - (i + 1)) = j by omega] at e
    rw [← e]; exact h i (by omega)
  · rw [show i + 1 + (j - (i + 1)) = j by omega] at e
    exact (h i (by omega)).trans e
theorem conv_step {Q : Nat → Pt} {m : Nat} (h : ∀ i, i < m → lx (Q i) (Q (i + 1))) : ∀ i j k l, 0 ≤ i → i < j → j < k → k < l → l ≤ m → 0 < tn (Q i) (Q j) (Q k) → 0 < tn (Q j) (Q k) (Q l) → 0 < tn (Q i) (Q j) (Q l) ∧ 0 < tn (Q i) (Q k) (Q l) :=
  fun i j k l _ h2 h3 h4 h5 t1 t2 => turns_trans (up_lt h h2 (by omega)) (up_lt h h3 (by omega)) (up_lt h h4 h5) t1 t2

theorem junction {S : List Pt} {A B : Nat → Pt} {m t : Nat} (hm : 1 ≤ m) (ht : 1 ≤ t) (hn : 3 ≤ m + t) (asc : ∀ i, i < m → lx (A i) (A (i + 1))) (desc : ∀ i, i < t → lx (B (i + 1)) (B i))
    (cA : ∀ i, i + 2 ≤ m → 0 < tn (A i) (A (i + 1)) (A (i + 2))) (cB : ∀ i, i + 2 ≤ t → 0 < tn (B i) (B (i + 1)) (B (i + 2)))
    (eA : ∀ i, i < m → ∀ s ∈ S, 0 ≤ tn (A i) (A (i + 1)) s) (eB : ∀ i, i < t → ∀ s ∈ S, 0 ≤ tn (B i) (B (i + 1)) s)
    (mA : ∀ i, i ≤ m → A i ∈ S) (mB : ∀ i, i ≤ t → B i ∈ S) (hx : A m = B 0) : 0 < tn (A (m - 1)) (A m) (B 1) := by
  have h0 := eA (m - 1) (by omega) (B 1) (mB 1 ht)
  rw [show m - 1 + 1 = m by omega] at h0
  by_cases hz : tn (A (m - 1)) (A m) (B 1) = 0
  · exfalso
    have la : lx (A (m - 1)) (A m) := by have := asc (m - 1) (by omega); rwa [show m - 1 + 1 = m by omega] at this
    have lb : lx (B 1) (A m) := by rw [hx]; exact desc 0 (by omega)
    rw [tn_back] at hz
    have key : ∀ s, s ∈ S → lx s (A m) → cr (sb (A m) (B 1)) (sb (A m) s) = 0 := fun s hs hlt => by
      have e1 := eA (m - 1) (by omega) s hs
      rw [show m - 1 + 1 = m by omega, tn_back] at e1
      have e2 := eB 0 (by omega) s hs
      rw [← hx] at e2
      have e3 : tn (A m) (B (0 + 1)) s = cr (sb (A m) (B 1)) (sb (A m) s) := by unfold tn cr sb; grind
      rw [e3] at e2
      have e4 := slope_trans hlt.pos la.pos lb.pos e1 (by rw [cr_anti]; omega)
      rw [cr_anti] at e4
      omega
    by_cases h2 : 2 ≤ m
    · have t1 := cA (m - 2) (by omega)
      rw [show m - 2 + 1 = m - 1 by omega, show m - 2 + 2 = m by omega] at t1
      have lc : lx (A (m - 2)) (A m) := up_lt asc (by omega) (Nat.le_refl _)
      have k1 := key _ (mA (m - 2) (by omega)) lc
      have e5 := slope_trans la.pos lb.pos lc.pos (by rw [cr_anti]; omega) (by omega)
      have e6 : tn (A (m - 2)) (A (m - 1)) (A m) = - cr (sb (A m) (A (m - 1))) (sb (A m) (A (m - 2))) := by unfold tn cr sb; grind
      omega
    · have t1 := cB 0 (by omega)
      have lc : lx (B 2) (A m) := by rw [hx]; exact (desc 1 (by omega)).trans (desc 0 (by omega))
      have k1 := key _ (mB 2 (by omega)) lc
      have e6 : tn (B 0) (B (0 + 1)) (B (0 + 2)) = cr (sb (A m) (B 1)) (sb (A m) (B 2)) := by rw [hx]; unfold tn cr sb; grind
      omega
  · omega

/-- A hull of three corners or more is a polygon. -/
theorem hull_fan {S : List Pt} (hp : S.Pairwise lx) {n : Nat} {P : Nat → Pt} (h3 : 3 ≤ n) (he : hullOf tn S = (List.range n).map P) : Fan n P := by
  have hne : S ≠ [] := fun e => by
    have := congrArg List.length he
    rw [e] at this
    simp [hullOf, chainR] at this
    omega
  obtain ⟨mn, mx, hL, hU, hmn, hmx, hgr⟩ := sides_ok S hne hp
  unfold hullOf at he
  have hLn : chainR tn S ≠ [] := fun e => by have := hL.high; rw [e] at this; simp at this
  have hUn : chainR tn S.reverse ≠ [] := fun e => by have := hU.high; rw [e] at this; simp at this
  obtain ⟨A, heA⟩ := seg_of _ hLn
  obtain ⟨B, heB⟩ := seg_of _ hUn
  generalize (chainR tn S).length - 1 = m at heA
  generalize (chainR tn S.reverse).length - 1 = t at heB
  rw [heA] at hL he
  rw [heB] at hU he
  rw [seg_map] at hU
  rw [seg_drop, seg_drop] at he
  simp only [Nat.zero_add] at he
  have A0 : A 0 = mn := by have := hL.low; rw [seg_last] at this; simpa using this
  have Am : A m = mx := by have := hL.high; rw [seg_head] at this; simpa using this
  have B0 : B 0 = mx := by have := hU.low; rw [seg_last] at this; exact ng_inj (by simpa using this)
  have Bt : B t = mn := by have := hU.high; rw [seg_head] at this; exact ng_inj (by simpa using this)
  have asc : ∀ i, i < m → lx (A i) (A (i + 1)) := fun i hi => by have := seg_desc' hL.desc i hi; simpa using this
  have desc : ∀ i, i < t → lx (B (i + 1)) (B i) := fun i hi => by have := seg_desc' hU.desc i hi; simp only [Nat.zero_add] at this; exact lx_ng.1 this
  have cA : ∀ i, i + 2 ≤ m → 0 < tn (A i) (A (i + 1)) (A (i + 2)) := fun i hi => by have := seg_conv' hL.conv i hi; simpa using this
  have cB : ∀ i, i + 2 ≤ t → 0 < tn (B i) (B (i + 1)) (B (i + 2)) := fun i hi => by have := seg_conv' hU.conv i hi; simp only [Nat.zero_add, tn_ng] at this; exact this
  have eA : ∀ i, i < m → ∀ s ∈ S, 0 ≤ tn (A i) (A (i + 1)) s := fun i hi s hs => by have := seg_edge' hL.edge i hi s hs; simpa using this
  have eB : ∀ i, i < t → ∀ s ∈ S, 0 ≤ tn (B i) (B (i + 1)) s := fun i hi s hs => by have := seg_edge' hU.edge i hi (ng s) (ng_mem.2 hs); simp only [Nat.zero_add, tn_ng] at this; exact this
  have mA : ∀ i, i ≤ m → A i ∈ S := fun i hi => hL.sub _ (seg_mem.2 ⟨i, hi, by rw [Nat.zero_add]⟩)
  have mB : ∀ i, i ≤ t → B i ∈ S := fun i hi => ng_mem.1 (hU.sub _ (seg_mem.2 ⟨i, hi, by rw [Nat.zero_add]⟩))
  have hlen : m + t = n := by have := congrArg List.length he; simpa using this
  have hm1 : 1 ≤ m := by
    by_cases h0 : m = 0
    · exfalso
      subst h0
      have := up_lt (Q := fun j => B (t - j)) (m := t) (fun j hj => by
        have := desc (t - (j + 1)) (by omega)
        rwa [show t - (j + 1) + 1 = t - j by omega] at this) (i := 0) (j := t) (by omega) (Nat.le_refl _)
      simp only [Nat.sub_zero, Nat.sub_self] at this
      rw [Bt, B0, ← A0, ← Am] at this
      exact this.irrefl
    · omega
  have ht1 : 1 ≤ t := by
    by_cases h0 : t = 0
    · exfalso
      subst h0
      have := up_lt asc (i := 0) (j := m) (by omega) (Nat.le_refl _)
      rw [A0, Am, ← Bt, ← B0] at this
      exact this.irrefl
    · omega
  have PA : ∀ k, k < m → P k = A k := fun k hk => by
    have := congrArg (fun l => l[k]?) he
    simp only [List.getElem?_append_left (show k < ((List.range m).map A).length by simpa using hk), List.getElem?_map, List.getElem?_range hk, List.getElem?_range (show k < n by omega), Option.map_some, Option.some.injEq] at this
    exact this.symm
  have PB : ∀ j, j < t → P (m + j) = B j := fun j hj => by
    have := congrArg (fun l => l[m + j]?) he
    simp only [List.getElem?_append_right (show ((List.range m).map A).length ≤ m + j by simp), List.getElem?_map, List.length_map, List.length_range, Nat.add_sub_cancel_left, List.getElem?_range hj, List.getElem?_range (show m + j < n by omega), Option.map_some, Option.some.injEq] at this
    exact this.symm
  have hC : ∀ i, i ≤ m → cyc n P i = A i := fun i hi => by
    rw [cyc_lt (by omega)]
    by_cases h : i < m
    · exact PA i h
    · obtain rfl : i = m := by omega
      have := PB 0 (by omega)
      rw [Nat.add_zero] at this
      rw [this, B0, Am]
  have hD : ∀ j, j ≤ t → cyc n P (m + j) = B j := fun j hj => by
    by_cases h : j < t
    · rw [cyc_lt (by omega)]; exact PB j h
    · obtain rfl : j = t := by omega
      rw [hlen, cyc_n, PA 0 (by omega), A0, Bt]
  have hE : cyc n P (n + 1) = A 1 := by rw [cyc_n1 (by omega), ← cyc_lt (n := n) (P := P) (show 1 < n by omega), hC 1 (by omega)]
  have J1 := junction hm1 ht1 (by omega) asc desc cA cB eA eB mA mB (Am.trans B0.symm)
  have J2 := junction (S := S.map ng) (A := fun i => ng (B i)) (B := fun i => ng (A i)) ht1 hm1 (by omega) (fun i hi => lx_ng.2 (desc i hi)) (fun i hi => lx_ng.2 (asc i hi))
    (fun i hi => by rw [tn_ng]; exact cB i hi) (fun i hi => by rw [tn_ng]; exact cA i hi)
    (fun i hi s hs => by obtain ⟨a, ha, rfl⟩ := List.mem_map.1 hs; rw [tn_ng]; exact eB i hi a ha) (fun i hi s hs => by obtain ⟨a, ha, rfl⟩ := List.mem_map.1 hs; rw [tn_ng]; exact eA i hi a ha)
    (fun i hi => ng_mem.2 (mB i hi)) (fun i hi => ng_mem.2 (mA i hi)) (congrArg ng (Bt.trans A0.symm))
  simp only [tn_ng] at J2
  refine ⟨h3, fun k hk0 hk => ?_, fun k hk0 hk => ?_, fun k hk => ?_⟩
  · rw [← cyc_lt (n := n) (P := P) hk, ← cyc_lt (n := n) (P := P) (show 0 < n by omega), hC 0 (by omega)]
    by_cases h : k ≤ m
    · rw [hC k h]; exact up_lt asc hk0 h
    · have e := hD (k - m) (by omega)
      rw [show m + (k - m) = k by omega] at e
      rw [e, A0, ← Bt]
      have := up_lt (Q := fun j => B (t - j)) (m := t) (fun j hj => by
        have := desc (t - (j + 1)) (by omega)
        rwa [show t - (j + 1) + 1 = t - j by omega] at this) (i := 0) (j := t - (k - m)) (by omega) (by omega)
      simp only [Nat.sub_zero] at this
      rwa [show t - (t - (k - m)) = k - m by omega] at this
  · rw [← cyc_lt (n := n) (P := P) (show k < n by omega), ← cyc_lt (n := n) (P := P) (show 0 < n by omega), ← cyc_lt (n := n) (P := P) hk, hC 0 (by omega)]
    by_cases h : k + 1 ≤ m
    · rw [hC k (by omega), hC (k + 1) h]
      exact span_last (T := fun i j k => 0 < tn (A i) (A j) (A k)) (lo := 0) (hi := m) (fun i _ hi => cA i hi) (conv_step asc) (Nat.zero_le _) hk0 h
    · have e := hD (k - m) (by omega)
      have e' := hD (k - m + 1) (by omega)
      rw [show m + (k - m) = k by omega] at e
      rw [show m + (k - m + 1) = k + 1 by omega] at e'
      rw [e, e', A0, ← Bt, tn_rot]
      -- downwards: the mirrored side read upwards
      have asc' : ∀ i, i < t → lx (ng (B i)) (ng (B (i + 1))) := fun i hi => lx_ng.2 (desc i hi)
      have := span_first (T := fun i j k => 0 < tn (ng (B i)) (ng (B j)) (ng (B k))) (lo := 0) (hi := t) (fun i _ hi => by rw [tn_ng]; exact cB i hi) (conv_step asc') (i := k - m) (k := t) (Nat.zero_le _) (by omega) (Nat.le_refl _)
      simp only [tn_ng] at this
      exact this
  · show 0 < tn (P k) (cyc n P (k + 1)) (cyc n P (k + 2))
    rw [← cyc_lt (n := n) (P := P) hk]
    by_cases h1 : k + 2 ≤ m
    · rw [hC k (by omega), hC (k + 1) (by omega), hC (k + 2) h1]; exact cA k h1
    · by_cases h2 : k + 1 = m
      · have e := hD 1 ht1
        rw [show k + 2 = m + 1 by omega, e, hC k (by omega), h2, hC m (Nat.le_refl _), show k = m - 1 by omega]
        exact J1
      · have e := hD (k - m) (by omega)
        rw [show m + (k - m) = k by omega] at e
        have e1 := hD (k - m + 1) (by omega)
        rw [show m + (k - m + 1) = k + 1 by omega] at e1
        by_cases h4 : k + 1 = n
        · rw [show k + 2 = n + 1 by omega, hE, e, e1, show k - m + 1 = t by omega, show k - m = t - 1 by omega]
          exact J2
        · have e2 := hD (k - m + 2) (by omega)
          rw [show m + (k - m + 2) = k + 2 by omega] at e2
          rw [e, e1, e2]
          exact cB (k - m) (by omega)

end Go.Proofs.YteamihmolpaoeaaDoor
