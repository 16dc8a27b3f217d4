/- Plain geometry: all points lie to the left of each side of their hull. No program in sight. Conditions: none. -/
import Derived.Test.YthdonnkekggbbaaGreatDoorJnSame
namespace Go.Proofs.YthdonnkekggbbaaGreatDoor
set_option linter.unusedVariables false
set_option linter.unusedSimpArgs false
set_option maxRecDepth 100000

/-- All points lie to the left of each side of their hull. -/
theorem hull_left {S : List Pt} (hp : S.Pairwise lx) {n : Nat} {P : Nat → Pt} (h3 : 3 ≤ n) (he : hullOf tn S = (List.range n).map P) : ∀ k, k < n → ∀ s ∈ S, 0 ≤ tn (cyc n P k) (cyc n P (k + 1)) s := by
  have hne : S ≠ [] := fun e => by
    have := congrArg List.length he
    rw [e] at this
    simp [hullOf, chainR] at this
    omega
  obtain ⟨mn, mx, hL, hU, hmn, hmx, hgr⟩ := sides_ok S hne hp
  unfold hullOf at he
  have hLn : chainR tn S ≠ [] := fun e => by have := hL.high; rw [e] at this; simp at this
  have hUn : chainR tn S.reverse ≠ [] := fun e => by have := hU.high; rw [e] at this; simp at this
  obtain ⟨A, heA⟩ := seg_of _ hLn
  obtain ⟨B, heB⟩ := seg_of _ hUn
  generalize (chainR tn S).length - 1 = m at heA
  generalize (chainR tn S.reverse).length - 1 = t at heB
  rw [heA] at hL he
  rw [heB] at hU he
  rw [seg_map] at hU
  rw [seg_drop, seg_drop] at he
  simp only [Nat.zero_add] at he
  have A0 : A 0 = mn := by have := hL.low; rw [seg_last] at this; simpa using this
  have Am : A m = mx := by have := hL.high; rw [seg_head] at this; simpa using this
  have B0 : B 0 = mx := by have := hU.low; rw [seg_last] at this; exact ng_inj (by simpa using this)
  have Bt : B t = mn := by have := hU.high; rw [seg_head] at this; exact ng_inj (by simpa using this)
  have asc : ∀ i, i < m → lx (A i) (A (i + 1)) := fun i hi => by have := seg_desc' hL.desc i hi; simpa using this
  have desc : ∀ i, i < t → lx (B (i + 1)) (B i) := fun i hi => by have := seg_desc' hU.desc i hi; simp only [Nat.zero_add] at this; exact lx_ng.1 this
  have cA : ∀ i, i + 2 ≤ m → 0 < tn (A i) (A (i + 1)) (A (i + 2)) := fun i hi => by have := seg_conv' hL.conv i hi; simpa using this
  have cB : ∀ i, i + 2 ≤ t → 0 < tn (B i) (B (i + 1)) (B (i + 2)) := fun i hi => by have := seg_conv' hU.conv i hi; simp only [Nat.zero_add, tn_ng] at this; exact this
  have eA : ∀ i, i < m → ∀ s ∈ S, 0 ≤ tn (A i) (A (i + 1)) s := fun i hi s hs => by have := seg_edge' hL.edge i hi s hs; simpa using this
  have eB : ∀ i, i < t → ∀ s ∈ S, 0 ≤ tn (B i) (B (i + 1)) s := fun i hi s hs => by have := seg_edge' hU.edge i hi (ng s) (ng_mem.2 hs); simp only [Nat.zero_add, tn_ng] at this; exact this
  have mA : ∀ i, i ≤ m → A i ∈ S := fun i hi => hL.sub _ (seg_mem.2 ⟨i, hi, by rw [Nat.zero_add]⟩)
  have mB : ∀ i, i ≤ t → B i ∈ S := fun i hi => ng_mem.1 (hU.sub _ (seg_mem.2 ⟨i, hi, by rw [Nat.zero_add]⟩))
  have hlen : m + t = n := by have := congrArg List.length he; simpa using this
  have hm1 : 1 ≤ m := by
    by_cases h0 : m = 0
    · exfalso
      subst h0
      have := up_lt (Q := fun j => B (t - j)) (m := t) (fun j hj => by
        have := desc (t - (j + 1)) (by omega)
        rwa [show t - (j + 1) + 1 = t - j by omega] at this) (i := 0) (j := t) (by omega) (Nat.le_refl _)
      simp only [Nat.sub_zero, Nat.sub_self] at this
      rw [Bt, B0, ← A0, ← Am] at this
      exact this.irrefl
    · omega
  have ht1 : 1 ≤ t := by
    by_cases h0 : t = 0
    · exfalso
      subst h0
      have := up_lt asc (i := 0) (j := m) (by omega) (Nat.le_refl _)
      rw [A0, Am, ← Bt, ← B0] at this
      exact this.irrefl
    · omega
  have PA : ∀ k, k < m → P k = A k := fun k hk => by
    have := congrArg (fun l => l[k]?) he
    simp only [List.getElem?_append_left (show k < ((List.range m).map A).length by simpa using hk), List.getElem?_map, List.getElem?_range hk, List.getElem?_range (show k < n by omega), Option.map_some, Option.some.injEq] at this
    exact this.symm
  have PB : ∀ j, j < t → P (m + j) = B j := fun j hj => by
    have := congrArg (fun l => l[m + j]?) he
    simp only [List.getElem?_append_right (show ((List.range m).map A).length ≤ m + j by simp), List.getElem?_map, List.length_map, List.length_range, Nat.add_sub_cancel_left, List.getElem?_range hj, List.getElem?_range (show m + j < n by omega), Option.map_some, Option.some.injEq] at this
    exact this.symm
  have hC : ∀ i, i ≤ m → cyc n P i = A i := fun i hi => by
    rw [cyc_lt (by omega)]
    by_cases h : i < m
    · exact PA i h
    · obtain rfl : i = m := by omega
      have := PB 0 (by omega)
      rw [Nat.add_zero] at this
      rw [this, B0, Am]
  have hD : ∀ j, j ≤ t → cyc n P (m + j) = B j := fun j hj => by
    by_cases h : j < t
    · rw [cyc_lt (by omega)]; exact PB j h
    · obtain rfl : j = t := by omega
      rw [hlen, cyc_n, PA 0 (by omega), A0, Bt]
  intro k hk s hs
  by_cases h : k < m
  · rw [hC k (by omega), hC (k + 1) (by omega)]; exact eA k h s hs
  · have e1 := hD (k - m) (by omega)
    have e2 := hD (k - m + 1) (by omega)
    rw [show m + (k - m) = k by omega] at e1
    rw [show m + (k - m + 1) = k + 1 by omega] at e2
    rw [e1, e2]; exact eB (k - m) (by omega) s hs

end Go.Proofs.YthdonnkekggbbaaGreatDoor
