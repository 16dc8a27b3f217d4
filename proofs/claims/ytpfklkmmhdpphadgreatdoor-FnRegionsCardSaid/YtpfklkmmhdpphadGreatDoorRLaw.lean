/- Plain laws of regions: what is written is read the same, moved points are in the moved region, the points of a meet are those of both. Conditions: none. -/
import Derived.Test.YtpfklkmmhdpphadGreatDoorMove2
import Derived.Test.YtpfklkmmhdpphadGreatDoorMeet3
import Derived.Test.YtpfklkmmhdpphadGreatDoorReg3
import Derived.Test.YtpfklkmmhdpphadGreatDoorPReg2
import Derived.Test.YtpfklkmmhdpphadGreatDoorVecLaws
namespace Go.Proofs.YtpfklkmmhdpphadGreatDoor
open Go.RowKit
set_option linter.unusedVariables false
set_option linter.unusedSimpArgs false
set_option maxRecDepth 100000

theorem mem_joinTail {c b : UInt8} : ∀ r : List (List UInt8), b ∈ Lib.joinTail [c] r → b = c ∨ ∃ p ∈ r, b ∈ p
  | [], h => by simp [Lib.joinTail] at h
  | y :: r, h => by
    have e : Lib.joinTail [c] (y :: r) = c :: (y ++ Lib.joinTail [c] r) := by simp [Lib.joinTail]
    rw [e] at h
    rcases List.mem_cons.1 h with h | h
    · exact .inl h
    · rcases List.mem_append.1 h with h | h
      · exact .inr ⟨y, by simp, h⟩
      · rcases mem_joinTail r h with h | ⟨p, hp, h⟩
        · exact .inl h
        · exact .inr ⟨p, by simp [hp], h⟩
theorem comma_free {c : UInt8} (h44 : c ≠ 44) (hc : c.toNat < 45 ∨ (45 < c.toNat ∧ c.toNat < 48) ∨ 57 < c.toNat) (xs : List Int) : c ∉ commaT xs := by
  intro h
  unfold commaT at h
  have key : ∀ p ∈ itoas xs, c ∉ p := fun p hp => by
    rw [itoas, List.mem_map] at hp
    obtain ⟨n, _, rfl⟩ := hp
    exact itoa_free hc n
  cases hs : itoas xs with
  | nil => rw [hs] at h; simp [Lib.join] at h
  | cons x r =>
    rw [hs, Lib.join_cons] at h
    rcases List.mem_append.1 h with h | h
    · exact key x (by rw [hs]; simp) h
    · rcases mem_joinTail r h with h | ⟨p, hp, h⟩
      · exact h44 h
      · exact key p (by rw [hs]; simp [hp]) h
def partT (h : Pr) : List UInt8 := commaT h.1 ++ [60] ++ Lib.itoa h.2
theorem byte60 : byteD 60 = (60 : UInt8) := by decide
theorem byte59 : byteD 59 = (59 : UInt8) := by decide
theorem half_text {xs : List Int} {b : Int} (h : isVec xs = true) (h0 : -200 ≤ b) (h1 : b ≤ 200) : halfP (partT (xs, b)) = ((xs, b), true) := by
  have e : splitW (byteD 60) (partT (xs, b)) = [commaT xs, Lib.itoa b] := by
    rw [byte60]
    have e1 : partT (xs, b) = Lib.join [commaT xs, Lib.itoa b] [60] := by
      rw [Lib.join_cons]; simp [partT, Lib.joinTail]
    rw [e1]
    refine split_of_join (by simp) fun p hp => ?_
    simp only [List.mem_cons, List.not_mem_nil, or_false] at hp
    rcases hp with rfl | rfl
    · exact comma_free (by decide) (by decide) xs
    · exact itoa_free (by decide) b
  have e2 := pvec_text h
  have e3 := numP_itoa (n := b) (by omega) (by omega)
  unfold halfP
  rw [e]
  simp [nthS, e2, e3]
theorem part_free {xs : List Int} {b : Int} : (59 : UInt8) ∉ partT (xs, b) := by
  unfold partT
  intro h
  rcases List.mem_append.1 h with h | h
  · rcases List.mem_append.1 h with h | h
    · exact comma_free (by decide) (by decide) xs h
    · simp at h
  · exact itoa_free (by decide) b h
theorem flat_tail : ∀ hs : List Pr, (hs.map halfT).flatten = Lib.joinTail [59] (hs.map partT)
  | [] => rfl
  | h :: r => by
    have e1 : ((h :: r).map halfT).flatten = halfT h ++ (r.map halfT).flatten := rfl
    have e2 : Lib.joinTail [59] ((h :: r).map partT) = ([59] ++ partT h) ++ Lib.joinTail [59] (r.map partT) := rfl
    rw [e1, e2, flat_tail r]
    simp [halfT, partT]
/-- A region is read out of its text. -/
theorem preg_text {z : Int} {hs : List Pr} (h : isReg z hs = true) : pregV (regT z hs) = ((z, hs), true) := by
  obtain ⟨h1, h3, h8, hh⟩ := isReg_facts h
  have e : splitW (byteD 59) (regT z hs) = Lib.itoa z :: hs.map partT := by
    rw [byte59]
    have e1 : regT z hs = Lib.join (Lib.itoa z :: hs.map partT) [59] := by
      unfold regT regTo
      rw [if_pos h, List.take_of_length_le (Nat.le_refl _), Lib.join_cons, flat_tail]
    rw [e1]
    refine split_of_join (by simp) fun p hp => ?_
    rcases List.mem_cons.1 hp with rfl | hp
    · exact itoa_free (by decide) z
    · rw [List.mem_map] at hp
      obtain ⟨x, _, rfl⟩ := hp
      exact part_free
  have hz := numP_itoa (n := z) (by omega) (by omega)
  have hx : ∀ x ∈ hs, halfP (partT x) = (x, true) := fun x hx => by
    obtain ⟨k, hk, rfl⟩ := List.getElem_of_mem hx
    have hf := hh k hk
    have := half_in h1 h3 hf
    have hv : isVec hs[k].1 = true := by have := this.1; rwa [nrm, prAt_eq hk] at this
    have b0 : -200 ≤ hs[k].2 := by have := this.2.2.2.1; rwa [bnd, prAt_eq hk] at this
    have b1 : hs[k].2 ≤ 200 := by have := this.2.2.2.2; rwa [bnd, prAt_eq hk] at this
    exact half_text (xs := hs[k].1) (b := hs[k].2) hv b0 b1
  have ho : okH (hs.map partT) = true := by
    unfold okH
    rw [List.all_eq_true]
    intro p hp
    rw [List.mem_map] at hp
    obtain ⟨x, hxm, rfl⟩ := hp
    rw [hx x hxm]
  have hb : halvesP (hs.map partT) = hs := by
    unfold halvesP
    rw [List.map_map]
    refine (List.map_congr_left fun x hxm => ?_).trans (List.map_id hs)
    simp only [Function.comp_apply, id_eq]
    rw [hx x hxm]
  unfold pregV
  rw [e]
  have e0 : nthS (Lib.itoa z :: hs.map partT) 0 = Lib.itoa z := rfl
  rw [e0, List.tail_cons, hb, hz, if_pos ⟨rfl, ho, h⟩]
theorem preg_none {z : Int} {hs : List Pr} (h : isReg z hs = false) : pregV (regT z hs) = ((0, []), false) := by
  have e : regT z hs = [] := by unfold regT; rw [if_neg (by rw [h]; simp)]
  rw [e]
  unfold pregV
  rw [if_neg]
  rintro ⟨h1, _⟩
  have h2 := numP_back h1
  have h3 : nthS (splitW (byteD 59) []) 0 = [] := by rfl
  rw [h3] at h2
  exact itoa_ne _ h2

theorem twice_nth (v : List Int) (j : Nat) : nth (v.map fun x => wrap64 (x + x)) j = wrap64 (nth v j + nth v j) := by
  unfold nth
  rw [List.getD_eq_getElem?_getD, List.getD_eq_getElem?_getD, List.getElem?_map]
  cases v[j]? with
  | none => show (0 : Int) = wrap64 (0 + 0); rw [wrap64_id (by omega) (by omega)]; rfl
  | some x => rfl
theorem all_eq {α : Type} {f g : α → Bool} : ∀ {l : List α}, (∀ x ∈ l, f x = g x) → l.all f = l.all g
  | [], _ => rfl
  | x :: l, h => by rw [List.all_cons, List.all_cons, h x (by simp), all_eq fun y hy => h y (by simp [hy])]
theorem dot_twice {us v : List Int} (hu : ∀ j, Abs 20 (nth us j)) (hv : ∀ j, Abs 4 (nth v j)) : ∀ k : Nat, k ≤ 3 → Abs (80 * (k : Int)) (dotTo us v k) ∧ dotTo us (v.map fun x => wrap64 (x + x)) k = 2 * dotTo us v k
  | 0, _ => by simp [dotTo, Abs]
  | k + 1, hk => by
    obtain ⟨ih1, ih2⟩ := dot_twice hu hv k (by omega)
    have h1 := (hu k).mul (hv k)
    have a := hv k
    have b := hu k
    have hw : wrap64 (nth v k + nth v k) = 2 * nth v k := by unfold Abs at a; rw [wrap64_id (by omega) (by omega)]; omega
    have e1 : nth us k * (2 * nth v k) = 2 * (nth us k * nth v k) := by grind
    unfold Abs at ih1 h1
    rw [dotTo, dotTo, twice_nth, hw, ih2, e1]
    rw [wrap64_id (a := nth us k * nth v k) (by omega) (by omega), wrap64_id (a := 2 * (nth us k * nth v k)) (by omega) (by omega)]
    rw [wrap64_id (a := dotTo us v k + nth us k * nth v k) (by omega) (by omega), wrap64_id (by omega) (by omega)]
    unfold Abs
    omega
theorem half_small {z : Int} {hs : List Pr} (h : isReg z hs = true) {x : Pr} (hx : x ∈ hs) : (x.1.length : Int) = z ∧ (∀ j, Abs 20 (nth x.1 j)) ∧ -200 ≤ x.2 ∧ x.2 ≤ 200 := by
  obtain ⟨k, hk, rfl⟩ := List.getElem_of_mem hx
  have hf := isHalf_facts ((isReg_facts h).2.2.2 k hk)
  rw [nrm, bnd, prAt_eq hk] at hf
  refine ⟨hf.1, fun j => ?_, hf.2.2.2.1, hf.2.2.2.2⟩
  unfold nth Abs
  rw [List.getD_eq_getElem?_getD]
  cases hj : hs[k].1[j]? with
  | none => simp
  | some y =>
    have := List.all_eq_true.1 hf.2.1 y (List.mem_of_getElem? hj)
    have := inR_true this
    simpa using this
/-- A point moved twice as far as the region's move says is in the moved region, as the point is in the region. -/
theorem move_has {z z' : Int} {hs ws : List Pr} {v : List Int} (h : moveV z hs v = ((z', ws), true)) (hv : ∀ j, Abs 4 (nth v j)) : hasPt z' ws (v.map fun x => wrap64 (x + x)) = hasPt z hs v := by
  unfold moveV at h
  split at h
  · next hc =>
    obtain ⟨hreg, hvec, hlen⟩ := hc
    unfold regIf at h
    split at h
    · next hm =>
      injection h with h _
      injection h with h1 h2
      subst h1
      subst h2
      have hz := isReg_facts hreg
      have hv2 : isVec (v.map fun x => wrap64 (x + x)) = true := by
        unfold isVec allR inR
        simp only [Bool.and_eq_true, decide_eq_true_eq, List.all_eq_true, List.length_map]
        refine ⟨⟨by omega, by omega⟩, fun y hy => ?_⟩
        rw [List.mem_map] at hy
        obtain ⟨x, hx, rfl⟩ := hy
        obtain ⟨j, hj, rfl⟩ := List.getElem_of_mem hx
        have := hv j
        rw [nth_eq hj] at this
        unfold Abs at this
        rw [wrap64_id (by omega) (by omega)]
        omega
      unfold hasPt
      rw [hreg, hm, hvec, hv2, List.length_map, decide_eq_true hlen]
      simp only [Bool.true_and]
      unfold hasP moveW
      rw [List.all_map]
      have : ∀ x ∈ hs, ((fun u : Pr => decide (dotW u.1 (v.map fun x => wrap64 (x + x)) ≤ u.2)) ∘ fun u : Pr => (u.1, wrap64 (u.2 + dotW u.1 v))) x = decide (dotW x.1 v ≤ x.2) := by
        intro x hx
        obtain ⟨l1, l2, l3, l4⟩ := half_small hreg hx
        have hd := dot_twice l2 hv x.1.length (by omega)
        simp only [Function.comp_apply]
        unfold dotW
        rw [hd.2]
        have hb := hd.1
        unfold Abs at hb
        rw [wrap64_id (by omega) (by omega)]
        by_cases e : dotTo x.1 v x.1.length ≤ x.2
        · rw [decide_eq_true e, decide_eq_true (by omega)]
        · rw [decide_eq_false e, decide_eq_false (by omega)]
      exact all_eq this
    · next hm => injection h with _ h; cases h
  · injection h with _ h; cases h

/-- The points of a meet are those of both. -/
theorem meet_has {z y z' : Int} {us vs ws : List Pr} {x : List Int} (h : meetV z us y vs = ((z', ws), true)) : hasPt z' ws x = (hasPt z us x && hasPt y vs x) := by
  unfold meetV at h
  split at h
  · next hc =>
    obtain ⟨h1, h2, rfl⟩ := hc
    unfold regIf at h
    split at h
    · next hm =>
      injection h with h _
      injection h with e1 e2
      subst e1
      subst e2
      have hP : hasP (meetW us vs) x = (hasP us x && hasP vs x) := by
        unfold hasP meetW selH
        rw [List.all_append]
        cases hu : us.all fun h => decide (dotW h.1 x ≤ h.2)
        · rfl
        · rw [Bool.true_and, Bool.true_and, List.all_filter]
          have key : ∀ r : List Pr, (r.all fun a => !(!decide (a ∈ us)) || decide (dotW a.1 x ≤ a.2)) = r.all fun a => decide (dotW a.1 x ≤ a.2) := by
            intro r
            induction r with
            | nil => rfl
            | cons a r ih =>
              rw [List.all_cons, List.all_cons, ih]
              congr 1
              by_cases ha : a ∈ us
              · have := List.all_eq_true.1 hu a ha
                simp [ha, this]
              · simp [ha]
          exact key vs
      unfold hasPt
      rw [h1, h2, hm, hP]
      cases isVec x <;> cases decide ((x.length : Int) = z) <;> cases hasP us x <;> simp
    · injection h with _ h; cases h
  · injection h with _ h; cases h

end Go.Proofs.YtpfklkmmhdpphadGreatDoor
