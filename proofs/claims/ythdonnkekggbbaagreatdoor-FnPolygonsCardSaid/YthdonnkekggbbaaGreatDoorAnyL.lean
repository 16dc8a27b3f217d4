/- A region that draws its order, walked in one way: what the loads read is asked of every world but those behind its late stores. Conditions: none. -/
import Derived.Test.YthdonnkekggbbaaGreatDoorJnTexts
namespace Go.Proofs.YthdonnkekggbbaaGreatDoor
open Go

/-- All of D are to come, each behind one of D, but i; the late ones that are to come are of D. -/
def heirsL (md : Region.Mode) (ops : Array Oper) (listed : Array Bool) (i : Nat) (late : List Nat) (D : List Nat) : Bool :=
  late.all (fun z => listed.getD z false || D.contains z) && D.all (fun d => !listed.getD d true) && D.all (fun d => d == i || (match ops[d]? with | some o => o.after.any (fun e => Region.binds md e && D.contains e.on) | none => false))

section
variable {P : Program} {ops : Array Oper} {Q : Exit → Act → World → Prop} {md : Region.Mode} {S : World → Prop} {late : List Nat}

/-- Whatever comes up, S holds behind it, but behind number z. -/
def WalkL (P : Program) (md : Region.Mode) (ops : Array Oper) (Q : Exit → Act → World → Prop) (S : World → Prop) (late : List Nat) : Nat → Array Bool → Act → World → Prop
  | 0, listed, a, w => Region.ready md ops listed = [] ∧ Q .normal a w
  | f + 1, listed, a, w => (Region.ready md ops listed = [] → Q .normal a w) ∧
      ∀ j ∈ Region.ready md ops listed, wpOp P ops Q j (fun a' w' => (j ∈ late ∨ S w') ∧ WalkL P md ops Q S late f (listed.setIfInBounds j true) a' w') a w

theorem WalkL.any : ∀ (f : Nat) (listed : Array Bool) (a : Act) (w : World), WalkL P md ops Q S late f listed a w → wpAny P md ops Q f listed a w
  | 0, _, _, _, h => h
  | f + 1, _, _, _, h => ⟨h.1, fun j hj => wpOp_mono (fun a' w' k => WalkL.any f _ a' w' k.2) (h.2 j hj)⟩

theorem getD_set_keep {l : Array Bool} {j z : Nat} (h : l.getD z false = true) : (l.setIfInBounds j true).getD z false = true := by
  simp only [Array.getD_eq_getD_getElem?, Array.getElem?_setIfInBounds] at *
  split
  · split
    · rfl
    · rename_i h1 h2; subst h1; rw [Array.getElem?_eq_none (by omega)] at h; cases h
  · exact h
theorem WalkL.first {i : Nat} {oi : Oper} {v : Value} {D : List Nat} (hi : ops[i]? = some oi) (hsel : ∀ (j : Nat) (o : Oper) cs b, ops[j]? = some o → o.op ≠ .select cs b)
    (hQ : ∀ c a w, Q (.panic c) (a.put oi.dst v) w → Q (.panic c) a w) 
    (hch : ∀ d ∈ D, d = i ∨ ∃ o, ops[d]? = some o ∧ ∃ e ∈ o.after, Region.binds md e = true ∧ e.on ∈ D) :
    ∀ (f : Nat) (listed : Array Bool) (a : Act) (w : World), (∀ z ∈ late, listed.getD z false = true ∨ z ∈ D) → (∀ d ∈ D, listed.getD d true = false) →
      (∀ j oj, ops[j]? = some oj → j ≠ i → listed.getD j true = false → (∀ e ∈ oj.after, Region.binds md e = true → e.on ≠ i) → oi.apart ops oj = true) →
      i ∈ Region.ready md ops listed → YieldsIf P ops S oi v a → S w →
      WalkL P md ops Q S late f (listed.setIfInBounds i true) (a.put oi.dst v) w → WalkL P md ops Q S late (f + 1) listed a w := by
  intro f
  induction f with
  | zero =>
    intro listed a w hzD hun hfree hr hy hS H
    refine ⟨fun h => (by rw [h] at hr; cases hr), fun j hj => ?_⟩
    by_cases hji : j = i
    · subst hji; exact hy.wpOp hi hS ⟨.inr hS, H⟩
    · have h := ready_mono hj hji
      rw [H.1] at h
      cases h
  | succ f ih =>
    intro listed a w hzD hun hfree hr hy hS H
    refine ⟨fun h => (by rw [h] at hr; cases hr), fun j hj => ?_⟩
    by_cases hji : j = i
    · subst hji; exact hy.wpOp hi hS ⟨.inr hS, H⟩
    · have hjD : j ∉ D := heirs_keep hun hch hj hji
      have h1 := H.2 j (ready_mono hj hji)
      obtain ⟨hjun, oj, hoj, hall⟩ := mem_ready.1 hj
      have hjz : j ∉ late := fun h => by
        rcases hzD _ h with h | h
        · rcases Nat.lt_or_ge j listed.size with h' | h'
          · simp [h'] at hjun h; rw [h] at hjun; cases hjun
          · simp [Array.getElem?_eq_none h'] at h
        · exact hjD h
      have hnot : ∀ e ∈ oj.after, Region.binds md e = true → e.on ≠ i := fun e he hb heq => by
        have g1 := hall e he hb
        have g0 := (mem_ready.1 hr).1
        rw [heq] at g1
        rcases Nat.lt_or_ge i listed.size with h' | h'
        · simp [h'] at g0 g1; rw [g0] at g1; cases g1
        · simp [Array.getElem?_eq_none h'] at g1
      have h2 := wpOp_putIf hoj (hfree j oj hoj hji hjun hnot) (fun cs b => hsel i oi cs b hi) (fun cs b => hsel j oj cs b hoj) hQ hy h1
      refine wpOp_mono (fun a' w' h3 => ?_) h2
      have hS' : S w' := h3.2.1.resolve_left hjz
      refine ⟨.inr hS', ih (listed.setIfInBounds j true) a' w' (fun z hz => (hzD z hz).imp (fun h => getD_set_keep h) id) (fun d hd => ?_) (fun k ok hk hki huk hno => hfree k ok hk hki ?_ hno) (ready_mono hr (Ne.symm hji)) h3.1 hS' ?_⟩
      · rw [getD_set_ne true (fun h => hjD (by rw [h]; exact hd))]; exact hun d hd
      · by_cases hjk : j = k
        · subst hjk; exact hjun
        · rw [getD_set_ne true hjk] at huk; exact huk
      · rw [Array.setIfInBounds_comm _ _ hji]; exact h3.2.2

theorem heirsL_un {listed : Array Bool} {i : Nat} {D : List Nat} (h : heirsL md ops listed i late D = true) : (∀ z ∈ late, listed.getD z false = true ∨ z ∈ D) ∧ (∀ d ∈ D, listed.getD d true = false) ∧ ∀ d ∈ D, d = i ∨ ∃ o, ops[d]? = some o ∧ ∃ e ∈ o.after, Region.binds md e = true ∧ e.on ∈ D := by
  unfold heirsL at h
  simp only [Bool.and_eq_true, List.all_eq_true, List.contains_eq_mem, decide_eq_true_eq, Bool.or_eq_true] at h
  refine ⟨h.1.1, fun d hd => by have := h.1.2 d hd; simpa using this, fun d hd => ?_⟩
  have h2 := h.2 d hd
  simp only [beq_iff_eq] at h2
  rcases h2 with h2 | h2
  · exact .inl h2
  · right
    cases ho : ops[d]? with
    | none => rw [ho] at h2; cases h2
    | some o =>
      rw [ho] at h2
      refine ⟨o, rfl, ?_⟩
      obtain ⟨e, he, hb⟩ := Array.any_eq_true'.1 h2
      simp only [Bool.and_eq_true, decide_eq_true_eq] at hb
      exact ⟨e, he, hb.1, hb.2⟩

/-- Number i is taken first. -/
theorem WalkL.take {i : Nat} {oi : Oper} {v : Value} {l rest : List Oper} {f : Nat} {listed : Array Bool} {a : Act} {w : World} (hi : l.drop i = oi :: rest)
    (hs : Region.noSelect l.toArray = true) (hf : Region.free md l.toArray listed i = true) (hr : (Region.ready md l.toArray listed).contains i = true)
    (hD : heirsL md l.toArray listed i late (heirs md l.toArray i) = true)
    (hQ : ∀ c a w, Q (.panic c) (a.put oi.dst v) w → Q (.panic c) a w) (hy : YieldsIf P l.toArray S oi v a) (hS : S w)
    (h : WalkL P md l.toArray Q S late f (listed.setIfInBounds i true) (a.put oi.dst v) w) : WalkL P md l.toArray Q S late (f + 1) listed a w := by
  have hi' : l.toArray[i]? = some oi := by
    have := congrArg (·[0]?) hi
    simpa using this
  obtain ⟨h1, h2, h3⟩ := heirsL_un hD
  exact WalkL.first hi' (Region.noSelect_spec hs) hQ h3 f listed a w h1 h2 (Region.free_spec hi' hf) (by simpa using hr) hy hS h

/-- Number i alone may come up. -/
theorem WalkL.one {i : Nat} {o : Oper} {l rest : List Oper} {f : Nat} {listed : Array Bool} {a : Act} {w : World} (hi : l.drop i = o :: rest)
    (hr : Region.ready md l.toArray listed = [i])
    (h : ∀ K' : Act → World → Prop, Shut (∀ a w, S w → (S w → WalkL P md l.toArray Q S late f (listed.setIfInBounds i true) a w) → K' a w) →
      if Region.wanted o (yielded l.toArray a.tmps) = true then Oper.wp P o a w K' Q else K' (a.put o.dst undef) w) : WalkL P md l.toArray Q S late (f + 1) listed a w := by
  have hi' : l.toArray[i]? = some o := by
    have := congrArg (·[0]?) hi
    simpa using this
  refine ⟨fun h0 => absurd (hr ▸ h0) (by simp), fun j hj => ?_⟩
  rw [hr] at hj
  obtain rfl : j = i := by simpa using hj
  exact wpOp_step hi' fun K' hK => h K' fun a w hS hW => hK a w ⟨.inr hS, hW hS⟩

/-- The last one comes up. -/
theorem WalkL.last {i : Nat} {o : Oper} {l rest : List Oper} {f : Nat} {listed : Array Bool} {a : Act} {w : World} (hi : l.drop i = o :: rest) (hz : i ∈ late)
    (hr : Region.ready md l.toArray listed = [i]) (hr2 : Region.ready md l.toArray (listed.setIfInBounds i true) = [])
    (h : ∀ K' : Act → World → Prop, Shut (∀ a w, Q .normal a w → K' a w) →
      if Region.wanted o (yielded l.toArray a.tmps) = true then Oper.wp P o a w K' Q else K' (a.put o.dst undef) w) : WalkL P md l.toArray Q S late (f + 1) listed a w := by
  have hi' : l.toArray[i]? = some o := by
    have := congrArg (·[0]?) hi
    simpa using this
  refine ⟨fun h0 => absurd (hr ▸ h0) (by simp), fun j hj => ?_⟩
  rw [hr] at hj
  obtain rfl : j = i := by simpa using hj
  refine wpOp_step hi' fun K' hK => h K' fun a w hq => hK a w ⟨.inl hz, ?_⟩
  cases f with
  | zero => exact ⟨hr2, hq⟩
  | succ f => exact ⟨fun _ => hq, by rw [hr2]; simp⟩

theorem WalkL.firstLate {i : Nat} {oi : Oper} {v : Value} (hi : ops[i]? = some oi) (hsel : ∀ (j : Nat) (o : Oper) cs b, ops[j]? = some o → o.op ≠ .select cs b)
    (hQ : ∀ c a w, Q (.panic c) (a.put oi.dst v) w → Q (.panic c) a w) (hil : i ∈ late) :
    ∀ (f : Nat) (listed : Array Bool) (a : Act) (w : World),
      (∀ j oj, ops[j]? = some oj → j ≠ i → listed.getD j true = false → (∀ e ∈ oj.after, Region.binds md e = true → e.on ≠ i) → oi.apart ops oj = true) →
      i ∈ Region.ready md ops listed → YieldsIf P ops (fun _ => True) oi v a →
      WalkL P md ops Q S late f (listed.setIfInBounds i true) (a.put oi.dst v) w → WalkL P md ops Q S late (f + 1) listed a w := by
  intro f
  induction f with
  | zero =>
    intro listed a w hfree hr hy H
    refine ⟨fun h => (by rw [h] at hr; cases hr), fun j hj => ?_⟩
    by_cases hji : j = i
    · subst hji; exact hy.wpOp hi trivial ⟨.inl hil, H⟩
    · have h := ready_mono hj hji
      rw [H.1] at h
      cases h
  | succ f ih =>
    intro listed a w hfree hr hy H
    refine ⟨fun h => (by rw [h] at hr; cases hr), fun j hj => ?_⟩
    by_cases hji : j = i
    · subst hji; exact hy.wpOp hi trivial ⟨.inl hil, H⟩
    · have h1 := H.2 j (ready_mono hj hji)
      obtain ⟨hjun, oj, hoj, hall⟩ := mem_ready.1 hj
      have hnot : ∀ e ∈ oj.after, Region.binds md e = true → e.on ≠ i := fun e he hb heq => by
        have g1 := hall e he hb
        have g0 := (mem_ready.1 hr).1
        rw [heq] at g1
        rcases Nat.lt_or_ge i listed.size with h' | h'
        · simp [h'] at g0 g1; rw [g0] at g1; cases g1
        · simp [Array.getElem?_eq_none h'] at g1
      have h2 := wpOp_putIf hoj (hfree j oj hoj hji hjun hnot) (fun cs b => hsel i oi cs b hi) (fun cs b => hsel j oj cs b hoj) hQ hy h1
      refine wpOp_mono (fun a' w' h3 => ?_) h2
      refine ⟨h3.2.1, ih (listed.setIfInBounds j true) a' w' (fun k ok hk hki huk hno => hfree k ok hk hki ?_ hno) (ready_mono hr (Ne.symm hji)) h3.1 ?_⟩
      · by_cases hjk : j = k
        · subst hjk; exact hjun
        · rw [getD_set_ne true hjk] at huk; exact huk
      · rw [Array.setIfInBounds_comm _ _ hji]; exact h3.2.2

/-- A late operation that reads no memory is taken first. -/
theorem WalkL.takeLate {i : Nat} {oi : Oper} {v : Value} {l rest : List Oper} {f : Nat} {listed : Array Bool} {a : Act} {w : World} (hi : l.drop i = oi :: rest) (hil : i ∈ late)
    (hs : Region.noSelect l.toArray = true) (hf : Region.free md l.toArray listed i = true) (hr : (Region.ready md l.toArray listed).contains i = true)
    (hQ : ∀ c a w, Q (.panic c) (a.put oi.dst v) w → Q (.panic c) a w) (hy : YieldsIf P l.toArray (fun _ => True) oi v a)
    (h : WalkL P md l.toArray Q S late f (listed.setIfInBounds i true) (a.put oi.dst v) w) : WalkL P md l.toArray Q S late (f + 1) listed a w := by
  have hi' : l.toArray[i]? = some oi := by
    have := congrArg (·[0]?) hi
    simpa using this
  exact WalkL.firstLate hi' (Region.noSelect_spec hs) hQ hil f listed a w (Region.free_spec hi' hf) (by simpa using hr) hy h

/-- A late operation alone may come up. -/
theorem WalkL.oneLate {i : Nat} {o : Oper} {l rest : List Oper} {f : Nat} {listed : Array Bool} {a : Act} {w : World} (hi : l.drop i = o :: rest) (hil : i ∈ late)
    (hr : Region.ready md l.toArray listed = [i])
    (h : ∀ K' : Act → World → Prop, Shut (∀ a w, WalkL P md l.toArray Q S late f (listed.setIfInBounds i true) a w → K' a w) →
      if Region.wanted o (yielded l.toArray a.tmps) = true then Oper.wp P o a w K' Q else K' (a.put o.dst undef) w) : WalkL P md l.toArray Q S late (f + 1) listed a w := by
  have hi' : l.toArray[i]? = some o := by
    have := congrArg (·[0]?) hi
    simpa using this
  refine ⟨fun h0 => absurd (hr ▸ h0) (by simp), fun j hj => ?_⟩
  rw [hr] at hj
  obtain rfl : j = i := by simpa using hj
  exact wpOp_step hi' fun K' hK => h K' fun a w hW => hK a w ⟨.inl hil, hW⟩

/-- The beginning. -/
theorem wp_region_l (late : List Nat) (n : Nat) (S : World → Prop) {id : Nat} {l : List Oper} {a : Act} {w : World} (hm : P.follows .mixedOrders = true) (hn : l.length = n) (hS : S w.drew)
    (h : S w.drew → WalkL P .any l.toArray Q S late n (Array.replicate n false) a w.drew) : (Code.region id l.toArray true).wp P Q a w := by
  subst hn
  exact wp_region_any hm (by simpa using WalkL.any _ _ _ _ (h hS))

end
end Go.Proofs.YthdonnkekggbbaaGreatDoor
