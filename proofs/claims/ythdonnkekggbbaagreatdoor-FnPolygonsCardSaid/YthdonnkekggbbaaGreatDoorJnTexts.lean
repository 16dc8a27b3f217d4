/- Texts joined: Texts VecDraw3 AnyU VecDraw4 IsMat Ops2 Less MDrawS. -/
import Derived.Test.YthdonnkekggbbaaGreatDoorJnStrFns3
import Derived.Deep.RegionHeld3
import Derived.Test.YthdonnkekggbbaaGreatDoorJnVecFns2
import Derived.Test.YthdonnkekggbbaaGreatDoorJnBase

/- Contracts: numbers separated by commas, the text of a vector. Conditions: sizes; the library's table. -/
namespace Go.Proofs.YthdonnkekggbbaaGreatDoor
open Go.RowKit
set_option linter.unusedVariables false
set_option linter.unusedSimpArgs false
set_option maxRecDepth 100000

def itoas (xs : List Int) : List (List UInt8) := xs.map Lib.itoa
theorem itoas_length (xs : List Int) : (itoas xs).length = xs.length := by simp [itoas]
theorem itoas_take {xs : List Int} {k : Nat} (h : k < xs.length) : itoas (xs.take (k + 1)) = itoas (xs.take k) ++ [Lib.itoa (nth xs k)] := by
  rw [take_nth h]; simp [itoas]
def commaT (xs : List Int) : List UInt8 := Lib.join (itoas xs) [44]
/-- Numbers that an int holds. -/
def AllIn (xs : List Int) : Prop := ∀ k, k < xs.length → -9223372036854775808 ≤ nth xs k ∧ nth xs k ≤ 9223372036854775807
theorem itoas_tot {xs : List Int} (h : AllIn xs) : totS (itoas xs) ≤ 21 * xs.length := by
  have key : ∀ k, k ≤ xs.length → totS (itoas (xs.take k)) ≤ 21 * k := by
    intro k
    induction k with
    | zero => intro _; simp [itoas, totS]
    | succ k ih =>
      intro hk
      have h1 := ih (by omega)
      have h2 := h k (by omega)
      have h3 := Lib.itoa_length_le _ h2.1 h2.2
      rw [itoas_take (by omega)]
      simp only [totS, List.map_append, List.sum_append, List.map_cons, List.map_nil, List.sum_cons, List.sum_nil] at h1 ⊢
      omega
  have := key xs.length (Nat.le_refl _)
  rwa [List.take_length] at this
theorem vec_in {xs : List Int} (h : isVec xs = true) : AllIn xs := fun k hk => by
  unfold isVec at h
  rw [Bool.and_eq_true] at h
  have := List.all_eq_true.1 h.2 (nth xs k) (by rw [nth_eq hk]; exact List.getElem_mem _)
  have := inR_true this
  omega

theorem commaT_length {xs : List Int} (h : AllIn xs) : (commaT xs).length ≤ 22 * xs.length := by
  have h1 := joinTo_length (itoas xs) [44] (itoas xs).length (Nat.le_refl _)
  rw [joinTo_eq _ _ _ (Nat.le_refl _), List.take_length, itoas_length] at h1
  have h2 := itoas_tot h
  show (Lib.join (itoas xs) [44]).length ≤ _
  simp only [List.length_cons, List.length_nil] at h1
  omega

theorem l2Text_any (p : Option Addr) (n c : Nat) (xs : List Int) (w : World) (hx : Ints w p n xs) (hn : n ≤ 1048576) (hb : AllIn xs) :
    Calls Tryz.prog 68 #[.slice p n c] w (NewText w (commaT xs)) := by
  have hl := Lib.hid hx.len
  have Hb := Lib.hid hb
  have ht := itoas_tot hb
  rw [hl.out] at ht
  have Ht2 : Hid (totS (itoas xs) ≤ 33554432) := Lib.hid (by omega)
  clear hb ht
  go_enter Tryz.func68, Tryz.ntmps68
  go_wp2
  go_loopw [3, 4] (fun v i wr => ∃ (k : Nat) (p' : Option Addr) (c' : Nat), k ≤ n ∧ i = .int .i64 k ∧ v = .slice p' k c' ∧ OwnS wr w.heap.size wr.heap.size p' k c' (itoas (xs.take k)) ∧ Below w.heap.size w wr) (fun _ i _ => n - (intOf i).toNat)
  case atStart => exact ⟨0, _, _, Nat.zero_le _, rfl, rfl, OwnV.up (OwnV.emptyV w _), (Below.refl _ _).alloc (Nat.le_refl _) _⟩
  case round =>
    obtain ⟨k, p', c', hk, rfl, rfl, hown, hb⟩ := hrel
    by_cases hlt : k < n
    · obtain ⟨b, o, rfl, hc⟩ := (hx.below hb).cell k hlt
      have hkl : k < xs.length := by rw [hl.out]; exact hlt
      obtain ⟨b0, b1⟩ := Hb.out k hkl
      have E := Lib.hid (itoas_take hkl)
      clear hkl
      generalize nth xs k = x at *
      go_wp2_with fail
      refine (specFormat_any _ _ b0 b1).mono ?_
      rintro e w1 ⟨rfl, hb1⟩
      have hown1 := hown.below hb1
      have hb2 := Below.step hb hb1
      generalize Lib.itoa x = t at *
      go_wp2_with (at_builtin; refine append_str rfl _ _ rfl _ w.heap.size _ _ _ _ _ rfl (OwnV.alloc hown1 _) w1.heap.size t rfl (cellNew _ _ _) (by omega) (sizeNew hb2 _) ?_; intro p2 c2 w2 hown2 hg2)
      have hb3 := hg2.below (sizeNew hb2 _) fun a ha => (OwnV.lt hown1 a ha).1
      go_roundw
      case rel => exact ⟨k + 1, _, _, by omega, by go_num, rfl, by rw [E.out]; exact hown2, Below.new hb2 _ hb3⟩
      case measure => simp [intOf]; omega
    · obtain rfl : k = n := by omega
      rw [List.take_of_length_le (by rw [hl.out]; exact Nat.le_refl _)] at hown
      go_wp2_with fail
      refine (specJoin_any _ _ _ _ ([44]) _ hown.rd hn Ht2.out (by decide)).mono ?_
      rintro e w1 ⟨rfl, hb1⟩
      have hb2 := Below.step hb hb1
      go_wp2_with fail
      go_ret
      exact ⟨rfl, hb2⟩

theorem texts_any (p : Option Addr) (n c : Nat) (xs : List Int) (w : World) (hx : Ints w p n xs) (hn : n ≤ 1048576) (hb : AllIn xs) (htab : TabW w) :
    Calls Tryz.prog 91 #[.slice p n c] w (NewText w (commaT xs)) := by
  have hl := Lib.hid hx.len
  have Hb := Lib.hid hb
  have ht := itoas_tot hb
  rw [hl.out] at ht
  have Ht2 : Hid (totS (itoas xs) ≤ 33554432) := Lib.hid (by omega)
  clear hb ht
  go_enter Tryz.func91, Tryz.ntmps91
  go_wp2
  go_loopw [3, 8] (fun v i wr => ∃ (k : Nat) (p' : Option Addr) (c' : Nat), k ≤ n ∧ i = .int .i64 k ∧ v = .slice p' k c' ∧ OwnS wr w.heap.size wr.heap.size p' k c' (itoas (xs.take k)) ∧ Below w.heap.size w wr) (fun _ i _ => n - (intOf i).toNat)
  case atStart => exact ⟨0, _, _, Nat.zero_le _, rfl, rfl, OwnV.nil _ _ _ _ _, Below.refl _ _⟩
  case round =>
    obtain ⟨k, p', c', hk, rfl, rfl, hown, hb⟩ := hrel
    by_cases hlt : k < n
    · obtain ⟨b, o, rfl, hc⟩ := (hx.below hb).cell k hlt
      have hkl : k < xs.length := by rw [hl.out]; exact hlt
      obtain ⟨b0, b1⟩ := Hb.out k hkl
      have E := Lib.hid (itoas_take hkl)
      clear hkl
      generalize nth xs k = x at *
      go_wp2_with fail
      refine (implFormat_any _ _ b0 b1 (htab.below hb)).mono ?_
      rintro e w1 ⟨rfl, hb1⟩
      have hown1 := hown.below hb1
      have hb2 := Below.step hb hb1
      generalize Lib.itoa x = t at *
      go_wp2_with (at_builtin; refine append_str rfl _ _ rfl _ w.heap.size _ _ _ _ _ rfl (OwnV.alloc hown1 _) w1.heap.size t rfl (cellNew _ _ _) (by omega) (sizeNew hb2 _) ?_; intro p2 c2 w2 hown2 hg2)
      have hb3 := hg2.below (sizeNew hb2 _) fun a ha => (OwnV.lt hown1 a ha).1
      go_roundw
      case rel => exact ⟨k + 1, _, _, by omega, by go_num, rfl, by rw [E.out]; exact hown2, Below.new hb2 _ hb3⟩
      case measure => simp [intOf]; omega
    · obtain rfl : k = n := by omega
      rw [List.take_of_length_le (by rw [hl.out]; exact Nat.le_refl _)] at hown
      have hcap : k ≤ c' := by
        rcases OwnV.form1 hown with ⟨_, rfl, rfl⟩ | ⟨g, _, _, _, _, hc, _⟩
        · exact Nat.le_refl _
        · exact hc
      go_wp2_with fail
      refine (implJoin_any _ _ _ _ ([44]) _ hown.rd hcap hn Ht2.out (by decide)).mono ?_
      rintro e w1 ⟨rfl, hb1⟩
      have hb2 := Below.step hb hb1
      go_wp2_with fail
      go_ret
      exact ⟨rfl, hb2⟩

/-- The text of a vector, or none. -/
def vecT (xs : List Int) : List UInt8 := if isVec xs = true then commaT xs else []
theorem implVecText_any (p : Option Addr) (n c : Nat) (xs : List Int) (w : World) (hx : Ints w p n xs) (hn : n ≤ 1048576) (htab : TabW w) :
    Calls Tryz.prog 66 #[.slice p n c] w (NewText w (vecT xs)) := by
  cases h : isVec xs
  · have HV : Hid (vecT xs = []) := Lib.hid (by rw [vecT, h]; rfl)
    go_enter Tryz.func66, Tryz.ntmps66
    go_wp2_with (go_at_call 56; (with_reducible refine (implIsVector_any _ _ _ _ _ hx (by omega)).mono ?_); rintro e w' ⟨rfl, rfl⟩)
    go_ret
    exact ⟨ret_str (a := []) HV.out.symm, Below.refl _ _⟩
  · have HV : Hid (vecT xs = commaT xs) := Lib.hid (by rw [vecT, h]; rfl)
    have HI := Lib.hid (vec_in h)
    go_enter Tryz.func66, Tryz.ntmps66
    go_wp2_with (go_at_call 56; (with_reducible refine (implIsVector_any _ _ _ _ _ hx (by omega)).mono ?_); rintro e w' ⟨rfl, rfl⟩)
    refine (texts_any _ _ _ _ _ hx hn HI.out htab).mono ?_
    rintro e w1 ⟨rfl, hb1⟩
    go_wp2_with fail
    go_ret
    exact ⟨ret_str HV.out.symm, hb1⟩

end Go.Proofs.YthdonnkekggbbaaGreatDoor

/- The reference's draws of vectors: what a great law reads. Conditions: sizes. -/
namespace Go.Proofs.YthdonnkekggbbaaGreatDoor
open Go.RowKit
set_option linter.unusedVariables false
set_option linter.unusedSimpArgs false
set_option maxRecDepth 100000

/-- A row that reads as five numbers at most. -/
def ReadRow (w : World) (e : Ending) (w' : World) : Prop := ∃ q m d ys, e = .returned (.slice q m d) ∧ Ints w' q m ys ∧ m ≤ 5 ∧ Below w.heap.size w w'
def ReadTwo (w : World) (e : Ending) (w' : World) : Prop := ∃ q m d ys q' m' d' ys', e = .returned (.tuple #[.slice q m d, .slice q' m' d']) ∧ Ints w' q m ys ∧ m ≤ 5 ∧ Ints w' q' m' ys' ∧ m' ≤ 5 ∧ Below w.heap.size w w'

def scaleL : List Int := [0, 1, -1, 2, 3, 200, -1000, 1001]
theorem Own.setBelow2 {w : World} {lo hi : Nat} {p : Option Addr} {n c k b : Nat} {xs : List Int} (h : Own w lo hi p n c xs) (hb : hi ≤ b) (u : Value) : Own (w.setCell ⟨b, k, none⟩ u) lo hi p n c xs :=
  h.within (lo' := b) (hi' := b + 1) ((Within.refl b (b + 1) w).setCell (p := ⟨b, k, none⟩) (Nat.le_refl _) (Nat.lt_succ_self _) u) (.inl hb)

end Go.Proofs.YthdonnkekggbbaaGreatDoor

/- A region that draws its order, walked in one way: what the loads read is asked of every world but the last one, behind the region's last store. Conditions: none. -/
namespace Go.Proofs.YthdonnkekggbbaaGreatDoor
open Go

/-- The operations that wait for number i, i with them. -/
def heirs (md : Region.Mode) (ops : Array Oper) (i : Nat) : List Nat :=
  (List.range ops.size).foldl (fun acc j => if j == i || (match ops[j]? with | some o => o.after.any (fun e => Region.binds md e && acc.contains e.on) | none => false) then j :: acc else acc) []
/-- All of D are to come, each behind one of D, but i. -/
def heirsOK (md : Region.Mode) (ops : Array Oper) (listed : Array Bool) (i z : Nat) (D : List Nat) : Bool :=
  D.contains z && D.all (fun d => !listed.getD d true) && D.all (fun d => d == i || (match ops[d]? with | some o => o.after.any (fun e => Region.binds md e && D.contains e.on) | none => false))

section
variable {P : Program} {ops : Array Oper} {Q : Exit → Act → World → Prop} {md : Region.Mode} {S : World → Prop} {z : Nat}

/-- Whatever comes up, S holds behind it, but behind number z. -/
def WalkU (P : Program) (md : Region.Mode) (ops : Array Oper) (Q : Exit → Act → World → Prop) (S : World → Prop) (z : Nat) : Nat → Array Bool → Act → World → Prop
  | 0, listed, a, w => Region.ready md ops listed = [] ∧ Q .normal a w
  | f + 1, listed, a, w => (Region.ready md ops listed = [] → Q .normal a w) ∧
      ∀ j ∈ Region.ready md ops listed, wpOp P ops Q j (fun a' w' => (j = z ∨ S w') ∧ WalkU P md ops Q S z f (listed.setIfInBounds j true) a' w') a w

theorem WalkU.any : ∀ (f : Nat) (listed : Array Bool) (a : Act) (w : World), WalkU P md ops Q S z f listed a w → wpAny P md ops Q f listed a w
  | 0, _, _, _, h => h
  | f + 1, _, _, _, h => ⟨h.1, fun j hj => wpOp_mono (fun a' w' k => WalkU.any f _ a' w' k.2) (h.2 j hj)⟩

/-- While i is to come, so is all that waits for it. -/
theorem heirs_keep {i j : Nat} {D : List Nat} {listed : Array Bool} (hun : ∀ d ∈ D, listed.getD d true = false)
    (hch : ∀ d ∈ D, d = i ∨ ∃ o, ops[d]? = some o ∧ ∃ e ∈ o.after, Region.binds md e = true ∧ e.on ∈ D) (hj : j ∈ Region.ready md ops listed) (hji : j ≠ i) : j ∉ D := by
  intro hD
  rcases hch j hD with h | ⟨o, ho, e, he, hb, hon⟩
  · exact hji h
  · obtain ⟨_, o', ho', hall⟩ := mem_ready.1 hj
    rw [ho] at ho'
    injection ho' with ho'
    subst ho'
    have h1 := hall e he hb
    have h2 := hun _ hon
    rcases Nat.lt_or_ge e.on listed.size with h | h
    · simp [h] at h1 h2; rw [h2] at h1; cases h1
    · simp [Array.getElem?_eq_none h] at h2

theorem WalkU.first {i : Nat} {oi : Oper} {v : Value} {D : List Nat} (hi : ops[i]? = some oi) (hsel : ∀ (j : Nat) (o : Oper) cs b, ops[j]? = some o → o.op ≠ .select cs b)
    (hQ : ∀ c a w, Q (.panic c) (a.put oi.dst v) w → Q (.panic c) a w) (hzD : z ∈ D)
    (hch : ∀ d ∈ D, d = i ∨ ∃ o, ops[d]? = some o ∧ ∃ e ∈ o.after, Region.binds md e = true ∧ e.on ∈ D) :
    ∀ (f : Nat) (listed : Array Bool) (a : Act) (w : World), (∀ d ∈ D, listed.getD d true = false) →
      (∀ j oj, ops[j]? = some oj → j ≠ i → listed.getD j true = false → (∀ e ∈ oj.after, Region.binds md e = true → e.on ≠ i) → oi.apart ops oj = true) →
      i ∈ Region.ready md ops listed → YieldsIf P ops S oi v a → S w →
      WalkU P md ops Q S z f (listed.setIfInBounds i true) (a.put oi.dst v) w → WalkU P md ops Q S z (f + 1) listed a w := by
  intro f
  induction f with
  | zero =>
    intro listed a w hun hfree hr hy hS H
    refine ⟨fun h => (by rw [h] at hr; cases hr), fun j hj => ?_⟩
    by_cases hji : j = i
    · subst hji; exact hy.wpOp hi hS ⟨.inr hS, H⟩
    · have h := ready_mono hj hji
      rw [H.1] at h
      cases h
  | succ f ih =>
    intro listed a w hun hfree hr hy hS H
    refine ⟨fun h => (by rw [h] at hr; cases hr), fun j hj => ?_⟩
    by_cases hji : j = i
    · subst hji; exact hy.wpOp hi hS ⟨.inr hS, H⟩
    · have hjD : j ∉ D := heirs_keep hun hch hj hji
      have hjz : j ≠ z := fun h => hjD (h ▸ hzD)
      have h1 := H.2 j (ready_mono hj hji)
      obtain ⟨hjun, oj, hoj, hall⟩ := mem_ready.1 hj
      have hnot : ∀ e ∈ oj.after, Region.binds md e = true → e.on ≠ i := fun e he hb heq => by
        have g1 := hall e he hb
        have g0 := (mem_ready.1 hr).1
        rw [heq] at g1
        rcases Nat.lt_or_ge i listed.size with h' | h'
        · simp [h'] at g0 g1; rw [g0] at g1; cases g1
        · simp [Array.getElem?_eq_none h'] at g1
      have h2 := wpOp_putIf hoj (hfree j oj hoj hji hjun hnot) (fun cs b => hsel i oi cs b hi) (fun cs b => hsel j oj cs b hoj) hQ hy h1
      refine wpOp_mono (fun a' w' h3 => ?_) h2
      have hS' : S w' := h3.2.1.resolve_left hjz
      refine ⟨.inr hS', ih (listed.setIfInBounds j true) a' w' (fun d hd => ?_) (fun k ok hk hki huk hno => hfree k ok hk hki ?_ hno) (ready_mono hr (Ne.symm hji)) h3.1 hS' ?_⟩
      · rw [getD_set_ne true (fun h => hjD (by rw [h]; exact hd))]; exact hun d hd
      · by_cases hjk : j = k
        · subst hjk; exact hjun
        · rw [getD_set_ne true hjk] at huk; exact huk
      · rw [Array.setIfInBounds_comm _ _ hji]; exact h3.2.2

theorem heirsOK_un {listed : Array Bool} {i : Nat} {D : List Nat} (h : heirsOK md ops listed i z D = true) : z ∈ D ∧ (∀ d ∈ D, listed.getD d true = false) ∧ ∀ d ∈ D, d = i ∨ ∃ o, ops[d]? = some o ∧ ∃ e ∈ o.after, Region.binds md e = true ∧ e.on ∈ D := by
  unfold heirsOK at h
  simp only [Bool.and_eq_true, List.all_eq_true, List.contains_eq_mem, decide_eq_true_eq] at h
  refine ⟨h.1.1, fun d hd => by have := h.1.2 d hd; simpa using this, fun d hd => ?_⟩
  have h2 := h.2 d hd
  simp only [Bool.or_eq_true, beq_iff_eq] at h2
  rcases h2 with h2 | h2
  · exact .inl h2
  · right
    cases ho : ops[d]? with
    | none => rw [ho] at h2; cases h2
    | some o =>
      rw [ho] at h2
      refine ⟨o, rfl, ?_⟩
      obtain ⟨e, he, hb⟩ := Array.any_eq_true'.1 h2
      simp only [Bool.and_eq_true, decide_eq_true_eq] at hb
      exact ⟨e, he, hb.1, hb.2⟩

/-- Number i is taken first. -/
theorem WalkU.take {i : Nat} {oi : Oper} {v : Value} {l rest : List Oper} {f : Nat} {listed : Array Bool} {a : Act} {w : World} (hi : l.drop i = oi :: rest)
    (hs : Region.noSelect l.toArray = true) (hf : Region.free md l.toArray listed i = true) (hr : (Region.ready md l.toArray listed).contains i = true)
    (hD : heirsOK md l.toArray listed i z (heirs md l.toArray i) = true)
    (hQ : ∀ c a w, Q (.panic c) (a.put oi.dst v) w → Q (.panic c) a w) (hy : YieldsIf P l.toArray S oi v a) (hS : S w)
    (h : WalkU P md l.toArray Q S z f (listed.setIfInBounds i true) (a.put oi.dst v) w) : WalkU P md l.toArray Q S z (f + 1) listed a w := by
  have hi' : l.toArray[i]? = some oi := by
    have := congrArg (·[0]?) hi
    simpa using this
  obtain ⟨h1, h2, h3⟩ := heirsOK_un hD
  exact WalkU.first hi' (Region.noSelect_spec hs) hQ h1 h3 f listed a w h2 (Region.free_spec hi' hf) (by simpa using hr) hy hS h

/-- The same, what the machine looks up left to itself. -/
theorem WalkU.tk (i : Nat) {oi : Oper} {l rest : List Oper} {f : Nat} {listed : Array Bool} {a : Act} {w : World} (hi : l.drop i = oi :: rest) (v : Value)
    (hy : YieldsIf P l.toArray S oi v a) (hS : S w) (h : WalkU P md l.toArray Q S z f (listed.setIfInBounds i true) (a.put oi.dst v) w)
    (hs : Region.noSelect l.toArray = true := by kernel_rfl) (hf : Region.free md l.toArray listed i = true := by kernel_rfl) (hr : (Region.ready md l.toArray listed).contains i = true := by kernel_rfl)
    (hD : heirsOK md l.toArray listed i z (heirs md l.toArray i) = true := by kernel_rfl)
    (hQ : ∀ c a w, Q (.panic c) (a.put oi.dst v) w → Q (.panic c) a w := by exact fun _ _ _ h => h) : WalkU P md l.toArray Q S z (f + 1) listed a w :=
  WalkU.take hi hs hf hr hD hQ hy hS h

/-- Number i alone may come up. -/
theorem WalkU.one {i : Nat} {o : Oper} {l rest : List Oper} {f : Nat} {listed : Array Bool} {a : Act} {w : World} (hi : l.drop i = o :: rest)
    (hr : Region.ready md l.toArray listed = [i])
    (h : ∀ K' : Act → World → Prop, Shut (∀ a w, S w → (S w → WalkU P md l.toArray Q S z f (listed.setIfInBounds i true) a w) → K' a w) →
      if Region.wanted o (yielded l.toArray a.tmps) = true then Oper.wp P o a w K' Q else K' (a.put o.dst undef) w) : WalkU P md l.toArray Q S z (f + 1) listed a w := by
  have hi' : l.toArray[i]? = some o := by
    have := congrArg (·[0]?) hi
    simpa using this
  refine ⟨fun h0 => absurd (hr ▸ h0) (by simp), fun j hj => ?_⟩
  rw [hr] at hj
  obtain rfl : j = i := by simpa using hj
  exact wpOp_step hi' fun K' hK => h K' fun a w hS hW => hK a w ⟨.inr hS, hW hS⟩

/-- The last one comes up. -/
theorem WalkU.last {i : Nat} {o : Oper} {l rest : List Oper} {f : Nat} {listed : Array Bool} {a : Act} {w : World} (hi : l.drop i = o :: rest) (hz : i = z)
    (hr : Region.ready md l.toArray listed = [i]) (hr2 : Region.ready md l.toArray (listed.setIfInBounds i true) = [])
    (h : ∀ K' : Act → World → Prop, Shut (∀ a w, Q .normal a w → K' a w) →
      if Region.wanted o (yielded l.toArray a.tmps) = true then Oper.wp P o a w K' Q else K' (a.put o.dst undef) w) : WalkU P md l.toArray Q S z (f + 1) listed a w := by
  have hi' : l.toArray[i]? = some o := by
    have := congrArg (·[0]?) hi
    simpa using this
  refine ⟨fun h0 => absurd (hr ▸ h0) (by simp), fun j hj => ?_⟩
  rw [hr] at hj
  obtain rfl : j = i := by simpa using hj
  refine wpOp_step hi' fun K' hK => h K' fun a w hq => hK a w ⟨.inl hz, ?_⟩
  cases f with
  | zero => exact ⟨hr2, hq⟩
  | succ f => exact ⟨fun _ => hq, by rw [hr2]; simp⟩

/-- The beginning. -/
theorem wp_region_u (z n : Nat) (S : World → Prop) {id : Nat} {l : List Oper} {a : Act} {w : World} (hm : P.follows .mixedOrders = true) (hn : l.length = n) (hS : S w.drew)
    (h : S w.drew → WalkU P .any l.toArray Q S z n (Array.replicate n false) a w.drew) : (Code.region id l.toArray true).wp P Q a w := by
  subst hn
  exact wp_region_any hm (by simpa using WalkU.any _ _ _ _ (h hS))

end
end Go.Proofs.YthdonnkekggbbaaGreatDoor

/- The reference's draws of texts, turned a little. Conditions: sizes. -/
namespace Go.Proofs.YthdonnkekggbbaaGreatDoor
open Go.RowKit
set_option linter.unusedVariables false
set_option linter.unusedSimpArgs false
set_option maxRecDepth 100000

theorem size_of (l : List UInt8) : (⟨l.toArray⟩ : ByteArray).size = l.length := by simp [ByteArray.size]

theorem l1Turned_any (g b : Nat) (p : Option Addr) (n c m c2 : Nat) (xs : List Int) (s : List UInt8) (ss : List (List UInt8)) (w : World) (hn : n ≤ 1048576) (hx : Cur w g p n c xs) (hm1 : 1 ≤ m) (hm2 : m ≤ 256)
    (hs : ∀ k, k < m → w.cell? ⟨b, k, none⟩ = some (.string ⟨(nthS ss k).toArray⟩)) (hss : ∀ k, k < m → (nthS ss k).length ≤ 5) (hl : s.length ≤ 1000) (hb : b ≠ g) :
    Calls Tryz.prog 47 #[.pointer (some ⟨g, 0, none⟩), .string ⟨s.toArray⟩, .slice (some ⟨b, 0, none⟩) m c2] w fun e w' => ∃ l : List UInt8, e = .returned (.string ⟨l.toArray⟩) ∧ l.length ≤ s.length + 5 ∧ Drawn1 w g p n c xs w' := by
  have hsz : (⟨s.toArray⟩ : ByteArray).size = s.length := by simp [ByteArray.size]
  go_enter Tryz.func47, Tryz.ntmps47
  go_wp2_with fail
  refine (l1Below_any _ _ _ _ _ _ _ hn hx (by omega) (by omega)).mono ?_
  rintro e w1 ⟨x, rfl, hx0, hx1, hD⟩
  obtain ⟨k, rfl⟩ : ∃ k : Nat, x = (k : Int) := ⟨x.toNat, by omega⟩
  have hk : k ≤ s.length := by omega
  go_wp2_with fail
  refine (l1Below_any _ _ _ _ _ _ _ hn hD.1 (by omega) (by omega)).mono ?_
  rintro e w2 ⟨y, rfl, hy0, hy1, hD2⟩
  have hD3 := hD.step hD2
  obtain ⟨S, hS⟩ : ∃ S : ByteArray, S = ⟨s.toArray⟩ := ⟨_, rfl⟩
  rw [← hS] at hsz ⊢
  have hkS : (k : Int) ≤ (S.size : Int) := by omega
  have hkS2 : k ≤ S.size := by omega
  have HS := Lib.hid hS
  clear hS
  have hx1' : (S.extract 0 k).size ≤ k := by rw [ByteArray.size_extract]; omega
  have hx2' : (S.extract k s.length).size ≤ s.length - k := by rw [ByteArray.size_extract]; omega
  have back : ∀ B : ByteArray, B.size ≤ s.length + 5 → ∃ l : List UInt8, Ending.returned (.string B) = .returned (.string ⟨l.toArray⟩) ∧ l.length ≤ s.length + 5 := fun B h => ⟨B.data.toList, by rw [mk_eta], by rw [Array.length_toList]; exact h⟩
  have Back := Lib.hid back
  have HX := Lib.hid (And.intro hx1' hx2')
  clear back hx1' hx2'
  by_cases e0 : y = 0
  · subst e0
    have hz : (0 : Int) ≤ (k : Int) := by omega
    have hcd := hD3.1.below (drewBelow w2)
    have hsd : ∀ k, k < m → w2.drew.cell? ⟨b, k, none⟩ = some (.string ⟨(nthS ss k).toArray⟩) := fun k hk => by
      have h := hs k hk
      exact (World.cell?_of_block (hD3.2.block b (World.block_lt_of_cell? w _ h) (by omega))).trans h
    have PK := Lib.hid (l1Pick_any g b p n c m c2 xs ss w2.drew hn hcd hm1 hm2 hsd hb)
    have HSS := Lib.hid hss
    clear hcd hsd hs hss
    go_wp2_with fail
    refine wp_region_u 11 12 (fun _ => True) (by kernel_rfl) rfl (by (try dsimp only); all_goals trivial) (fun hHeld => ?_)
    first
      | (refine WalkU.take (i := 0) (v := ?_) rfl (by kernel_rfl) (by kernel_rfl) (by kernel_rfl) (by kernel_rfl) (fun _ _ _ h => h) (Or.inl ⟨by rfl, ?_⟩) hHeld ?_
         rotate_left
         · (intro w hSw; (try dsimp only at hSw); go_simp; try with_reducible rfl)
         try simp only [Act.put, List.setIfInBounds_toArray, List.set_cons_zero, List.set_cons_succ])
      | (refine WalkU.take (i := 0) (v := undef) rfl (by kernel_rfl) (by kernel_rfl) (by kernel_rfl) (by kernel_rfl) (fun _ _ _ h => h) (Or.inr ⟨by rfl, rfl⟩) hHeld ?_
         try simp only [Act.put, List.setIfInBounds_toArray, List.set_cons_zero, List.set_cons_succ])
      | (refine WalkU.one (i := 0) rfl (by kernel_rfl) (fun K hK => ?_)
         first
           | (first | (go_simp; go_at_call 80; (with_reducible refine PK.out.mono ?_); rintro e w5 ⟨j, hj, rfl, hD5⟩; have ht := HSS.out j hj; have a1 : ∀ W, (Op.stringOp .add (S.extract 0 k) ⟨(nthS ss j).toArray⟩).run Tryz.prog W = .ok (.string (S.extract 0 k ++ ⟨(nthS ss j).toArray⟩)) W := fun W => run_string_add_sum (w := W) _ _ (by have h1 := HX.out.1; have h3 := size_of (nthS ss j); omega); have a2 : ∀ W, (Op.stringOp .add (S.extract 0 k ++ ⟨(nthS ss j).toArray⟩) (S.extract k s.length)).run Tryz.prog W = .ok (.string (S.extract 0 k ++ ⟨(nthS ss j).toArray⟩ ++ S.extract k s.length)) W := fun W => run_string_add_sum (w := W) _ _ (by have h1 := HX.out.1; have h2 := HX.out.2; rw [ByteArray.size_append]; have h3 := size_of (nthS ss j); omega)))
           | (go_simp; (first | (go_simp; go_at_call 80; (with_reducible refine PK.out.mono ?_); rintro e w5 ⟨j, hj, rfl, hD5⟩; have ht := HSS.out j hj; have a1 : ∀ W, (Op.stringOp .add (S.extract 0 k) ⟨(nthS ss j).toArray⟩).run Tryz.prog W = .ok (.string (S.extract 0 k ++ ⟨(nthS ss j).toArray⟩)) W := fun W => run_string_add_sum (w := W) _ _ (by have h1 := HX.out.1; have h3 := size_of (nthS ss j); omega); have a2 : ∀ W, (Op.stringOp .add (S.extract 0 k ++ ⟨(nthS ss j).toArray⟩) (S.extract k s.length)).run Tryz.prog W = .ok (.string (S.extract 0 k ++ ⟨(nthS ss j).toArray⟩ ++ S.extract k s.length)) W := fun W => run_string_add_sum (w := W) _ _ (by have h1 := HX.out.1; have h2 := HX.out.2; rw [ByteArray.size_append]; have h3 := size_of (nthS ss j); omega))))
           | go_simp
         refine hK.out _ _ ?_ (fun hHeld => ?_)
         · ((try dsimp only); all_goals trivial)
         clear hK K
         try simp only [Act.put, List.setIfInBounds_toArray, List.set_cons_zero, List.set_cons_succ])
    first
      | (refine WalkU.take (i := 1) (v := ?_) rfl (by kernel_rfl) (by kernel_rfl) (by kernel_rfl) (by kernel_rfl) (fun _ _ _ h => h) (Or.inl ⟨by rfl, ?_⟩) hHeld ?_
         rotate_left
         · (intro w hSw; (try dsimp only at hSw); go_simp; try with_reducible rfl)
         try simp only [Act.put, List.setIfInBounds_toArray, List.set_cons_zero, List.set_cons_succ])
      | (refine WalkU.take (i := 1) (v := undef) rfl (by kernel_rfl) (by kernel_rfl) (by kernel_rfl) (by kernel_rfl) (fun _ _ _ h => h) (Or.inr ⟨by rfl, rfl⟩) hHeld ?_
         try simp only [Act.put, List.setIfInBounds_toArray, List.set_cons_zero, List.set_cons_succ])
      | (refine WalkU.one (i := 1) rfl (by kernel_rfl) (fun K hK => ?_)
         first
           | (first | (go_simp; go_at_call 80; (with_reducible refine PK.out.mono ?_); rintro e w5 ⟨j, hj, rfl, hD5⟩; have ht := HSS.out j hj; have a1 : ∀ W, (Op.stringOp .add (S.extract 0 k) ⟨(nthS ss j).toArray⟩).run Tryz.prog W = .ok (.string (S.extract 0 k ++ ⟨(nthS ss j).toArray⟩)) W := fun W => run_string_add_sum (w := W) _ _ (by have h1 := HX.out.1; have h3 := size_of (nthS ss j); omega); have a2 : ∀ W, (Op.stringOp .add (S.extract 0 k ++ ⟨(nthS ss j).toArray⟩) (S.extract k s.length)).run Tryz.prog W = .ok (.string (S.extract 0 k ++ ⟨(nthS ss j).toArray⟩ ++ S.extract k s.length)) W := fun W => run_string_add_sum (w := W) _ _ (by have h1 := HX.out.1; have h2 := HX.out.2; rw [ByteArray.size_append]; have h3 := size_of (nthS ss j); omega)))
           | (go_simp; (first | (go_simp; go_at_call 80; (with_reducible refine PK.out.mono ?_); rintro e w5 ⟨j, hj, rfl, hD5⟩; have ht := HSS.out j hj; have a1 : ∀ W, (Op.stringOp .add (S.extract 0 k) ⟨(nthS ss j).toArray⟩).run Tryz.prog W = .ok (.string (S.extract 0 k ++ ⟨(nthS ss j).toArray⟩)) W := fun W => run_string_add_sum (w := W) _ _ (by have h1 := HX.out.1; have h3 := size_of (nthS ss j); omega); have a2 : ∀ W, (Op.stringOp .add (S.extract 0 k ++ ⟨(nthS ss j).toArray⟩) (S.extract k s.length)).run Tryz.prog W = .ok (.string (S.extract 0 k ++ ⟨(nthS ss j).toArray⟩ ++ S.extract k s.length)) W := fun W => run_string_add_sum (w := W) _ _ (by have h1 := HX.out.1; have h2 := HX.out.2; rw [ByteArray.size_append]; have h3 := size_of (nthS ss j); omega))))
           | go_simp
         refine hK.out _ _ ?_ (fun hHeld => ?_)
         · ((try dsimp only); all_goals trivial)
         clear hK K
         try simp only [Act.put, List.setIfInBounds_toArray, List.set_cons_zero, List.set_cons_succ])
    first
      | (refine WalkU.take (i := 2) (v := ?_) rfl (by kernel_rfl) (by kernel_rfl) (by kernel_rfl) (by kernel_rfl) (fun _ _ _ h => h) (Or.inl ⟨by rfl, ?_⟩) hHeld ?_
         rotate_left
         · (intro w hSw; (try dsimp only at hSw); go_simp; try with_reducible rfl)
         try simp only [Act.put, List.setIfInBounds_toArray, List.set_cons_zero, List.set_cons_succ])
      | (refine WalkU.take (i := 2) (v := undef) rfl (by kernel_rfl) (by kernel_rfl) (by kernel_rfl) (by kernel_rfl) (fun _ _ _ h => h) (Or.inr ⟨by rfl, rfl⟩) hHeld ?_
         try simp only [Act.put, List.setIfInBounds_toArray, List.set_cons_zero, List.set_cons_succ])
      | (refine WalkU.one (i := 2) rfl (by kernel_rfl) (fun K hK => ?_)
         first
           | (first | (go_simp; go_at_call 80; (with_reducible refine PK.out.mono ?_); rintro e w5 ⟨j, hj, rfl, hD5⟩; have ht := HSS.out j hj; have a1 : ∀ W, (Op.stringOp .add (S.extract 0 k) ⟨(nthS ss j).toArray⟩).run Tryz.prog W = .ok (.string (S.extract 0 k ++ ⟨(nthS ss j).toArray⟩)) W := fun W => run_string_add_sum (w := W) _ _ (by have h1 := HX.out.1; have h3 := size_of (nthS ss j); omega); have a2 : ∀ W, (Op.stringOp .add (S.extract 0 k ++ ⟨(nthS ss j).toArray⟩) (S.extract k s.length)).run Tryz.prog W = .ok (.string (S.extract 0 k ++ ⟨(nthS ss j).toArray⟩ ++ S.extract k s.length)) W := fun W => run_string_add_sum (w := W) _ _ (by have h1 := HX.out.1; have h2 := HX.out.2; rw [ByteArray.size_append]; have h3 := size_of (nthS ss j); omega)))
           | (go_simp; (first | (go_simp; go_at_call 80; (with_reducible refine PK.out.mono ?_); rintro e w5 ⟨j, hj, rfl, hD5⟩; have ht := HSS.out j hj; have a1 : ∀ W, (Op.stringOp .add (S.extract 0 k) ⟨(nthS ss j).toArray⟩).run Tryz.prog W = .ok (.string (S.extract 0 k ++ ⟨(nthS ss j).toArray⟩)) W := fun W => run_string_add_sum (w := W) _ _ (by have h1 := HX.out.1; have h3 := size_of (nthS ss j); omega); have a2 : ∀ W, (Op.stringOp .add (S.extract 0 k ++ ⟨(nthS ss j).toArray⟩) (S.extract k s.length)).run Tryz.prog W = .ok (.string (S.extract 0 k ++ ⟨(nthS ss j).toArray⟩ ++ S.extract k s.length)) W := fun W => run_string_add_sum (w := W) _ _ (by have h1 := HX.out.1; have h2 := HX.out.2; rw [ByteArray.size_append]; have h3 := size_of (nthS ss j); omega))))
           | go_simp
         refine hK.out _ _ ?_ (fun hHeld => ?_)
         · ((try dsimp only); all_goals trivial)
         clear hK K
         try simp only [Act.put, List.setIfInBounds_toArray, List.set_cons_zero, List.set_cons_succ])
    first
      | (refine WalkU.take (i := 3) (v := ?_) rfl (by kernel_rfl) (by kernel_rfl) (by kernel_rfl) (by kernel_rfl) (fun _ _ _ h => h) (Or.inl ⟨by rfl, ?_⟩) hHeld ?_
         rotate_left
         · (intro w hSw; (try dsimp only at hSw); go_simp; try with_reducible rfl)
         try simp only [Act.put, List.setIfInBounds_toArray, List.set_cons_zero, List.set_cons_succ])
      | (refine WalkU.take (i := 3) (v := undef) rfl (by kernel_rfl) (by kernel_rfl) (by kernel_rfl) (by kernel_rfl) (fun _ _ _ h => h) (Or.inr ⟨by rfl, rfl⟩) hHeld ?_
         try simp only [Act.put, List.setIfInBounds_toArray, List.set_cons_zero, List.set_cons_succ])
      | (refine WalkU.one (i := 3) rfl (by kernel_rfl) (fun K hK => ?_)
         first
           | (first | (go_simp; go_at_call 80; (with_reducible refine PK.out.mono ?_); rintro e w5 ⟨j, hj, rfl, hD5⟩; have ht := HSS.out j hj; have a1 : ∀ W, (Op.stringOp .add (S.extract 0 k) ⟨(nthS ss j).toArray⟩).run Tryz.prog W = .ok (.string (S.extract 0 k ++ ⟨(nthS ss j).toArray⟩)) W := fun W => run_string_add_sum (w := W) _ _ (by have h1 := HX.out.1; have h3 := size_of (nthS ss j); omega); have a2 : ∀ W, (Op.stringOp .add (S.extract 0 k ++ ⟨(nthS ss j).toArray⟩) (S.extract k s.length)).run Tryz.prog W = .ok (.string (S.extract 0 k ++ ⟨(nthS ss j).toArray⟩ ++ S.extract k s.length)) W := fun W => run_string_add_sum (w := W) _ _ (by have h1 := HX.out.1; have h2 := HX.out.2; rw [ByteArray.size_append]; have h3 := size_of (nthS ss j); omega)))
           | (go_simp; (first | (go_simp; go_at_call 80; (with_reducible refine PK.out.mono ?_); rintro e w5 ⟨j, hj, rfl, hD5⟩; have ht := HSS.out j hj; have a1 : ∀ W, (Op.stringOp .add (S.extract 0 k) ⟨(nthS ss j).toArray⟩).run Tryz.prog W = .ok (.string (S.extract 0 k ++ ⟨(nthS ss j).toArray⟩)) W := fun W => run_string_add_sum (w := W) _ _ (by have h1 := HX.out.1; have h3 := size_of (nthS ss j); omega); have a2 : ∀ W, (Op.stringOp .add (S.extract 0 k ++ ⟨(nthS ss j).toArray⟩) (S.extract k s.length)).run Tryz.prog W = .ok (.string (S.extract 0 k ++ ⟨(nthS ss j).toArray⟩ ++ S.extract k s.length)) W := fun W => run_string_add_sum (w := W) _ _ (by have h1 := HX.out.1; have h2 := HX.out.2; rw [ByteArray.size_append]; have h3 := size_of (nthS ss j); omega))))
           | go_simp
         refine hK.out _ _ ?_ (fun hHeld => ?_)
         · ((try dsimp only); all_goals trivial)
         clear hK K
         try simp only [Act.put, List.setIfInBounds_toArray, List.set_cons_zero, List.set_cons_succ])
    first
      | (refine WalkU.take (i := 4) (v := ?_) rfl (by kernel_rfl) (by kernel_rfl) (by kernel_rfl) (by kernel_rfl) (fun _ _ _ h => h) (Or.inl ⟨by rfl, ?_⟩) hHeld ?_
         rotate_left
         · (intro w hSw; (try dsimp only at hSw); go_simp; try with_reducible rfl)
         try simp only [Act.put, List.setIfInBounds_toArray, List.set_cons_zero, List.set_cons_succ])
      | (refine WalkU.take (i := 4) (v := undef) rfl (by kernel_rfl) (by kernel_rfl) (by kernel_rfl) (by kernel_rfl) (fun _ _ _ h => h) (Or.inr ⟨by rfl, rfl⟩) hHeld ?_
         try simp only [Act.put, List.setIfInBounds_toArray, List.set_cons_zero, List.set_cons_succ])
      | (refine WalkU.one (i := 4) rfl (by kernel_rfl) (fun K hK => ?_)
         first
           | (first | (go_simp; go_at_call 80; (with_reducible refine PK.out.mono ?_); rintro e w5 ⟨j, hj, rfl, hD5⟩; have ht := HSS.out j hj; have a1 : ∀ W, (Op.stringOp .add (S.extract 0 k) ⟨(nthS ss j).toArray⟩).run Tryz.prog W = .ok (.string (S.extract 0 k ++ ⟨(nthS ss j).toArray⟩)) W := fun W => run_string_add_sum (w := W) _ _ (by have h1 := HX.out.1; have h3 := size_of (nthS ss j); omega); have a2 : ∀ W, (Op.stringOp .add (S.extract 0 k ++ ⟨(nthS ss j).toArray⟩) (S.extract k s.length)).run Tryz.prog W = .ok (.string (S.extract 0 k ++ ⟨(nthS ss j).toArray⟩ ++ S.extract k s.length)) W := fun W => run_string_add_sum (w := W) _ _ (by have h1 := HX.out.1; have h2 := HX.out.2; rw [ByteArray.size_append]; have h3 := size_of (nthS ss j); omega)))
           | (go_simp; (first | (go_simp; go_at_call 80; (with_reducible refine PK.out.mono ?_); rintro e w5 ⟨j, hj, rfl, hD5⟩; have ht := HSS.out j hj; have a1 : ∀ W, (Op.stringOp .add (S.extract 0 k) ⟨(nthS ss j).toArray⟩).run Tryz.prog W = .ok (.string (S.extract 0 k ++ ⟨(nthS ss j).toArray⟩)) W := fun W => run_string_add_sum (w := W) _ _ (by have h1 := HX.out.1; have h3 := size_of (nthS ss j); omega); have a2 : ∀ W, (Op.stringOp .add (S.extract 0 k ++ ⟨(nthS ss j).toArray⟩) (S.extract k s.length)).run Tryz.prog W = .ok (.string (S.extract 0 k ++ ⟨(nthS ss j).toArray⟩ ++ S.extract k s.length)) W := fun W => run_string_add_sum (w := W) _ _ (by have h1 := HX.out.1; have h2 := HX.out.2; rw [ByteArray.size_append]; have h3 := size_of (nthS ss j); omega))))
           | go_simp
         refine hK.out _ _ ?_ (fun hHeld => ?_)
         · ((try dsimp only); all_goals trivial)
         clear hK K
         try simp only [Act.put, List.setIfInBounds_toArray, List.set_cons_zero, List.set_cons_succ])
    first
      | (refine WalkU.take (i := 7) (v := ?_) rfl (by kernel_rfl) (by kernel_rfl) (by kernel_rfl) (by kernel_rfl) (fun _ _ _ h => h) (Or.inl ⟨by rfl, ?_⟩) hHeld ?_
         rotate_left
         · (intro w hSw; (try dsimp only at hSw); go_simp; try with_reducible rfl)
         try simp only [Act.put, List.setIfInBounds_toArray, List.set_cons_zero, List.set_cons_succ])
      | (refine WalkU.take (i := 7) (v := undef) rfl (by kernel_rfl) (by kernel_rfl) (by kernel_rfl) (by kernel_rfl) (fun _ _ _ h => h) (Or.inr ⟨by rfl, rfl⟩) hHeld ?_
         try simp only [Act.put, List.setIfInBounds_toArray, List.set_cons_zero, List.set_cons_succ])
      | (refine WalkU.one (i := 7) rfl (by kernel_rfl) (fun K hK => ?_)
         first
           | (first | (go_simp; go_at_call 80; (with_reducible refine PK.out.mono ?_); rintro e w5 ⟨j, hj, rfl, hD5⟩; have ht := HSS.out j hj; have a1 : ∀ W, (Op.stringOp .add (S.extract 0 k) ⟨(nthS ss j).toArray⟩).run Tryz.prog W = .ok (.string (S.extract 0 k ++ ⟨(nthS ss j).toArray⟩)) W := fun W => run_string_add_sum (w := W) _ _ (by have h1 := HX.out.1; have h3 := size_of (nthS ss j); omega); have a2 : ∀ W, (Op.stringOp .add (S.extract 0 k ++ ⟨(nthS ss j).toArray⟩) (S.extract k s.length)).run Tryz.prog W = .ok (.string (S.extract 0 k ++ ⟨(nthS ss j).toArray⟩ ++ S.extract k s.length)) W := fun W => run_string_add_sum (w := W) _ _ (by have h1 := HX.out.1; have h2 := HX.out.2; rw [ByteArray.size_append]; have h3 := size_of (nthS ss j); omega)))
           | (go_simp; (first | (go_simp; go_at_call 80; (with_reducible refine PK.out.mono ?_); rintro e w5 ⟨j, hj, rfl, hD5⟩; have ht := HSS.out j hj; have a1 : ∀ W, (Op.stringOp .add (S.extract 0 k) ⟨(nthS ss j).toArray⟩).run Tryz.prog W = .ok (.string (S.extract 0 k ++ ⟨(nthS ss j).toArray⟩)) W := fun W => run_string_add_sum (w := W) _ _ (by have h1 := HX.out.1; have h3 := size_of (nthS ss j); omega); have a2 : ∀ W, (Op.stringOp .add (S.extract 0 k ++ ⟨(nthS ss j).toArray⟩) (S.extract k s.length)).run Tryz.prog W = .ok (.string (S.extract 0 k ++ ⟨(nthS ss j).toArray⟩ ++ S.extract k s.length)) W := fun W => run_string_add_sum (w := W) _ _ (by have h1 := HX.out.1; have h2 := HX.out.2; rw [ByteArray.size_append]; have h3 := size_of (nthS ss j); omega))))
           | go_simp
         refine hK.out _ _ ?_ (fun hHeld => ?_)
         · ((try dsimp only); all_goals trivial)
         clear hK K
         try simp only [Act.put, List.setIfInBounds_toArray, List.set_cons_zero, List.set_cons_succ])
    first
      | (refine WalkU.take (i := 8) (v := ?_) rfl (by kernel_rfl) (by kernel_rfl) (by kernel_rfl) (by kernel_rfl) (fun _ _ _ h => h) (Or.inl ⟨by rfl, ?_⟩) hHeld ?_
         rotate_left
         · (intro w hSw; (try dsimp only at hSw); go_simp; try with_reducible rfl)
         try simp only [Act.put, List.setIfInBounds_toArray, List.set_cons_zero, List.set_cons_succ])
      | (refine WalkU.take (i := 8) (v := undef) rfl (by kernel_rfl) (by kernel_rfl) (by kernel_rfl) (by kernel_rfl) (fun _ _ _ h => h) (Or.inr ⟨by rfl, rfl⟩) hHeld ?_
         try simp only [Act.put, List.setIfInBounds_toArray, List.set_cons_zero, List.set_cons_succ])
      | (refine WalkU.one (i := 8) rfl (by kernel_rfl) (fun K hK => ?_)
         first
           | (first | (go_simp; go_at_call 80; (with_reducible refine PK.out.mono ?_); rintro e w5 ⟨j, hj, rfl, hD5⟩; have ht := HSS.out j hj; have a1 : ∀ W, (Op.stringOp .add (S.extract 0 k) ⟨(nthS ss j).toArray⟩).run Tryz.prog W = .ok (.string (S.extract 0 k ++ ⟨(nthS ss j).toArray⟩)) W := fun W => run_string_add_sum (w := W) _ _ (by have h1 := HX.out.1; have h3 := size_of (nthS ss j); omega); have a2 : ∀ W, (Op.stringOp .add (S.extract 0 k ++ ⟨(nthS ss j).toArray⟩) (S.extract k s.length)).run Tryz.prog W = .ok (.string (S.extract 0 k ++ ⟨(nthS ss j).toArray⟩ ++ S.extract k s.length)) W := fun W => run_string_add_sum (w := W) _ _ (by have h1 := HX.out.1; have h2 := HX.out.2; rw [ByteArray.size_append]; have h3 := size_of (nthS ss j); omega)))
           | (go_simp; (first | (go_simp; go_at_call 80; (with_reducible refine PK.out.mono ?_); rintro e w5 ⟨j, hj, rfl, hD5⟩; have ht := HSS.out j hj; have a1 : ∀ W, (Op.stringOp .add (S.extract 0 k) ⟨(nthS ss j).toArray⟩).run Tryz.prog W = .ok (.string (S.extract 0 k ++ ⟨(nthS ss j).toArray⟩)) W := fun W => run_string_add_sum (w := W) _ _ (by have h1 := HX.out.1; have h3 := size_of (nthS ss j); omega); have a2 : ∀ W, (Op.stringOp .add (S.extract 0 k ++ ⟨(nthS ss j).toArray⟩) (S.extract k s.length)).run Tryz.prog W = .ok (.string (S.extract 0 k ++ ⟨(nthS ss j).toArray⟩ ++ S.extract k s.length)) W := fun W => run_string_add_sum (w := W) _ _ (by have h1 := HX.out.1; have h2 := HX.out.2; rw [ByteArray.size_append]; have h3 := size_of (nthS ss j); omega))))
           | go_simp
         refine hK.out _ _ ?_ (fun hHeld => ?_)
         · ((try dsimp only); all_goals trivial)
         clear hK K
         try simp only [Act.put, List.setIfInBounds_toArray, List.set_cons_zero, List.set_cons_succ])
    first
      | (refine WalkU.take (i := 9) (v := ?_) rfl (by kernel_rfl) (by kernel_rfl) (by kernel_rfl) (by kernel_rfl) (fun _ _ _ h => h) (Or.inl ⟨by rfl, ?_⟩) hHeld ?_
         rotate_left
         · (intro w hSw; (try dsimp only at hSw); go_simp; try with_reducible rfl)
         try simp only [Act.put, List.setIfInBounds_toArray, List.set_cons_zero, List.set_cons_succ])
      | (refine WalkU.take (i := 9) (v := undef) rfl (by kernel_rfl) (by kernel_rfl) (by kernel_rfl) (by kernel_rfl) (fun _ _ _ h => h) (Or.inr ⟨by rfl, rfl⟩) hHeld ?_
         try simp only [Act.put, List.setIfInBounds_toArray, List.set_cons_zero, List.set_cons_succ])
      | (refine WalkU.one (i := 9) rfl (by kernel_rfl) (fun K hK => ?_)
         first
           | (first | (go_simp; go_at_call 80; (with_reducible refine PK.out.mono ?_); rintro e w5 ⟨j, hj, rfl, hD5⟩; have ht := HSS.out j hj; have a1 : ∀ W, (Op.stringOp .add (S.extract 0 k) ⟨(nthS ss j).toArray⟩).run Tryz.prog W = .ok (.string (S.extract 0 k ++ ⟨(nthS ss j).toArray⟩)) W := fun W => run_string_add_sum (w := W) _ _ (by have h1 := HX.out.1; have h3 := size_of (nthS ss j); omega); have a2 : ∀ W, (Op.stringOp .add (S.extract 0 k ++ ⟨(nthS ss j).toArray⟩) (S.extract k s.length)).run Tryz.prog W = .ok (.string (S.extract 0 k ++ ⟨(nthS ss j).toArray⟩ ++ S.extract k s.length)) W := fun W => run_string_add_sum (w := W) _ _ (by have h1 := HX.out.1; have h2 := HX.out.2; rw [ByteArray.size_append]; have h3 := size_of (nthS ss j); omega)))
           | (go_simp; (first | (go_simp; go_at_call 80; (with_reducible refine PK.out.mono ?_); rintro e w5 ⟨j, hj, rfl, hD5⟩; have ht := HSS.out j hj; have a1 : ∀ W, (Op.stringOp .add (S.extract 0 k) ⟨(nthS ss j).toArray⟩).run Tryz.prog W = .ok (.string (S.extract 0 k ++ ⟨(nthS ss j).toArray⟩)) W := fun W => run_string_add_sum (w := W) _ _ (by have h1 := HX.out.1; have h3 := size_of (nthS ss j); omega); have a2 : ∀ W, (Op.stringOp .add (S.extract 0 k ++ ⟨(nthS ss j).toArray⟩) (S.extract k s.length)).run Tryz.prog W = .ok (.string (S.extract 0 k ++ ⟨(nthS ss j).toArray⟩ ++ S.extract k s.length)) W := fun W => run_string_add_sum (w := W) _ _ (by have h1 := HX.out.1; have h2 := HX.out.2; rw [ByteArray.size_append]; have h3 := size_of (nthS ss j); omega))))
           | go_simp
         refine hK.out _ _ ?_ (fun hHeld => ?_)
         · ((try dsimp only); all_goals trivial)
         clear hK K
         try simp only [Act.put, List.setIfInBounds_toArray, List.set_cons_zero, List.set_cons_succ])
    first
      | (refine WalkU.take (i := 5) (v := ?_) rfl (by kernel_rfl) (by kernel_rfl) (by kernel_rfl) (by kernel_rfl) (fun _ _ _ h => h) (Or.inl ⟨by rfl, ?_⟩) hHeld ?_
         rotate_left
         · (intro w hSw; (try dsimp only at hSw); go_simp; try with_reducible rfl)
         try simp only [Act.put, List.setIfInBounds_toArray, List.set_cons_zero, List.set_cons_succ])
      | (refine WalkU.take (i := 5) (v := undef) rfl (by kernel_rfl) (by kernel_rfl) (by kernel_rfl) (by kernel_rfl) (fun _ _ _ h => h) (Or.inr ⟨by rfl, rfl⟩) hHeld ?_
         try simp only [Act.put, List.setIfInBounds_toArray, List.set_cons_zero, List.set_cons_succ])
      | (refine WalkU.one (i := 5) rfl (by kernel_rfl) (fun K hK => ?_)
         first
           | (first | (go_simp; go_at_call 80; (with_reducible refine PK.out.mono ?_); rintro e w5 ⟨j, hj, rfl, hD5⟩; have ht := HSS.out j hj; have a1 : ∀ W, (Op.stringOp .add (S.extract 0 k) ⟨(nthS ss j).toArray⟩).run Tryz.prog W = .ok (.string (S.extract 0 k ++ ⟨(nthS ss j).toArray⟩)) W := fun W => run_string_add_sum (w := W) _ _ (by have h1 := HX.out.1; have h3 := size_of (nthS ss j); omega); have a2 : ∀ W, (Op.stringOp .add (S.extract 0 k ++ ⟨(nthS ss j).toArray⟩) (S.extract k s.length)).run Tryz.prog W = .ok (.string (S.extract 0 k ++ ⟨(nthS ss j).toArray⟩ ++ S.extract k s.length)) W := fun W => run_string_add_sum (w := W) _ _ (by have h1 := HX.out.1; have h2 := HX.out.2; rw [ByteArray.size_append]; have h3 := size_of (nthS ss j); omega)))
           | (go_simp; (first | (go_simp; go_at_call 80; (with_reducible refine PK.out.mono ?_); rintro e w5 ⟨j, hj, rfl, hD5⟩; have ht := HSS.out j hj; have a1 : ∀ W, (Op.stringOp .add (S.extract 0 k) ⟨(nthS ss j).toArray⟩).run Tryz.prog W = .ok (.string (S.extract 0 k ++ ⟨(nthS ss j).toArray⟩)) W := fun W => run_string_add_sum (w := W) _ _ (by have h1 := HX.out.1; have h3 := size_of (nthS ss j); omega); have a2 : ∀ W, (Op.stringOp .add (S.extract 0 k ++ ⟨(nthS ss j).toArray⟩) (S.extract k s.length)).run Tryz.prog W = .ok (.string (S.extract 0 k ++ ⟨(nthS ss j).toArray⟩ ++ S.extract k s.length)) W := fun W => run_string_add_sum (w := W) _ _ (by have h1 := HX.out.1; have h2 := HX.out.2; rw [ByteArray.size_append]; have h3 := size_of (nthS ss j); omega))))
           | go_simp
         refine hK.out _ _ ?_ (fun hHeld => ?_)
         · ((try dsimp only); all_goals trivial)
         clear hK K
         try simp only [Act.put, List.setIfInBounds_toArray, List.set_cons_zero, List.set_cons_succ])
    first
      | (refine WalkU.take (i := 6) (v := ?_) rfl (by kernel_rfl) (by kernel_rfl) (by kernel_rfl) (by kernel_rfl) (fun _ _ _ h => h) (Or.inl ⟨by rfl, ?_⟩) hHeld ?_
         rotate_left
         · (intro w hSw; (try dsimp only at hSw); go_simp; try with_reducible rfl)
         try simp only [Act.put, List.setIfInBounds_toArray, List.set_cons_zero, List.set_cons_succ])
      | (refine WalkU.take (i := 6) (v := undef) rfl (by kernel_rfl) (by kernel_rfl) (by kernel_rfl) (by kernel_rfl) (fun _ _ _ h => h) (Or.inr ⟨by rfl, rfl⟩) hHeld ?_
         try simp only [Act.put, List.setIfInBounds_toArray, List.set_cons_zero, List.set_cons_succ])
      | (refine WalkU.one (i := 6) rfl (by kernel_rfl) (fun K hK => ?_)
         first
           | (first | (go_simp; go_at_call 80; (with_reducible refine PK.out.mono ?_); rintro e w5 ⟨j, hj, rfl, hD5⟩; have ht := HSS.out j hj; have a1 : ∀ W, (Op.stringOp .add (S.extract 0 k) ⟨(nthS ss j).toArray⟩).run Tryz.prog W = .ok (.string (S.extract 0 k ++ ⟨(nthS ss j).toArray⟩)) W := fun W => run_string_add_sum (w := W) _ _ (by have h1 := HX.out.1; have h3 := size_of (nthS ss j); omega); have a2 : ∀ W, (Op.stringOp .add (S.extract 0 k ++ ⟨(nthS ss j).toArray⟩) (S.extract k s.length)).run Tryz.prog W = .ok (.string (S.extract 0 k ++ ⟨(nthS ss j).toArray⟩ ++ S.extract k s.length)) W := fun W => run_string_add_sum (w := W) _ _ (by have h1 := HX.out.1; have h2 := HX.out.2; rw [ByteArray.size_append]; have h3 := size_of (nthS ss j); omega)))
           | (go_simp; (first | (go_simp; go_at_call 80; (with_reducible refine PK.out.mono ?_); rintro e w5 ⟨j, hj, rfl, hD5⟩; have ht := HSS.out j hj; have a1 : ∀ W, (Op.stringOp .add (S.extract 0 k) ⟨(nthS ss j).toArray⟩).run Tryz.prog W = .ok (.string (S.extract 0 k ++ ⟨(nthS ss j).toArray⟩)) W := fun W => run_string_add_sum (w := W) _ _ (by have h1 := HX.out.1; have h3 := size_of (nthS ss j); omega); have a2 : ∀ W, (Op.stringOp .add (S.extract 0 k ++ ⟨(nthS ss j).toArray⟩) (S.extract k s.length)).run Tryz.prog W = .ok (.string (S.extract 0 k ++ ⟨(nthS ss j).toArray⟩ ++ S.extract k s.length)) W := fun W => run_string_add_sum (w := W) _ _ (by have h1 := HX.out.1; have h2 := HX.out.2; rw [ByteArray.size_append]; have h3 := size_of (nthS ss j); omega))))
           | go_simp
         refine hK.out _ _ ?_ (fun hHeld => ?_)
         · ((try dsimp only); all_goals trivial)
         clear hK K
         try simp only [Act.put, List.setIfInBounds_toArray, List.set_cons_zero, List.set_cons_succ])
    first
      | (refine WalkU.take (i := 10) (v := ?_) rfl (by kernel_rfl) (by kernel_rfl) (by kernel_rfl) (by kernel_rfl) (fun _ _ _ h => h) (Or.inl ⟨by rfl, ?_⟩) hHeld ?_
         rotate_left
         · (intro w hSw; (try dsimp only at hSw); go_simp; try with_reducible rfl)
         try simp only [Act.put, List.setIfInBounds_toArray, List.set_cons_zero, List.set_cons_succ])
      | (refine WalkU.take (i := 10) (v := undef) rfl (by kernel_rfl) (by kernel_rfl) (by kernel_rfl) (by kernel_rfl) (fun _ _ _ h => h) (Or.inr ⟨by rfl, rfl⟩) hHeld ?_
         try simp only [Act.put, List.setIfInBounds_toArray, List.set_cons_zero, List.set_cons_succ])
      | (refine WalkU.one (i := 10) rfl (by kernel_rfl) (fun K hK => ?_)
         first
           | (first | (go_simp; go_at_call 80; (with_reducible refine PK.out.mono ?_); rintro e w5 ⟨j, hj, rfl, hD5⟩; have ht := HSS.out j hj; have a1 : ∀ W, (Op.stringOp .add (S.extract 0 k) ⟨(nthS ss j).toArray⟩).run Tryz.prog W = .ok (.string (S.extract 0 k ++ ⟨(nthS ss j).toArray⟩)) W := fun W => run_string_add_sum (w := W) _ _ (by have h1 := HX.out.1; have h3 := size_of (nthS ss j); omega); have a2 : ∀ W, (Op.stringOp .add (S.extract 0 k ++ ⟨(nthS ss j).toArray⟩) (S.extract k s.length)).run Tryz.prog W = .ok (.string (S.extract 0 k ++ ⟨(nthS ss j).toArray⟩ ++ S.extract k s.length)) W := fun W => run_string_add_sum (w := W) _ _ (by have h1 := HX.out.1; have h2 := HX.out.2; rw [ByteArray.size_append]; have h3 := size_of (nthS ss j); omega)))
           | (go_simp; (first | (go_simp; go_at_call 80; (with_reducible refine PK.out.mono ?_); rintro e w5 ⟨j, hj, rfl, hD5⟩; have ht := HSS.out j hj; have a1 : ∀ W, (Op.stringOp .add (S.extract 0 k) ⟨(nthS ss j).toArray⟩).run Tryz.prog W = .ok (.string (S.extract 0 k ++ ⟨(nthS ss j).toArray⟩)) W := fun W => run_string_add_sum (w := W) _ _ (by have h1 := HX.out.1; have h3 := size_of (nthS ss j); omega); have a2 : ∀ W, (Op.stringOp .add (S.extract 0 k ++ ⟨(nthS ss j).toArray⟩) (S.extract k s.length)).run Tryz.prog W = .ok (.string (S.extract 0 k ++ ⟨(nthS ss j).toArray⟩ ++ S.extract k s.length)) W := fun W => run_string_add_sum (w := W) _ _ (by have h1 := HX.out.1; have h2 := HX.out.2; rw [ByteArray.size_append]; have h3 := size_of (nthS ss j); omega))))
           | go_simp
         refine hK.out _ _ ?_ (fun hHeld => ?_)
         · ((try dsimp only); all_goals trivial)
         clear hK K
         try simp only [Act.put, List.setIfInBounds_toArray, List.set_cons_zero, List.set_cons_succ])
    first
      | (refine WalkU.last (i := 11) rfl rfl (by kernel_rfl) (by kernel_rfl) (fun K hK => ?_)
         first
           | (first | (go_simp; go_at_call 80; (with_reducible refine PK.out.mono ?_); rintro e w5 ⟨j, hj, rfl, hD5⟩; have ht := HSS.out j hj; have a1 : ∀ W, (Op.stringOp .add (S.extract 0 k) ⟨(nthS ss j).toArray⟩).run Tryz.prog W = .ok (.string (S.extract 0 k ++ ⟨(nthS ss j).toArray⟩)) W := fun W => run_string_add_sum (w := W) _ _ (by have h1 := HX.out.1; have h3 := size_of (nthS ss j); omega); have a2 : ∀ W, (Op.stringOp .add (S.extract 0 k ++ ⟨(nthS ss j).toArray⟩) (S.extract k s.length)).run Tryz.prog W = .ok (.string (S.extract 0 k ++ ⟨(nthS ss j).toArray⟩ ++ S.extract k s.length)) W := fun W => run_string_add_sum (w := W) _ _ (by have h1 := HX.out.1; have h2 := HX.out.2; rw [ByteArray.size_append]; have h3 := size_of (nthS ss j); omega)))
           | (go_simp; (first | (go_simp; go_at_call 80; (with_reducible refine PK.out.mono ?_); rintro e w5 ⟨j, hj, rfl, hD5⟩; have ht := HSS.out j hj; have a1 : ∀ W, (Op.stringOp .add (S.extract 0 k) ⟨(nthS ss j).toArray⟩).run Tryz.prog W = .ok (.string (S.extract 0 k ++ ⟨(nthS ss j).toArray⟩)) W := fun W => run_string_add_sum (w := W) _ _ (by have h1 := HX.out.1; have h3 := size_of (nthS ss j); omega); have a2 : ∀ W, (Op.stringOp .add (S.extract 0 k ++ ⟨(nthS ss j).toArray⟩) (S.extract k s.length)).run Tryz.prog W = .ok (.string (S.extract 0 k ++ ⟨(nthS ss j).toArray⟩ ++ S.extract k s.length)) W := fun W => run_string_add_sum (w := W) _ _ (by have h1 := HX.out.1; have h2 := HX.out.2; rw [ByteArray.size_append]; have h3 := size_of (nthS ss j); omega))))
           | go_simp
         refine hK.out _ _ ?_
         clear hK K
         try simp only [Act.put, List.setIfInBounds_toArray, List.set_cons_zero, List.set_cons_succ])
    go_wp2_with fail
    go_ret
    obtain ⟨l, h1, h2⟩ := Back.out (S.extract 0 k ++ ⟨(nthS ss j).toArray⟩ ++ S.extract k s.length) (by
      have h1 := HX.out.1
      have h2 := HX.out.2
      have h3 := size_of (nthS ss j)
      rw [ByteArray.size_append, ByteArray.size_append]
      omega)
    refine ⟨l, h1, h2, hD5.1, hD3.2.trans ?_⟩
    exact ⟨hD5.2.os, hD5.2.tape, hD5.2.output, hD5.2.size, hD5.2.block⟩
  · have hy2 : (y == 0) = false := by simpa using e0
    by_cases e1 : y = 1
    · subst e1
      have hz : (0 : Int) ≤ (k : Int) := by omega
      go_wp2_with fail
      go_ret
      obtain ⟨l, h1, h2⟩ := Back.out (S.extract 0 k) (by have := HX.out.1; omega)
      exact ⟨l, h1, h2, hD3⟩
    · have hy3 : (y == 1) = false := by simpa using e1
      go_wp2_with fail
      go_ret
      obtain ⟨l, h1, h2⟩ := Back.out S (by omega)
      exact ⟨l, h1, h2, hD3⟩

def turnTexts : List (List UInt8) := [[44], [45], [49], [48]]
end Go.Proofs.YthdonnkekggbbaaGreatDoor

/- Contracts of both IsMatrix. Conditions: sizes. -/
namespace Go.Proofs.YthdonnkekggbbaaGreatDoor
open Go.RowKit
set_option linter.unusedVariables false
set_option linter.unusedSimpArgs false
set_option maxRecDepth 100000

/-- A row of a matrix with n columns. -/
def rowOk (n : Nat) (r : List Int) : Bool := decide (r.length = n) && allR r (-100) 100
def rowsOk (n : Nat) (xss : List (List Int)) : Bool := xss.all (rowOk n)
def isMat (xss : List (List Int)) : Bool := inR xss.length 1 3 && rowsOk xss.length xss

theorem rowsOk_step {n : Nat} {xss : List (List Int)} {k : Nat} (h : k < xss.length) (ha : rowsOk n (xss.take k) = true) (hr : rowOk n (nthR xss k) = true) : rowsOk n (xss.take (k + 1)) = true := by
  rw [take_nthR h]; simp_all [rowsOk]
theorem rowsOk_stop {n : Nat} {xss : List (List Int)} {k : Nat} (h : k < xss.length) (hr : rowOk n (nthR xss k) = false) : rowsOk n xss = false := by
  rw [nthR_eq h] at hr
  simp only [rowsOk, List.all_eq_false]
  exact ⟨xss[k], List.getElem_mem h, by simp [hr]⟩
theorem rowOk_yes {n : Nat} {r : List Int} (h1 : r.length = n) (h2 : allR r (-100) 100 = true) : rowOk n r = true := by simp [rowOk, h1, h2]
theorem rowOk_len {n : Nat} {r : List Int} (h1 : ¬ r.length = n) : rowOk n r = false := by simp [rowOk, h1]
theorem rowOk_no {n : Nat} {r : List Int} (h2 : allR r (-100) 100 = false) : rowOk n r = false := by simp [rowOk, h2]

end Go.Proofs.YthdonnkekggbbaaGreatDoor

/- append of a row to a slice of slices of numbers of the call's own. Conditions: sizes. -/
namespace Go.Proofs.YthdonnkekggbbaaGreatDoor
open Go.RowKit
set_option linter.unusedVariables false
set_option linter.unusedSimpArgs false
set_option maxRecDepth 100000

theorem Grow.within {W W' : World} {p p' : Option Addr} (h : Grow W W' p p') {lo : Nat} (h2 : ∀ a, p = some a → lo ≤ a.block) : Within lo W.heap.size W W' :=
  ⟨h.by_.os, h.by_.tape, h.by_.output, h.by_.size, fun k hk hd => h.by_.block k hk fun e => by
    cases p with
    | none => cases e
    | some a =>
      simp only [blk, Option.map_some, Option.some.injEq] at e
      have := h2 a rfl
      omega⟩

theorem wp_append_row {o : Oper} {a : Act} {K : Act → World → Prop} {Q : Exit → Act → World → Prop} (s x : Operand)
    (ho : o.op = .call { callee := .builtin .append, args := #[s, x], argTypes := #[24, 24] }) (W : World) (lo hi : Nat) (p : Option Addr) (n c : Nat) (vs : List Value)
    (hs : a.eval s = .slice p n c) (hown : OwnV W 29 1 lo hi p n c vs) (g : Nat) (q : Option Addr) (m d : Nat) (hx : a.eval x = .slice (some ⟨g, 0, none⟩) 1 1) (hc : W.cell? ⟨g, 0, none⟩ = some (.slice q m d))
    (hn : n ≤ 5864062010000) (hlo : lo ≤ W.heap.size)
    (h : ∀ p' c' W', OwnV W' 29 1 lo W'.heap.size p' (n + 1) c' (vs ++ [.slice q m d]) → Grow W W' p p' → K (a.put o.dst (.slice p' (n + 1) c')) W') :
    o.wp Tryz.prog a W K Q :=
  wp_appendV 29 24 1 24 (.slice none 0 0) Tryz.underlying24 Tryz.infoInts rfl (by decide) s x ho W lo hi p n c _ hs hown _ 1 1 [.slice q m d] hx rfl
    (fun _ => ⟨_, rfl, fun j v hv => by match j, hv with | 0, hv => simp at hv; subst hv; simpa [Addr.add] using hc⟩) (fun v hv => by simp at hv; subst hv; rfl) (by omega) (by unfold maxLen; omega) hlo
    fun p' c' W' h2 h3 => h p' c' W' h2 h3

theorem append_row {ops : Array Oper} {rest : List Oper} {o : Oper} {a : Act} {Q : Exit → Act → World → Prop} (hgd : o.guard = none) (s x : Operand)
    (ho : o.op = .call { callee := .builtin .append, args := #[s, x], argTypes := #[24, 24] }) (W : World) (lo hi : Nat) (p : Option Addr) (n c : Nat) (vs : List Value)
    (hs : a.eval s = .slice p n c) (hown : OwnV W 29 1 lo hi p n c vs) (g : Nat) (q : Option Addr) (m d : Nat) (hx : a.eval x = .slice (some ⟨g, 0, none⟩) 1 1) (hc : W.cell? ⟨g, 0, none⟩ = some (.slice q m d))
    (hn : n ≤ 5864062010000) (hlo : lo ≤ W.heap.size)
    (h : ∀ p' c' W', OwnV W' 29 1 lo W'.heap.size p' (n + 1) c' (vs ++ [.slice q m d]) → Grow W W' p p' → wpList Tryz.prog ops Q rest (a.put o.dst (.slice p' (n + 1) c')) W') :
    wpList Tryz.prog ops Q (o :: rest) a W :=
  wpList_plain hgd fun _ hK => wp_append_row s x ho W lo hi p n c vs hs hown g q m d hx hc hn hlo fun p' c' W' h2 h3 => hK _ _ (h p' c' W' h2 h3)

theorem step_append_row {ops : Array Oper} {o : Oper} {a : Act} {K : Act → World → Prop} {E : Prop} {Q : Exit → Act → World → Prop} (hgd : o.guard = none) (s x : Operand)
    (ho : o.op = .call { callee := .builtin .append, args := #[s, x], argTypes := #[24, 24] }) (W : World) (lo hi : Nat) (p : Option Addr) (n c : Nat) (vs : List Value)
    (hs : a.eval s = .slice p n c) (hown : OwnV W 29 1 lo hi p n c vs) (g : Nat) (q : Option Addr) (m d : Nat) (hx : a.eval x = .slice (some ⟨g, 0, none⟩) 1 1) (hc : W.cell? ⟨g, 0, none⟩ = some (.slice q m d))
    (hn : n ≤ 5864062010000) (hlo : lo ≤ W.heap.size)
    (h : ∀ p' c' W', OwnV W' 29 1 lo W'.heap.size p' (n + 1) c' (vs ++ [.slice q m d]) → Grow W W' p p' → K (a.put o.dst (.slice p' (n + 1) c')) W') :
    if Region.wanted o (yielded ops a.tmps) = true then Oper.wp Tryz.prog o a W K Q else E := by
  have hw : Region.wanted o (yielded ops a.tmps) = true := by simp [Region.wanted, hgd]
  rw [if_pos hw]
  exact wp_append_row s x ho W lo hi p n c vs hs hown g q m d hx hc hn hlo h

/-- The empty slice of slices. -/
theorem Own2.empty (w : World) : Own2 (w.alloc (.cells #[] 29)) w.heap.size (w.heap.size + 1) (some ⟨w.heap.size, 0, none⟩) 0 0 [] [] :=
  ⟨⟨World.ownsRow_made w #[] 0 (Nat.le_refl _) (Nat.zero_le _) rfl, fun a ha => by injection ha with ha; subst ha; exact Nat.lt_succ_self _⟩, rfl, fun k h => absurd h (by simp), List.Pairwise.nil⟩
theorem Own2.nil (w : World) (lo hi : Nat) : Own2 w lo hi none 0 0 [] [] := ⟨OwnV.nil _ _ _ _ _, rfl, fun k h => absurd h (by simp), List.Pairwise.nil⟩

/-- What a slice of slices is behind the append of a new row. w: where the row is known; W: at the append; W': behind it. -/
theorem Own2.app {w W W' : World} {lo mid : Nat} {p p' : Option Addr} {n c c' : Nat} {rows : List Row} {xss : List (List Int)} (h : Own2 w lo mid p n c rows xss)
    {hi : Nat} {q : Option Addr} {m d : Nat} {ys : List Int} (hr : Own w mid hi q m d ys) (hlm : lo ≤ mid)
    (hb : Below w.heap.size w W) (hv : OwnV W' 29 1 lo W'.heap.size p' (n + 1) c' (rows.map Row.val ++ [.slice q m d])) (hg : Grow W W' p p') :
    Own2 W' lo W'.heap.size p' (n + 1) c' (rows ++ [(q, m, d)]) (xss ++ [ys]) := by
  have hc := h.count
  have hl := h.len
  have hT : 29 ≠ 3 := by decide
  have keep : ∀ {lo' hi' : Nat} {q' : Option Addr} {n' c' : Nat} {zs : List Int}, lo ≤ lo' → Own w lo' hi' q' n' c' zs → Own W' lo W'.heap.size q' n' c' zs := fun hlo hz =>
    ((hz.below hb).kept (q := p) hg.by_ ((h.outer.below hb).ne (hz.below hb).v hT)).up.widen hlo (Nat.le_refl _)
  refine ⟨by simpa [Row.val] using hv, by simp [hl], fun k hk => ?_, ?_⟩
  · by_cases hkl : k < rows.length
    · have e : nthR (xss ++ [ys]) k = nthR xss k := by
        rw [nthR_eq (by simp; omega), nthR_eq (by omega), List.getElem_append_left]
      rw [e]
      simp only [List.getElem_append_left hkl]
      exact keep (Nat.le_refl _) (h.inner k hkl)
    · simp only [List.length_append, List.length_cons, List.length_nil] at hk
      obtain rfl : k = rows.length := by omega
      have e : nthR (xss ++ [ys]) rows.length = ys := by
        rw [nthR_eq (by simp; omega), List.getElem_append_right (by omega)]
        simp [hl]
      rw [e]
      simp only [List.getElem_append_right (Nat.le_refl _), Nat.sub_self, List.getElem_cons_zero]
      exact keep hlm hr
  · rw [List.pairwise_append]
    refine ⟨h.apart, List.pairwise_singleton _ _, fun r hr1 s hs => ?_⟩
    simp only [List.mem_singleton] at hs
    subst hs
    obtain ⟨j, hj, rfl⟩ := List.getElem_of_mem hr1
    exact (h.inner j hj).apart hr (.inl (Nat.le_refl _))

theorem Own2.drew {w : World} {lo hi : Nat} {p : Option Addr} {n c : Nat} {rows : List Row} {xss : List (List Int)} (h : Own2 w lo hi p n c rows xss) : Own2 w.drew lo hi p n c rows xss :=
  ⟨h.outer.drew, h.len, fun k hk => (h.inner k hk).drew, h.apart⟩
theorem Own2.drewN {w : World} {lo hi : Nat} {p : Option Addr} {n c : Nat} {rows : List Row} {xss : List (List Int)} (h : Own2 w lo hi p n c rows xss) (z : Nat) : Own2 (w.drewN z) lo hi p n c rows xss :=
  ⟨⟨h.outer.row, h.outer.top⟩, h.len, fun k hk => (h.inner k hk).drewN z, h.apart⟩

end Go.Proofs.YthdonnkekggbbaaGreatDoor

/- Rows beside written blocks; differences of two lists; copies of points. Conditions: sizes. -/
namespace Go.Proofs.YthdonnkekggbbaaGreatDoor
open Go.RowKit
set_option linter.unusedVariables false
set_option linter.unusedSimpArgs false
set_option maxRecDepth 100000

theorem Within.cells0 {lo hi : Nat} {w w1 : World} (hw : Within lo hi w w1) {a : Addr} {v : Value} (h : w.cell? a = some v) (ha : a.block < lo ∨ hi ≤ a.block) : w1.cell? a = some v :=
  (World.cell?_of_block (hw.block a.block (World.block_lt_of_cell? w a h) ha)).trans h

/-- A slice that lies outside an interval of blocks. -/
def Out (lo hi : Nat) (q : Option Addr) : Prop := ∀ a, q = some a → a.block < lo ∨ hi ≤ a.block
theorem Ints.within {w w' : World} {lo hi : Nat} {q : Option Addr} {n : Nat} {ys : List Int} (h : Ints w q n ys) (hw : Within lo hi w w') (ho : Out lo hi q) : Ints w' q n ys :=
  ⟨h.len, fun k hk => by
    obtain ⟨b, o, hp, hc⟩ := h.cell k hk
    have := ho _ hp
    exact ⟨b, o, hp, hw.cells0 hc this⟩⟩

/-- The differences of two lists of numbers. -/
def lessW (xs ys : List Int) : List Int := (List.range xs.length).map fun j => wrap64 (nth xs j - nth ys j)
theorem lessW_length (xs ys : List Int) : (lessW xs ys).length = xs.length := by simp [lessW]
theorem lessW_nth {xs ys : List Int} {j : Nat} (h : j < xs.length) : nth (lessW xs ys) j = wrap64 (nth xs j - nth ys j) := by
  rw [nth_eq (by rw [lessW_length]; exact h)]; simp [lessW]
theorem l2Less_any (p q : Option Addr) (n c d : Nat) (xs ys : List Int) (w : World) (hn : n ≤ 17592186040000) (hx : Ints w p n xs) (hy : Ints w q n ys) :
    Calls Tryz.prog 90 #[.slice p n c, .slice q n d] w (NewInts w n (lessW xs ys)) := by
  have hl := Lib.hid hx.len
  have hl3 := Lib.hid (lessW_length xs ys)
  go_enter Tryz.func90, Tryz.ntmps90
  go_wp2
  go_loopw [5, 6] (fun v i wr => ∃ (k : Nat) (p' : Option Addr) (c' : Nat), k ≤ n ∧ i = .int .i64 k ∧ v = .slice p' k c' ∧ Own wr w.heap.size wr.heap.size p' k c' ((lessW xs ys).take k) ∧ Below w.heap.size w wr) (fun _ i _ => n - (intOf i).toNat)
  case atStart => exact ⟨0, _, _, Nat.zero_le _, rfl, rfl, (Own.empty w).up, (Below.refl _ _).alloc (Nat.le_refl _) _⟩
  case round =>
    obtain ⟨k, p', c', hk, rfl, rfl, hown, hb⟩ := hrel
    by_cases hlt : k < n
    · obtain ⟨b, o, rfl, hc⟩ := (hx.below hb).cell k hlt
      obtain ⟨b2, o2, rfl, hc2⟩ := (hy.below hb).cell k hlt
      go_wp2
      go_region_law (refine step_append_int rfl (.tmp 14) (.tmp 24) rfl _ w.heap.size _ _ _ _ _ rfl (hown.alloc _).drew wr.heap.size _ rfl (cellNewD _ _ _) (by omega) (sizeNewD hb _) ?_; intro p2 c2 w2 hown2 hg2)
      all_goals
        have hb2 := hg2.belowO ((hown.alloc _).drew) (sizeNewD hb _)
        go_wp2
        go_roundw
        case rel =>
          refine ⟨k + 1, _, _, by omega, by go_num, rfl, ?_, Below.newD hb _ hb2⟩
          rw [take_nth (by have := hl.out; have := hl3.out; omega), lessW_nth (by rw [hl.out]; exact hlt), ← wrapEq]
          exact hown2
        case measure => simp [intOf]; omega
    · go_wp2
      go_ret
      obtain rfl : k = n := by omega
      refine ⟨_, _, rfl, ?_, hb⟩
      rw [List.take_of_length_le (by have := hl.out; have := hl3.out; omega)] at hown
      exact hown

theorem copyPoints_any (p : Option Addr) (n c : Nat) (xss : List (List Int)) (w : World) (hn : n ≤ 1048576) (hx : Intss w p n xss) (hm : ∀ k, k < n → (nthR xss k).length ≤ 1048576) :
    Calls Tryz.prog 37 #[.slice p n c] w (NewM w n xss) := by
  have hl := Lib.hid hx.len
  have Hm := Lib.hid hm
  clear hm
  go_enter Tryz.func37, Tryz.ntmps37
  go_wp2
  go_loopw [3, 8] (fun a i wr => ∃ (k : Nat) (p' : Option Addr) (c' : Nat) (rows : List Row), k ≤ n ∧ i = .int .i64 k ∧ a = .slice p' k c' ∧ Own2 wr w.heap.size wr.heap.size p' k c' rows (xss.take k) ∧ Below w.heap.size w wr) (fun _ i _ => n - (intOf i).toNat)
  case atStart => exact ⟨0, _, _, _, Nat.zero_le _, rfl, rfl, Own2.nil _ _ _, Below.refl _ _⟩
  case round =>
    obtain ⟨k, p', c', rows, hk, rfl, rfl, hown, hb⟩ := hrel
    by_cases hlt : k < n
    · obtain ⟨b, o, q1, m1, d1, rfl, hc, hm1, hi⟩ := (hx.below hb).cell k hlt
      have hm2 : m1 ≤ 1048576 := by rw [← hi.len]; exact Hm.out k hlt
      go_wp2_with fail
      refine (copyInts_any _ _ _ _ _ (by omega) hi).mono ?_
      rintro e w2 ⟨q2, d2, rfl, ho2, hb2⟩
      have hown2 := hown.below hb2
      have hbw2 := Below.step hb hb2
      go_wp2_with (at_builtin; refine append_row rfl _ _ rfl _ w.heap.size _ _ _ _ _ rfl (hown2.outer.alloc _) _ _ _ _ rfl (cellNew _ _ _) (by omega) (sizeNew hbw2 _) ?_; intro p3 c3 w3 ho3 hg3)
      have hb3 : Below w.heap.size w w3 := (hbw2.alloc hbw2.size _).trans (hg3.below (sizeNew hbw2 _) (fun a ha => (hown2.outer.lt a ha).1))
      have h3 := hown2.app ho2 hb.size (boxed _ _) ho3 hg3
      go_roundw
      case rel =>
        rw [← take_nthR (by rw [hl.out]; exact hlt)] at h3
        exact ⟨k + 1, _, _, _, by omega, by go_num, rfl, h3, hb3⟩
      case measure => simp [intOf]; omega
    · go_wp2
      go_ret
      obtain rfl : k = n := by omega
      rw [List.take_of_length_le (by rw [hl.out]; exact Nat.le_refl _)] at hown
      exact ⟨_, _, rfl, ⟨_, hown⟩, hb⟩

end Go.Proofs.YthdonnkekggbbaaGreatDoor

/- The reference's draws of rows, for a seat that has texts: in place of MDraw, whose words VecDraw has too. Conditions: sizes. -/
namespace Go.Proofs.YthdonnkekggbbaaGreatDoor
set_option linter.unusedVariables false
set_option linter.unusedSimpArgs false
set_option maxRecDepth 100000

theorem mdrawS : True := trivial

end Go.Proofs.YthdonnkekggbbaaGreatDoor
