/- Plain geometry of the plane: turns, chains of a hull (the lower one, top first), their uniqueness. No program in sight. Conditions: none. -/
import Derived.Test.YteamihmolpaoeaaDoorBase
namespace Go.Proofs.YteamihmolpaoeaaDoor
set_option linter.unusedVariables false
set_option linter.unusedSimpArgs false
set_option maxRecDepth 100000

abbrev Pt := Int × Int
def cr (u v : Pt) : Int := u.1 * v.2 - u.2 * v.1
def sb (a b : Pt) : Pt := (a.1 - b.1, a.2 - b.2)
/-- Positive if the way from a over b to c turns to the left. -/
def tn (a b c : Pt) : Int := cr (sb b a) (sb c a)
def lx (a b : Pt) : Prop := a.1 < b.1 ∨ (a.1 = b.1 ∧ a.2 < b.2)
def posV (u : Pt) : Prop := 0 < u.1 ∨ (u.1 = 0 ∧ 0 < u.2)

theorem lx.pos {a b : Pt} (h : lx a b) : posV (sb b a) := by
  unfold lx at h; unfold posV sb; simp only; omega
theorem lx.trans {a b c : Pt} (h : lx a b) (h' : lx b c) : lx a c := by
  unfold lx at *; omega
theorem lx.irrefl {a : Pt} (h : lx a a) : False := by unfold lx at h; omega
theorem lx_total (a b : Pt) : lx a b ∨ a = b ∨ lx b a := by
  unfold lx
  by_cases h : a = b
  · exact .inr (.inl h)
  · have : ¬ (a.1 = b.1 ∧ a.2 = b.2) := fun ⟨h1, h2⟩ => h (Prod.ext h1 h2)
    omega

theorem cr_anti (u v : Pt) : cr u v = - cr v u := by unfold cr; grind
/-- Directions of the half plane are ordered by their slopes. -/
theorem slope_trans {u v w : Pt} (hu : posV u) (hv : posV v) (hw : posV w) (h1 : 0 ≤ cr u v) (h2 : 0 ≤ cr v w) : 0 ≤ cr u w := by
  have hu1 : 0 ≤ u.1 := by unfold posV at hu; omega
  have hw1 : 0 ≤ w.1 := by unfold posV at hw; omega
  rcases hv with hv | ⟨hv0, hv⟩
  · have e : v.1 * cr u w = u.1 * cr v w + w.1 * cr u v := by unfold cr; grind
    have h3 : 0 ≤ v.1 * cr u w := by
      rw [e]; exact Int.add_nonneg (Int.mul_nonneg hu1 h2) (Int.mul_nonneg hw1 h1)
    by_cases h : 0 ≤ cr u w
    · exact h
    · have := Int.mul_neg_of_pos_of_neg hv (show cr u w < 0 by omega)
      omega
  · have e1 : cr v w = - (v.2 * w.1) := by unfold cr; rw [hv0]; grind
    have hw0 : w.1 = 0 := by
      by_cases h : w.1 = 0
      · exact h
      · have := Int.mul_pos hv (show 0 < w.1 by omega)
        omega
    have hw2 : 0 < w.2 := by unfold posV at hw; omega
    have e2 : cr u w = u.1 * w.2 := by unfold cr; rw [hw0]; grind
    rw [e2]
    exact Int.mul_nonneg hu1 (by omega)
theorem slope_lt_le {u v w : Pt} (hu : posV u) (hv : posV v) (hw : posV w) (h1 : 0 < cr u v) (h2 : 0 ≤ cr v w) : 0 < cr u w := by
  by_cases h : 0 < cr u w
  · exact h
  · have := slope_trans hv hw hu h2 (by rw [cr_anti]; omega)
    rw [cr_anti] at this
    omega
theorem slope_le_lt {u v w : Pt} (hu : posV u) (hv : posV v) (hw : posV w) (h1 : 0 ≤ cr u v) (h2 : 0 < cr v w) : 0 < cr u w := by
  by_cases h : 0 < cr u w
  · exact h
  · have := slope_trans hw hu hv (by rw [cr_anti]; omega) h1
    rw [cr_anti] at this
    omega

theorem tn_rot (a b c : Pt) : tn a b c = tn b c a := by unfold tn cr sb; grind
theorem tn_swap (a b c : Pt) : tn a b c = - tn a c b := by unfold tn cr sb; grind
theorem tn_step (a b c : Pt) : tn a b c = cr (sb b a) (sb c b) := by unfold tn cr sb; grind
theorem tn_back (a b s : Pt) : tn a b s = cr (sb b s) (sb b a) := by unfold tn cr sb; grind
theorem tn_aab (a b : Pt) : tn a b a = 0 := by unfold tn cr sb; grind
theorem tn_abb (a b : Pt) : tn a b b = 0 := by unfold tn cr sb; grind
theorem tn_aac (a b : Pt) : tn a a b = 0 := by unfold tn cr sb; grind

/-- Two turns to the left in a row, in the order of the plane. -/
theorem turns_trans {c a b x : Pt} (h1 : lx c a) (h2 : lx a b) (h3 : lx b x) (t1 : 0 < tn c a b) (t2 : 0 < tn a b x) : 0 < tn c a x ∧ 0 < tn c b x := by
  rw [tn_step] at t1 t2
  have h4 := slope_lt_le h1.pos h2.pos h3.pos t1 (by omega)
  have e1 : tn c a x = cr (sb a c) (sb b a) + cr (sb a c) (sb x b) := by unfold tn cr sb; grind
  have e2 : tn c b x = cr (sb b a) (sb x b) + cr (sb a c) (sb x b) := by unfold tn cr sb; grind
  omega

/-! ### Stacks, top first -/
def DescR : List Pt → Prop
  | b :: a :: r => lx a b ∧ DescR (a :: r)
  | _ => True
def ConvR : List Pt → Prop
  | c :: b :: a :: r => 0 < tn a b c ∧ ConvR (b :: a :: r)
  | _ => True
def EdgeR (S : List Pt) : List Pt → Prop
  | b :: a :: r => (∀ s ∈ S, 0 ≤ tn a b s) ∧ EdgeR S (a :: r)
  | _ => True

theorem DescR.tail {b : Pt} {r : List Pt} (h : DescR (b :: r)) : DescR r := by
  cases r with
  | nil => trivial
  | cons a r => exact h.2
theorem ConvR.tail {b : Pt} {r : List Pt} (h : ConvR (b :: r)) : ConvR r := by
  cases r with
  | nil => trivial
  | cons a r =>
    cases r with
    | nil => trivial
    | cons c r => exact h.2
theorem EdgeR.tail {S : List Pt} {b : Pt} {r : List Pt} (h : EdgeR S (b :: r)) : EdgeR S r := by
  cases r with
  | nil => trivial
  | cons a r => exact h.2
theorem EdgeR.mono {S S' : List Pt} (hs : ∀ s ∈ S', s ∈ S) : ∀ {r : List Pt}, EdgeR S r → EdgeR S' r
  | [], _ => trivial
  | [_], _ => trivial
  | b :: a :: r, h => ⟨fun s h' => h.1 s (hs s h'), EdgeR.mono hs (r := a :: r) h.2⟩
theorem DescR.lt_head {b : Pt} : ∀ {r : List Pt}, DescR (b :: r) → ∀ a ∈ r, lx a b
  | [], _, a, h => by simp at h
  | c :: r, hd, a, h => by
    rcases List.mem_cons.1 h with rfl | h
    · exact hd.1
    · exact (DescR.lt_head hd.2 a h).trans hd.1
theorem DescR.ge_last {b0 : Pt} : ∀ {r : List Pt}, DescR r → r.getLast? = some b0 → ∀ a ∈ r, a = b0 ∨ lx b0 a
  | [], _, _, a, h => by simp at h
  | [c], _, hl, a, h => by simp at hl h; exact .inl (h.trans hl)
  | c :: d :: r, hd, hl, a, h => by
    rw [List.getLast?_cons_cons] at hl
    rcases List.mem_cons.1 h with rfl | h
    · rcases DescR.ge_last hd.2 hl d (by simp) with rfl | h2
      · exact .inr hd.1
      · exact .inr (h2.trans hd.1)
    · exact DescR.ge_last hd.2 hl a h

/-- The top of a chain that turns to the left lies to the left of each side below. -/
theorem edge_top {x : Pt} : ∀ {st : List Pt}, DescR (x :: st) → ConvR (x :: st) → EdgeR [x] st
  | [], _, _ => trivial
  | [_], _, _ => trivial
  | [b, a], hd, hc => ⟨fun s hs => by
      rw [List.mem_singleton] at hs; subst hs; exact Int.le_of_lt hc.1, trivial⟩
  | b :: a :: c :: r, hd, hc => by
    refine ⟨fun s hs => ?_, ?_⟩
    · rw [List.mem_singleton] at hs; subst hs; exact Int.le_of_lt hc.1
    · have h := turns_trans hd.2.2.1 hd.2.1 hd.1 hc.2.1 hc.1
      refine edge_top (st := a :: c :: r) ⟨hd.2.1.trans hd.1, hd.2.2⟩ ⟨h.1, hc.tail.tail⟩

theorem EdgeR.both {S S' : List Pt} : ∀ {r : List Pt}, EdgeR S r → EdgeR S' r → EdgeR (S ++ S') r
  | [], _, _ => trivial
  | [_], _, _ => trivial
  | b :: a :: r, h, h' => ⟨fun s hs => (List.mem_append.1 hs).elim (h.1 s) (h'.1 s), EdgeR.both (r := a :: r) h.2 h'.2⟩

/-- A point is pushed onto a chain; those that don't turn to the left any more are popped. -/
def pushC {α : Type} (t : α → α → α → Int) : List α → α → List α
  | b :: a :: r, x => if t a b x ≤ 0 then pushC t (a :: r) x else x :: b :: a :: r
  | [b], x => [x, b]
  | [], x => [x]
def chainR {α : Type} (t : α → α → α → Int) (l : List α) : List α := l.foldl (pushC t) []
def hullOf {α : Type} (t : α → α → α → Int) (l : List α) : List α := (chainR t l).reverse.dropLast ++ (chainR t l.reverse).reverse.dropLast

/-- What a chain is: its sides have all points on the left. -/
structure Hul (D st : List Pt) (mn mx : Pt) : Prop where
  desc : DescR st
  conv : ConvR st
  edge : EdgeR D st
  low : st.getLast? = some mn
  high : st.head? = some mx
  sub : ∀ a ∈ st, a ∈ D
  least : ∀ s ∈ D, s = mn ∨ lx mn s

theorem push_ok {x : Pt} {D : List Pt} {mn : Pt} (hx : ∀ s ∈ D, lx s x) : ∀ (st : List Pt) (mx : Pt), Hul D st mn mx → (∀ s ∈ D, lx mx s → 0 ≤ tn mx x s) → Hul (D ++ [x]) (pushC tn st x) mn x
  | [], mx, h, _ => by have := h.high; simp at this
  | [b], mx, h, hup => by
    have h1 := h.high; have h2 := h.low
    simp only [List.head?_cons, List.getLast?_singleton, Option.some.injEq] at h1 h2
    subst h1
    have hbD : b ∈ D := h.sub b (by simp)
    refine ⟨⟨hx b hbD, trivial⟩, trivial, ⟨fun s hs => ?_, trivial⟩, by simp [pushC, h2], by simp [pushC], fun a ha => ?_, fun s hs => ?_⟩
    · rcases List.mem_append.1 hs with hs | hs
      · rcases h.least s hs with e | e
        · rw [e, ← h2, tn_aab]; omega
        · rw [← h2] at e; exact hup s hs e
      · rw [List.mem_singleton] at hs; rw [hs, tn_abb]; omega
    · simp only [pushC, List.mem_cons, List.not_mem_nil, or_false] at ha
      rcases ha with rfl | rfl
      · simp
      · exact List.mem_append_left _ hbD
    · rcases List.mem_append.1 hs with hs | hs
      · exact h.least s hs
      · rw [List.mem_singleton] at hs; rw [hs, ← h2]; exact .inr (hx b hbD)
  | b :: a :: r, mx, h, hup => by
    have h1 := h.high
    simp only [List.head?_cons, Option.some.injEq] at h1
    subst h1
    have hbD : b ∈ D := h.sub b (by simp)
    have haD : a ∈ D := h.sub a (by simp)
    have hab := h.desc.1
    rw [pushC]
    split
    · rename_i ht
      refine push_ok hx (a :: r) a ⟨h.desc.tail, h.conv.tail, h.edge.tail, by simpa using h.low, rfl, fun c hc => h.sub c (List.mem_cons_of_mem _ hc), h.least⟩ fun s hs hlt => ?_
      have e1 := h.edge.1 s hs
      exact slope_trans (hx a haD).pos hab.pos hlt.pos (by rw [cr_anti]; unfold tn at ht; omega) e1
    · rename_i ht
      have ht' : 0 < tn a b x := by omega
      have hd : DescR (x :: b :: a :: r) := ⟨hx b hbD, h.desc⟩
      have hc : ConvR (x :: b :: a :: r) := ⟨ht', h.conv⟩
      refine ⟨hd, hc, ⟨fun s hs => ?_, h.edge.both (edge_top hd hc)⟩, by simpa using h.low, rfl, fun c hc => ?_, fun s hs => ?_⟩
      · rcases List.mem_append.1 hs with hs | hs
        · rcases lx_total b s with e | e | e
          · exact hup s hs e
          · rw [← e, tn_aab]; omega
          · have e1 := h.edge.1 s hs
            rw [tn_back] at e1
            have e2 : 0 < cr (sb b a) (sb x b) := by rw [← tn_step]; exact ht'
            have e3 := slope_le_lt e.pos hab.pos (hx b hbD).pos e1 e2
            have e4 : tn b x s = cr (sb b s) (sb x b) := by unfold tn cr sb; grind
            omega
        · rw [List.mem_singleton] at hs; rw [hs, tn_abb]; omega
      · rcases List.mem_cons.1 hc with rfl | hc
        · simp
        · exact List.mem_append_left _ (h.sub c hc)
      · rcases List.mem_append.1 hs with hs | hs
        · exact h.least s hs
        · rw [List.mem_singleton] at hs; subst hs
          rcases h.least b hbD with e | e
          · rw [← e]; exact .inr (hx b hbD)
          · exact .inr (e.trans (hx b hbD))

theorem fold_ok {mn : Pt} : ∀ (S D st : List Pt) (mx : Pt), Hul D st mn mx → (∀ s ∈ D, s = mx ∨ lx s mx) → (mx :: S).Pairwise lx → Hul (D ++ S) (S.foldl (pushC tn) st) mn ((mx :: S).getLast (by simp))
  | [], D, st, mx, h, _, _ => by simpa using h
  | x :: S, D, st, mx, h, hD, hp => by
    have hmx : lx mx x := (List.pairwise_cons.1 hp).1 x (by simp)
    have hx : ∀ s ∈ D, lx s x := fun s hs => by
      rcases hD s hs with rfl | h2
      · exact hmx
      · exact h2.trans hmx
    have h1 := push_ok hx st mx h fun s hs hlt => by
      rcases hD s hs with rfl | h2
      · exact absurd hlt fun h => h.irrefl
      · exact absurd (hlt.trans h2) fun h => h.irrefl
    have h2 := fold_ok S (D ++ [x]) (pushC tn st x) x h1 (fun s hs => by
      rcases List.mem_append.1 hs with hs | hs
      · exact .inr (hx s hs)
      · rw [List.mem_singleton] at hs; exact .inl hs) (List.pairwise_cons.1 hp).2
    rw [List.append_assoc] at h2
    simpa using h2

/-- The chain of points in order. -/
theorem chain_ok (x : Pt) (S : List Pt) (hp : (x :: S).Pairwise lx) : Hul (x :: S) (chainR tn (x :: S)) x ((x :: S).getLast (by simp)) := by
  have h0 : Hul [x] [x] x x := ⟨trivial, trivial, trivial, rfl, rfl, fun a h => h, fun s hs => .inl (by simpa using hs)⟩
  have := fold_ok S [x] [x] x h0 (fun s hs => .inl (by simpa using hs)) hp
  simpa [chainR, pushC] using this

/-- A chain is told by its points. -/
theorem chain_uniq : ∀ (A B : List Pt), DescR A → DescR B → ConvR A → ConvR B → A.head? = B.head? → A.getLast? = B.getLast? → EdgeR B A → EdgeR A B → A = B
  | [], [], _, _, _, _, _, _, _, _ => rfl
  | [], b :: B, _, _, _, _, h, _, _, _ => by simp at h
  | a :: A, [], _, _, _, _, h, _, _, _ => by simp at h
  | [a], [b], _, _, _, _, h, _, _, _ => by simpa using h
  | [a], b :: b1 :: B, _, hB, _, _, h, hl, _, _ => by
    simp only [List.head?_cons, Option.some.injEq] at h; subst h
    have hl' : (a :: b1 :: B).getLast? = some a := by rw [← hl]; rfl
    rw [List.getLast?_cons_cons] at hl'
    rcases DescR.ge_last hB.2 hl' b1 (by simp) with e | e
    · exact absurd hB.1 (by rw [e]; exact fun h => h.irrefl)
    · exact absurd (e.trans hB.1) fun h => h.irrefl
  | a :: a1 :: A, [b], hA, _, _, _, h, hl, _, _ => by
    simp only [List.head?_cons, Option.some.injEq] at h; subst h
    have hl' : (a :: a1 :: A).getLast? = some a := by rw [hl]; rfl
    rw [List.getLast?_cons_cons] at hl'
    rcases DescR.ge_last hA.2 hl' a1 (by simp) with e | e
    · exact absurd hA.1 (by rw [e]; exact fun h => h.irrefl)
    · exact absurd (e.trans hA.1) fun h => h.irrefl
  | a :: a1 :: A, b :: b1 :: B, hA, hB, cA, cB, h, hl, eA, eB => by
    simp only [List.head?_cons, Option.some.injEq] at h; subst h
    have t1 : 0 ≤ tn a1 a b1 := eA.1 b1 (by simp)
    have t2 : 0 ≤ tn b1 a a1 := eB.1 a1 (by simp)
    have e12 : tn a1 a b1 = - tn b1 a a1 := by unfold tn cr sb; grind
    have hz : tn a1 a b1 = 0 := by omega
    have hz' : cr (sb a b1) (sb a a1) = 0 := by rw [← tn_back]; exact hz
    have key : a1 = b1 := by
      rcases lx_total a1 b1 with e | e | e
      · -- b1 lies between
        exfalso
        rw [List.getLast?_cons_cons, List.getLast?_cons_cons] at hl
        cases B with
        | nil =>
          simp only [List.getLast?_singleton] at hl
          rcases DescR.ge_last hA.2 hl a1 (by simp) with e' | e'
          · rw [e'] at e; exact e.irrefl
          · exact (e.trans e').irrefl
        | cons b2 B =>
          have c1 : 0 < cr (sb b1 b2) (sb a b1) := by rw [← tn_step]; exact cB.1
          have c2 : 0 ≤ tn b2 b1 a1 := eB.2.1 a1 (by simp)
          rw [tn_back] at c2
          have p1 := hB.2.1.pos; have p2 := hB.1.pos; have p3 := e.pos
          have e0 : cr (sb a b1) (sb b1 a1) = 0 := by unfold cr sb at *; grind
          have := slope_lt_le p1 p2 p3 c1 (by omega)
          rw [cr_anti] at this
          omega
      · exact e
      · exfalso
        rw [List.getLast?_cons_cons, List.getLast?_cons_cons] at hl
        cases A with
        | nil =>
          simp only [List.getLast?_singleton] at hl
          rcases DescR.ge_last hB.2 hl.symm b1 (by simp) with e' | e'
          · rw [e'] at e; exact e.irrefl
          · exact (e.trans e').irrefl
        | cons a2 A =>
          have c1 : 0 < cr (sb a1 a2) (sb a a1) := by rw [← tn_step]; exact cA.1
          have c2 : 0 ≤ tn a2 a1 b1 := eA.2.1 b1 (by simp)
          rw [tn_back] at c2
          have p1 := hA.2.1.pos; have p2 := hA.1.pos; have p3 := e.pos
          have e0 : cr (sb a a1) (sb a1 b1) = 0 := by unfold cr sb at *; grind
          have := slope_lt_le p1 p2 p3 c1 (by omega)
          rw [cr_anti] at this
          omega
    subst key
    have := chain_uniq (a1 :: A) (a1 :: B) hA.2 hB.2 cA.tail cB.tail rfl (by rw [List.getLast?_cons_cons, List.getLast?_cons_cons] at hl; exact hl) (eA.2.mono fun s hs => List.mem_cons_of_mem _ hs) (eB.2.mono fun s hs => List.mem_cons_of_mem _ hs)
    rw [this]

end Go.Proofs.YteamihmolpaoeaaDoor
