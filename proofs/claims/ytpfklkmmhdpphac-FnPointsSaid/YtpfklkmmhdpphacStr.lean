/- Words for texts in memory: a slice of texts that is read, rows of texts and of bytes of the call's own. Conditions: none. -/
import Derived.Test.YtpfklkmmhdpphacJnBase
import Derived.Test.YtpfklkmmhdpphacNum2
import Derived.Lib.AppendStr
namespace Go.Proofs.Ytpfklkmmhdpphac
open Go.RowKit
set_option linter.unusedVariables false
set_option linter.unusedSimpArgs false
set_option maxRecDepth 100000

theorem ret_str {a b : List UInt8} (h : a = b) : Ending.returned (.string ⟨a.toArray⟩) = .returned (.string ⟨b.toArray⟩) := by rw [h]
def strV (l : List UInt8) : Value := .string ⟨l.toArray⟩
def nthS (ss : List (List UInt8)) (k : Nat) : List UInt8 := ss.getD k []
theorem nthS_eq {ss : List (List UInt8)} {k : Nat} (h : k < ss.length) : nthS ss k = ss[k] := by simp [nthS, List.getD, h]
theorem take_nthS {ss : List (List UInt8)} {k : Nat} (h : k < ss.length) : ss.take (k + 1) = ss.take k ++ [nthS ss k] := by
  rw [nthS_eq h]; exact List.take_succ_eq_append_getElem h
theorem nthS_ext {xs ys : List (List UInt8)} (h : xs.length = ys.length) (hk : ∀ k, k < xs.length → nthS xs k = nthS ys k) : xs = ys :=
  List.ext_getElem h fun i h1 h2 => by have := hk i h1; rwa [nthS_eq h1, nthS_eq h2] at this
theorem mk_inj {a b : List UInt8} (h : (⟨a.toArray⟩ : ByteArray) = ⟨b.toArray⟩) : a = b := by
  have := congrArg (fun x : ByteArray => x.data.toList) h
  simpa using this
theorem strV_inj {a b : List UInt8} (h : strV a = strV b) : a = b := by
  unfold strV at h
  injection h with h
  exact mk_inj h
theorem mk_eta (s : ByteArray) : (⟨s.data.toList.toArray⟩ : ByteArray) = s := by
  cases s; simp

/-- The slice (p, n) reads as the texts ss. -/
structure Strs (w : World) (p : Option Addr) (n : Nat) (ss : List (List UInt8)) : Prop where
  len : ss.length = n
  cell : ∀ k, k < n → ∃ b o, p = some ⟨b, o, none⟩ ∧ w.cell? ⟨b, o + k, none⟩ = some (.string ⟨(nthS ss k).toArray⟩)

theorem Strs.keep {w w' : World} {p : Option Addr} {n : Nat} {xs : List (List UInt8)} (h : Strs w p n xs)
    (hk : ∀ a : Addr, a.block < w.heap.size → w'.cell? a = w.cell? a) : Strs w' p n xs :=
  ⟨h.len, fun k hn => by
    obtain ⟨b, o, hp, hc⟩ := h.cell k hn
    exact ⟨b, o, hp, (hk _ (World.block_lt_of_cell? w _ hc)).trans hc⟩⟩
theorem Strs.below {w w' : World} {p : Option Addr} {n : Nat} {xs : List (List UInt8)} (h : Strs w p n xs) (hb : Below w.heap.size w w') : Strs w' p n xs :=
  h.keep fun _ ha => hb.cell ha
theorem Strs.drewN {w : World} {p : Option Addr} {n : Nat} {xs : List (List UInt8)} (h : Strs w p n xs) (q : Nat) : Strs (w.drewN q) p n xs := ⟨h.len, h.cell⟩
theorem Strs.drew {w : World} {p : Option Addr} {n : Nat} {xs : List (List UInt8)} (h : Strs w p n xs) : Strs w.drew p n xs := ⟨h.len, h.cell⟩
theorem Strs.nil (w : World) (p : Option Addr) : Strs w p 0 [] := ⟨rfl, fun _ h => absurd h (by omega)⟩

/-! ### Rows of the call's own whose elements take one cell -/
section
variable {w w' : World} {E : TypeId} {lo hi : Nat} {p : Option Addr} {n c : Nat} {vs : List Value}
theorem OwnV.form1 (h : OwnV w E 1 lo hi p n c vs) :
    (p = none ∧ n = 0 ∧ c = 0) ∨ ∃ g, p = some ⟨g, 0, none⟩ ∧ lo ≤ g ∧ g < hi ∧ g < w.heap.size ∧ n ≤ c ∧ c ≤ maxLen := by
  rcases h.row.2 with ⟨h0, hn⟩ | ⟨g', cap, cur, hv, hl, hg, hc, hm, _⟩
  · injection h0 with a b c
    exact .inl ⟨a, b, c⟩
  · injection hv with a b c
    subst c
    exact .inr ⟨g', a, hl, h.top _ a, (Array.getElem?_eq_some_iff.1 hg).1, hc, hm⟩
theorem OwnV.cellAt {g o : Nat} (h : OwnV w E 1 lo hi (some ⟨g, o, none⟩) n c vs) {k : Nat} (hk : k < n) : o = 0 ∧ w.cell? ⟨g, k, none⟩ = vs[k]? := by
  have hl := h.len
  rcases h.row.2 with ⟨h0, _⟩ | ⟨g', cap, cur, hv, _, hg, _, _, hs, ht⟩
  · cases h0
  · injection hv with hp _ _
    injection hp with hp
    injection hp with e1 e2
    subst e1; subst e2
    refine ⟨rfl, ?_⟩
    have h3 : (cur.toList.take (n * 1))[k]? = vs[k]? := by rw [ht]
    rw [List.getElem?_take, if_pos (by omega)] at h3
    rw [cell_of_row w g k cur E (0, 0) hg, ← h3]
    simp
theorem OwnV.frozenAt {g o : Nat} (h : OwnV w E 1 lo hi (some ⟨g, o, none⟩) n c vs) (k : Nat) : w.frozen? ⟨g, k, none⟩ = false := by
  rcases h.row.2 with ⟨h0, _⟩ | ⟨g', cap, cur, hv, _, hg, _⟩
  · cases h0
  · injection hv with hp _ _
    injection hp with hp
    injection hp with e1 _
    subst e1
    simp [World.frozen?, hg]
theorem OwnV.withinV {lo' hi' : Nat} (h : OwnV w E 1 lo hi p n c vs) (hw : Within lo' hi' w w') (hd : hi ≤ lo' ∨ hi' ≤ lo) : OwnV w' E 1 lo hi p n c vs := by
  refine ⟨⟨h.row.1, ?_⟩, h.top⟩
  rcases h.row.2 with h0 | ⟨g, cap, cur, hv, hl, hg, hr⟩
  · exact .inl h0
  · refine .inr ⟨g, cap, cur, hv, hl, ?_, hr⟩
    have hlt : g < hi := by
      injection hv with hp _ _
      exact h.top _ hp
    rw [hw.block g (Array.getElem?_eq_some_iff.1 hg).1 (by omega)]
    exact hg
theorem OwnV.belowV (h : OwnV w E 1 lo hi p n c vs) (hb : Below w.heap.size w w') : OwnV w' E 1 lo hi p n c vs :=
  h.withinV (lo' := hi) (hi' := hi) (Within.of_below hb) (.inl (Nat.le_refl _))
theorem OwnV.widenV {lo' hi' : Nat} (h : OwnV w E 1 lo hi p n c vs) (hl : lo' ≤ lo) (hh : hi ≤ hi') : OwnV w E 1 lo' hi' p n c vs := by
  refine ⟨⟨h.row.1, ?_⟩, fun a ha => Nat.lt_of_lt_of_le (h.top a ha) hh⟩
  rcases h.row.2 with h0 | ⟨g, cap, cur, hv, hl', hr⟩
  · exact .inl h0
  · exact .inr ⟨g, cap, cur, hv, Nat.le_trans hl hl', hr⟩
theorem OwnV.setV {g : Nat} (h : OwnV w E 1 lo hi (some ⟨g, 0, none⟩) n c vs) (k : Nat) (u : Value) : OwnV (w.setCell ⟨g, k, none⟩ u) E 1 lo hi (some ⟨g, 0, none⟩) n c (vs.set k u) :=
  ⟨(h.row.stored (g := g) (cap := c) k u).1, h.top⟩
theorem OwnV.drewV (z : Nat) (h : OwnV w E 1 lo hi p n c vs) : OwnV (w.drewN z) E 1 lo hi p n c vs := ⟨h.row, h.top⟩
end
theorem OwnV.emptyV (w : World) (E : TypeId) : OwnV (w.alloc (.cells #[] E)) E 1 w.heap.size (w.heap.size + 1) (some ⟨w.heap.size, 0, none⟩) 0 0 [] :=
  ⟨World.ownsRow_made w #[] 0 (Nat.le_refl _) (Nat.zero_le _) rfl, fun a ha => by injection ha with ha; subst ha; exact Nat.lt_succ_self _⟩

/-- A row of texts of the call's own. -/
def OwnS (w : World) (lo hi : Nat) (p : Option Addr) (n c : Nat) (ss : List (List UInt8)) : Prop := OwnV w 9 1 lo hi p n c (ss.map strV)
theorem OwnS.len {w : World} {lo hi : Nat} {p : Option Addr} {n c : Nat} {ss : List (List UInt8)} (h : OwnS w lo hi p n c ss) : ss.length = n := by
  have := OwnV.len h; simpa using this
theorem OwnS.rd {w : World} {lo hi : Nat} {p : Option Addr} {n c : Nat} {ss : List (List UInt8)} (h : OwnS w lo hi p n c ss) : Strs w p n ss := by
  refine ⟨h.len, fun k hk => ?_⟩
  rcases OwnV.form1 h with ⟨_, rfl, _⟩ | ⟨g, rfl, _⟩
  · omega
  · have h1 := (OwnV.cellAt h hk).2
    refine ⟨g, 0, rfl, ?_⟩
    rw [Nat.zero_add, h1, List.getElem?_map, List.getElem?_eq_getElem (by rw [h.len]; exact hk), nthS_eq (by rw [h.len]; exact hk)]
    rfl
theorem OwnS.small {w : World} {lo hi : Nat} {p : Option Addr} {n c : Nat} {ss : List (List UInt8)} (h : OwnS w lo hi p n c ss) : n ≤ 9223372036854775807 := by
  rcases OwnV.form1 h with ⟨_, rfl, _⟩ | ⟨g, _, _, _, _, hc, hm⟩
  · omega
  · unfold maxLen at hm; omega
theorem OwnS.below {w w' : World} {lo hi : Nat} {p : Option Addr} {n c : Nat} {ss : List (List UInt8)} (h : OwnS w lo hi p n c ss) (hb : Below w.heap.size w w') : OwnS w' lo hi p n c ss := OwnV.belowV h hb
theorem OwnS.within {w w' : World} {lo hi lo' hi' : Nat} {p : Option Addr} {n c : Nat} {ss : List (List UInt8)} (h : OwnS w lo hi p n c ss) (hw : Within lo' hi' w w') (hd : hi ≤ lo' ∨ hi' ≤ lo) : OwnS w' lo hi p n c ss := OwnV.withinV h hw hd
theorem OwnS.widen {w : World} {lo hi lo' hi' : Nat} {p : Option Addr} {n c : Nat} {ss : List (List UInt8)} (h : OwnS w lo hi p n c ss) (hl : lo' ≤ lo) (hh : hi ≤ hi') : OwnS w lo' hi' p n c ss := OwnV.widenV h hl hh
theorem OwnS.cell {w : World} {lo hi g o : Nat} {n c : Nat} {ss : List (List UInt8)} (h : OwnS w lo hi (some ⟨g, o, none⟩) n c ss) {k : Nat} (hk : k < n) : w.cell? ⟨g, k, none⟩ = some (.string ⟨(nthS ss k).toArray⟩) := by
  rw [(OwnV.cellAt h hk).2, List.getElem?_map, List.getElem?_eq_getElem (by rw [h.len]; exact hk), nthS_eq (by rw [h.len]; exact hk)]
  rfl
theorem OwnS.set {w : World} {lo hi g : Nat} {n c : Nat} {ss : List (List UInt8)} (h : OwnS w lo hi (some ⟨g, 0, none⟩) n c ss) (k : Nat) (u : List UInt8) :
    OwnS (w.setCell ⟨g, k, none⟩ (.string ⟨u.toArray⟩)) lo hi (some ⟨g, 0, none⟩) n c (ss.set k u) := by
  unfold OwnS
  rw [List.map_set]
  exact OwnV.setV h k _
/-- The first k of ys, then what zs has from k on. -/
def mixT (ys zs : List (List UInt8)) (k : Nat) : List (List UInt8) := ys.take k ++ zs.drop k
theorem mixT_zero (ys zs : List (List UInt8)) : mixT ys zs 0 = zs := by simp [mixT]
theorem mixT_all {ys zs : List (List UInt8)} {k : Nat} (h : ys.length ≤ k) (h' : zs.length ≤ k) : mixT ys zs k = ys := by
  simp [mixT, List.take_of_length_le h, List.drop_eq_nil_of_le h']
theorem mixT_set {ys zs : List (List UInt8)} {k : Nat} (h : k < ys.length) (h' : k < zs.length) : (mixT ys zs k).set k (nthS ys k) = mixT ys zs (k + 1) := by
  unfold mixT
  rw [take_nthS h, List.set_append_right _ _ (by simp; omega)]
  have e : k - (ys.take k).length = 0 := by simp; omega
  rw [e, List.drop_eq_getElem_cons h', List.set_cons_zero]
  simp

theorem Try.infoStr : (Try.prog.info? 9).map (fun i => (i.zero, i.size, i.bytes)) = some (some (.string ByteArray.empty), 1, 16) := by kernel_rfl
theorem Try.infoByte : (Try.prog.info? 5).map (fun i => (i.zero, i.size, i.bytes)) = some (some (.int .u8 0), 1, 1) := by kernel_rfl

/-- What has been made new: a row of texts. -/
def NewStrs (w : World) (n : Nat) (ss : List (List UInt8)) (e : Ending) (w' : World) : Prop :=
  ∃ p c, e = .returned (.slice p n c) ∧ OwnS w' w.heap.size w'.heap.size p n c ss ∧ Below w.heap.size w w'
/-- What has been made new: a text. -/
def NewText (w : World) (l : List UInt8) (e : Ending) (w' : World) : Prop := e = .returned (.string ⟨l.toArray⟩) ∧ Below w.heap.size w w'

/-- A row of bytes of the call's own. -/
def OwnB (w : World) (lo hi : Nat) (p : Option Addr) (n c : Nat) (l : List UInt8) : Prop := OwnV w 5 1 lo hi p n c (l.map fun b => Value.int .u8 b.toNat)
theorem append_bytes {ops : Array Oper} {rest : List Oper} {o : Oper} {a : Act} {Q : Exit → Act → World → Prop} (hgd : o.guard = none) (s x : Operand)
    (ho : o.op = .call { callee := .builtin .append, args := #[s, x], argTypes := #[22, 9] }) (W : World) (lo hi : Nat) (p : Option Addr) (n c : Nat) (l : List UInt8)
    (hs : a.eval s = .slice p n c) (hown : OwnB W lo hi p n c l) (u : List UInt8) (hx : a.eval x = .string ⟨u.toArray⟩)
    (hn : n + u.length ≤ 140737488355328) (hlo : lo ≤ W.heap.size)
    (h : ∀ p' c' W', OwnB W' lo W'.heap.size p' (n + u.length) c' (l ++ u) → Below lo W W' → wpList Try.prog ops Q rest (a.put o.dst (.slice p' (n + u.length) c')) W') :
    wpList Try.prog ops Q (o :: rest) a W := by
  obtain ⟨i0, hi0, hz0, hz1, hz2⟩ := info_parts Try.infoByte
  have hu : (⟨u.toArray⟩ : ByteArray).size = u.length := by simp [ByteArray.size]
  refine Lib.wpList_append_own_string W hgd s x _ _ ho lo 5 i0 Try.underlying22 Try.underlying9 hi0 hz0 hz1 hz2 _ n _ hs hown.row ⟨u.toArray⟩ hx (by rw [hu]; unfold maxLen; omega) (by rw [hu]; exact hn) hlo fun v' w' h1 h2 _ => ?_
  rw [hu] at h1
  have hcs : (l.map fun b => Value.int .u8 b.toNat) ++ Lib.strCells ⟨u.toArray⟩ = (l ++ u).map fun b => Value.int .u8 b.toNat := by
    rw [List.map_append]; rfl
  rw [hcs] at h1
  have hb : Below lo W w' := (Below.refl _ _).grown h2 hlo fun k hk => (hown.row.lt k hk).1
  rcases h1.2 with ⟨hv, hn0⟩ | ⟨g, cap, cur, hv, _⟩
  · subst hv
    have := h none 0 w'
    rw [hn0] at this h1
    exact this ⟨h1, fun a ha => by cases ha⟩ hb
  · subst hv
    exact h _ _ w' ⟨h1, fun a ha => (h1.lt a.block (by rw [ha]; rfl)).2⟩ hb

end Go.Proofs.Ytpfklkmmhdpphac
