/- Contracts of the program's functions on texts that call the library: FormatInt, ParseInt, SplitByte, Join. Conditions: the library's variables hold what their initialisers lay; sizes. -/
import Derived.Test.YteamihmolpaoeaaGreatDoorStrFns
import Derived.Test.YteamihmolpaoeaaGreatDoorShelf
import Derived.Lib.SmallJoins
import Derived.Lib.AtoiAllCases
namespace Go.Proofs.YteamihmolpaoeaaGreatDoor
open Go.RowKit
set_option linter.unusedVariables false
set_option linter.unusedSimpArgs false
set_option maxRecDepth 100000

/-- The library's table of powers of ten. -/
def TabW (w : World) : Prop := Lib.TabIs Tryz.prog w "internal/strconv.uint64pow10" .u64 Lib.pow10Tab
/-- The library's two errors. -/
def ErrW (w : World) : Prop := (∃ tp q, w.var? Tryz.prog "strconv.ErrSyntax" = some #[.iface tp q]) ∧ ∃ tp q, w.var? Tryz.prog "strconv.ErrRange" = some #[.iface tp q]
/-- A number of the library's. -/
def MaxW (w : World) : Prop := ∃ m, w.cell? ⟨2, 0, none⟩ = some (.int .i64 m)
theorem Tryz.gTab : Tryz.prog.globalNamed "internal/strconv.uint64pow10" = some 5 := by kernel_rfl
theorem Tryz.gES : Tryz.prog.globalNamed "strconv.ErrSyntax" = some 0 := by kernel_rfl
theorem Tryz.gER : Tryz.prog.globalNamed "strconv.ErrRange" = some 1 := by kernel_rfl
theorem TabW.below {w w' : World} (h : TabW w) (hb : Below w.heap.size w w') : TabW w' := Joins.var_stays Tryz.gTab h hb (Nat.le_refl _)
theorem ErrW.below {w w' : World} (h : ErrW w) (hb : Below w.heap.size w w') : ErrW w' := by
  obtain ⟨⟨t1, q1, h1⟩, t2, q2, h2⟩ := h
  exact ⟨⟨t1, q1, Joins.var_stays Tryz.gES h1 hb (Nat.le_refl _)⟩, t2, q2, Joins.var_stays Tryz.gER h2 hb (Nat.le_refl _)⟩
theorem MaxW.below {w w' : World} (h : MaxW w) (hb : Below w.heap.size w w') : MaxW w' := by
  obtain ⟨m, h⟩ := h
  exact ⟨m, (hb.cell (World.block_lt_of_cell? w _ h)).trans h⟩
theorem belowGrow (w : World) (k : Nat) (os : Array Obj) : Below w.heap.size w (Sort.grow (w.drewN k) os) :=
  ⟨rfl, rfl, rfl, by simp [Sort.grow, World.drewN], fun j hj => by simp [Sort.grow, World.drewN, Array.getElem?_append, hj]⟩

theorem implFormat_any (n : Int) (w : World) (h0 : -9223372036854775808 ≤ n) (h1 : n ≤ 9223372036854775807) (ht : TabW w) :
    Calls Tryz.prog 65 #[.int .i64 n] w (NewText w (Lib.itoa n)) := by
  go_enter Tryz.func65, Tryz.ntmps65
  go_wp2_with fail
  refine (Tryz.strconv_Itoa n h0 h1 _ ht).mono ?_
  rintro e w1 ⟨rfl, k, os, rfl⟩
  have hb := belowGrow w k os
  generalize Sort.grow (w.drewN k) os = w1 at *
  go_wp2_with fail
  go_ret
  exact ⟨rfl, hb⟩

theorem implJoin_any (p : Option Addr) (n c : Nat) (ss : List (List UInt8)) (sep : List UInt8) (w : World) (hx : Strs w p n ss) (hc : n ≤ c) (hn : n ≤ 1048576) (ht : totS ss ≤ 33554432) (hs : sep.length ≤ 1048576) :
    Calls Tryz.prog 69 #[.slice p n c, .string ⟨sep.toArray⟩] w (NewText w (Lib.join ss sep)) := by
  have hl := hx.len
  by_cases hz : n = 0
  · subst hz
    obtain rfl : ss = [] := List.length_eq_zero_iff.1 hl
    go_enter Tryz.func69, Tryz.ntmps69
    go_wp2_with fail
    refine (Tryz.strings_Join_none _ _ _ _).mono ?_
    rintro e w1 ⟨rfl, rfl⟩
    go_wp2_with fail
    go_ret
    exact ⟨rfl, Below.refl _ _⟩
  · obtain ⟨b, o, rfl, hc0⟩ := hx.cell 0 (by omega)
    have hlen : (Lib.join ss sep).length ≤ 1200000000000 := by
      have h1 := joinTo_length ss sep ss.length (Nat.le_refl _)
      rw [joinTo_eq ss sep _ (Nat.le_refl _), List.take_length] at h1
      have h3 : ss.length * sep.length ≤ 1048576 * 1048576 := Nat.mul_le_mul (by omega) hs
      omega
    have hmap : (ss.map fun l => (⟨l.toArray⟩ : ByteArray)).map (·.data.toList) = ss := by
      rw [List.map_map]
      conv => rhs; rw [← List.map_id ss]
      exact List.map_congr_left fun a _ => by simp
    have hml : (ss.map fun l => (⟨l.toArray⟩ : ByteArray)).length = n := by simpa using hl
    have con := Tryz.strings_Join b o c (ss.map fun l => (⟨l.toArray⟩ : ByteArray)) ⟨sep.toArray⟩ w (fun j x hj => by
        rw [List.getElem?_map, Option.map_eq_some_iff] at hj
        obtain ⟨y, hy, rfl⟩ := hj
        have hjl : j < ss.length := (List.getElem?_eq_some_iff.1 hy).1
        obtain ⟨b', o', e', hc'⟩ := hx.cell j (by omega)
        injection e' with e'
        injection e' with e1 e2
        subst e1; subst e2
        rw [hc', nthS_eq hjl]
        rw [List.getElem?_eq_getElem hjl] at hy
        injection hy with hy
        rw [hy]) (World.block_lt_of_cell? w _ hc0) (by rw [hml]; omega) (by rw [hml]; exact hc) (by rw [hmap]; simp only; omega)
    rw [hmap, hml] at con
    have Con := Lib.hid con
    clear con hmap hml hlen hl
    go_enter Tryz.func69, Tryz.ntmps69
    go_wp2_with fail
    refine Con.out.mono ?_
    rintro e w1 ⟨rfl, hb⟩
    go_wp2_with fail
    go_ret
    exact ⟨rfl, hb⟩

/-- A pair of results: a number and whether it is one. -/
def RetNB (w : World) (r : Int × Bool) (e : Ending) (w' : World) : Prop := e = .returned (.tuple #[.int .i64 r.1, .bool r.2]) ∧ Below w.heap.size w w'

theorem parse_none {k : Int} {l : List UInt8} (hk : k ≤ 9223372036854775807) (h : ∀ v, Lib.atoiAll l ≠ .ok v) : parseW k l = (0, false) :=
  parseW_no fun n hn hb => h n (by rw [← hn]; exact atoi_itoa (by omega) (by omega))
theorem parse_off {k : Int} {l : List UInt8} {v : Int} (h : Lib.atoiAll l = .ok v) (hk : k ≤ 9223372036854775807) (hv : Lib.itoa v ≠ l ∨ inR v (-k) k = false) : parseW k l = (0, false) :=
  parseW_no fun n hn hb => by
    have h1 := atoi_itoa (n := n) (by omega) (by omega)
    rw [hn, h] at h1
    injection h1 with h1
    subst h1
    rcases hv with hv | hv
    · exact hv hn
    · have := inR_false hv; omega
theorem retNB {w w' : World} {r : Int × Bool} {n : Int} {b : Bool} (h : r = (n, b)) (hb : Below w.heap.size w w') : RetNB w r (.returned (.tuple #[.int .i64 n, .bool b])) w' := ⟨by rw [h], hb⟩
theorem ret_nb {a b : Int × Bool} (h : a = b) : Ending.returned (.tuple #[.int .i64 a.1, .bool a.2]) = .returned (.tuple #[.int .i64 b.1, .bool b.2]) := by rw [h]

theorem notOk {l : List UInt8} (h : ∀ v, Lib.atoiAll l ≠ .ok v) : Lib.atoiAll l = Lib.NumEnd.syntax ∨ Lib.atoiAll l = .range := by
  revert h
  generalize Lib.atoiAll l = x
  intro h
  cases x
  · exact absurd rfl (h _)
  · exact .inl rfl
  · exact .inr rfl

theorem implParseInt_any (l : List UInt8) (w : World) (hl : l.length ≤ 1048576) (ht : TabW w) (he : ErrW w) :
    Calls Tryz.prog 48 #[.string ⟨l.toArray⟩] w (RetNB w (parseW 999999999999 l)) := by
  have hsz : (⟨l.toArray⟩ : ByteArray).size = l.length := by simp [ByteArray.size]
  have hdl : (⟨l.toArray⟩ : ByteArray).data.toList = l := by simp
  by_cases hok : ∃ v, Lib.atoiAll l = .ok v
  · obtain ⟨v, hA⟩ := hok
    have hbd := Lib.atoiAll_bounds hA
    obtain ⟨hb0, hb1'⟩ := hbd
    have con := Tryz.strconv_Atoi_ok ⟨l.toArray⟩ (by rw [hsz]; omega) v (by rw [hdl]; exact hA) w
    have Con := Lib.hid con
    have HA := Lib.hid hA
    clear con hA hsz hdl
    cases hr : inR v (-999999999999) 999999999999
    all_goals
      by_cases hi : Lib.itoa v = l
      all_goals
        first
          | (have hq : (Lib.itoa v == l) = true := by rw [hi]; exact beq_self_eq_true l)
          | (have hq : (Lib.itoa v == l) = false := by simpa using hi)
        first
          | (have hp : parseW 999999999999 l = (0, false) := parse_off HA.out (by omega) (.inl hi))
          | (have hp : parseW 999999999999 l = (0, false) := parse_off HA.out (by omega) (.inr hr))
          | (have hp : parseW 999999999999 l = (v, true) := parseW_yes hi (inR_true hr).1 (inR_true hr).2)
        have HP := Lib.hid hp
        clear hp hi
        generalize hL : Lib.itoa v = L at *
        have HL := Lib.hid hL
        clear hL
        go_enter Tryz.func48, Tryz.ntmps48
        go_wp2_with fail
        refine Con.out.mono ?_
        rintro e w1 ⟨rfl, hw1⟩
        have hb1 : Below w.heap.size w w1 := by
          rcases hw1 with rfl | ⟨t, rfl⟩
          · exact Below.refl _ _
          · exact Lib.bytesWorld_below _ _ _
        clear hw1
        go_wp2_with fail
        refine (implFormat_any _ _ hb0 hb1' (ht.below hb1)).mono ?_
        rw [HL.out]
        rintro e w2 ⟨rfl, hb2⟩
        have hb3 := Below.step hb1 hb2
        go_wp2_with (go_at_call 42; (with_reducible refine (within_any _ _ _ _).mono ?_); rintro e w' ⟨rfl, rfl⟩)
        go_ret2
        exact retNB HP.out hb3
  · have hno : ∀ v, Lib.atoiAll l ≠ .ok v := fun v h => hok ⟨v, h⟩
    have HP := Lib.hid (parse_none (k := 999999999999) (l := l) (by omega) hno)
    rcases notOk hno with hA | hA
    · obtain ⟨⟨tp, q, hv⟩, _⟩ := he
      have con := Tryz.strconv_Atoi_syntax_var ⟨l.toArray⟩ (by rw [hsz]; omega) (by rw [hdl]; exact hA) tp q w hv
      have Con := Lib.hid con
      clear con hA hsz hdl hv hno hok
      go_enter Tryz.func48, Tryz.ntmps48
      go_wp2_with fail
      refine Con.out.mono ?_
      rintro e w1 ⟨N, rfl, _, _, hb⟩
      go_wp2_with fail
      go_ret2
      exact retNB HP.out hb
    · obtain ⟨_, tp, q, hv⟩ := he
      have con := Tryz.strconv_Atoi_range_var ⟨l.toArray⟩ (by rw [hsz]; omega) (by rw [hdl]; exact hA) tp q w hv
      have Con := Lib.hid con
      clear con hA hsz hdl hv hno hok
      go_enter Tryz.func48, Tryz.ntmps48
      go_wp2_with fail
      refine Con.out.mono ?_
      rintro e w1 ⟨N, rfl, _, _, hb⟩
      go_wp2_with fail
      go_ret2
      exact retNB HP.out hb

end Go.Proofs.YteamihmolpaoeaaGreatDoor
