/- Contracts of both ClassLeader and both SameClass. Conditions: sizes. -/
import Derived.Test.YtbggcpkkjkggcaaLead
import Derived.Test.YtbggcpkkjkggcaaEqReg
namespace Go.Proofs.Ytbggcpkkjkggcaa
open Go.RowKit
set_option linter.unusedVariables false
set_option linter.unusedSimpArgs false
set_option maxRecDepth 100000

theorem elimA_inv {n c r : Nat} (h3 : n ≤ 3) (hc : c < r) (hr : r < n) : ∀ (k : Nat) (M : List (List Int)), (ent M r c).natAbs ≤ k → Inv n c M → ZC c r M → Inv n c (elimA c r M) ∧ ZC c (r + 1) (elimA c r M) := by
  intro k
  induction k with
  | zero =>
    intro M hk hI hz
    have h0 : ent M r c = 0 := by omega
    rw [elimA_done h0]
    exact ⟨hI, fun r' h1 h2 => by
      by_cases e : r' = r
      · subst e; exact h0
      · exact hz r' h1 (by omega)⟩
  | succ k ih =>
    intro M hk hI hz
    by_cases h0 : ent M r c = 0
    · rw [elimA_done h0]
      exact ⟨hI, fun r' h1 h2 => by
        by_cases e : r' = r
        · subst e; exact h0
        · exact hz r' h1 (by omega)⟩
    · rw [elimA_step hI.good (by omega) hr h0]
      have := stepH_less hI.good (show c < n by omega) hr h0
      exact ih _ (by omega) (hI.step h3 hc hr) (hz.step hI.good hc hr)

theorem elimsTo_inv {n c : Nat} (h3 : n ≤ 3) {M : List (List Int)} (hI : Inv n c M) : ∀ t, c + 1 + t ≤ n → Inv n c (elimsTo c M t) ∧ ZC c (c + 1 + t) (elimsTo c M t)
  | 0, _ => ⟨hI, fun r h1 h2 => by omega⟩
  | t + 1, h => by
    obtain ⟨h1, h2⟩ := elimsTo_inv h3 hI t (by omega)
    rw [elimsTo]
    exact elimA_inv h3 (by omega) (by omega) _ _ (Nat.le_refl _) h1 h2

theorem redTo_inv {n c : Nat} (h3 : n ≤ 3) (hc : c < n) {M : List (List Int)} (hI : Inv n c M) (hz : ZC c n M) : ∀ t, t ≤ c → Inv n c (redTo c M t) ∧ ZC c n (redTo c M t)
  | 0, _ => ⟨hI, hz⟩
  | t + 1, h => by
    obtain ⟨h1, h2⟩ := redTo_inv h3 hc hI hz t (by omega)
    exact ⟨h1.red h3 (by omega) hc, h2.red h1.good (by omega) hc⟩

theorem colH_inv {n c : Nat} (h3 : n ≤ 3) (hc : c < n) {M : List (List Int)} (hI : Inv n c M) : Inv n (c + 1) (colH n c M) := by
  obtain ⟨h1, h2⟩ := elimsTo_inv h3 hI (n - 1 - c) (by omega)
  rw [show c + 1 + (n - 1 - c) = n by omega] at h2
  have h4 : Inv n c (negIf c (elimsTo c M (n - 1 - c))) ∧ ZC c n (negIf c (elimsTo c M (n - 1 - c))) := by
    unfold negIf
    split
    · exact ⟨h1.neg h3 hc, h2.neg h1.good hc⟩
    · exact ⟨h1, h2⟩
  obtain ⟨h5, h6⟩ := redTo_inv h3 hc h4.1 h4.2 c (Nat.le_refl _)
  exact h5.next h6

theorem hermTo_inv {n : Nat} (h3 : n ≤ 3) {M : List (List Int)} (hI : Inv n 0 M) : ∀ c, c ≤ n → Inv n c (hermTo n M c)
  | 0, _ => hI
  | c + 1, h => colH_inv h3 (by omega) (hermTo_inv h3 hI c (by omega))

/-- What HermiteOf gives. -/
theorem hermV_form {n : Nat} {xss : List (List Int)} (hl : xss.length = n) (h : (hermV xss).2 = true) : n ≤ 3 ∧ Sq n (hermV xss).1 ∧ ∀ j, j < n → ent (hermV xss).1 j j ≠ 0 := by
  by_cases h0 : detV xss = 0
  · simp [hermV, h0] at h
  obtain ⟨h1, h3, hI⟩ := herm_start hl h0
  have hN := hermTo_inv h3 hI n (Nat.le_refl _)
  have hV : hermV xss = matIf (hermTo n xss n) := by simp [hermV, h0, hermW, hl]
  rw [hV] at h ⊢
  have he : (matIf (hermTo n xss n)).1 = hermTo n xss n := by
    unfold matIf at h ⊢
    split
    · rfl
    · rename_i hn; rw [if_neg hn] at h; cases h
  rw [he]
  exact ⟨h3, hN.good.sq, fun j hj => Inv.diag h3 (show Inv n j _ from ⟨hN.good, hN.det, fun c' r a b d => hN.zero c' r (by omega) b d⟩) (fun r a b => hN.zero j r hj a b) hj⟩

def leadV (xss : List (List Int)) (ys : List Int) : List Int × Bool :=
  if (hermV xss).2 = true ∧ isVec ys = true ∧ ys.length = xss.length then (leadTo (hermV xss).1 ys xss.length, true) else ([], false)
theorem leadV_len (xss : List (List Int)) (ys : List Int) : (leadV xss ys).1.length ≤ 3 := by
  unfold leadV
  split
  · rename_i h
    have := (hermV_form rfl h.1).1
    rw [leadTo_length]
    omega
  · simp

theorem implClassLeader_any (p q : Option Addr) (n c m d : Nat) (xss : List (List Int)) (ys : List Int) (w : World) (hn : n ≤ 1048576) (hm : m ≤ 1048576) (hx : Intss w p n xss) (hy : Ints w q m ys) :
    Calls Try.prog 18 #[.slice p n c, .slice q m d] w (NewIB w (leadV xss ys)) := by
  have hl := hx.len
  have hl2 := hy.len
  go_enter Try.func18, Try.ntmps18
  go_wp2_with fail
  refine (implHermiteOf_any _ _ _ _ _ hn hx).mono ?_
  rintro e w1 ⟨p1, n1, c1, rfl, ho1, hb1⟩
  cases h1 : (hermV xss).2
  · have HV := Lib.hid (show leadV xss ys = ([], false) by simp [leadV, h1])
    go_wp2_with fail
    go_ret2
    rw [HV.out]
    exact ⟨_, _, _, rfl, Own.nil _ _ _, hb1⟩
  · cases h2 : isVec ys
    · have HV := Lib.hid (show leadV xss ys = ([], false) by simp [leadV, h2])
      go_wp2_with fail
      refine (implIsVector_any _ _ _ _ _ (hy.below hb1) (by omega)).mono ?_
      rw [h2]
      rintro e w2 ⟨rfl, rfl⟩
      go_wp2_with fail
      go_ret2
      rw [HV.out]
      exact ⟨_, _, _, rfl, Own.nil _ _ _, hb1⟩
    · by_cases h4 : m = n
      · subst h4
        obtain ⟨h3, hsq, hdi⟩ := hermV_form hl h1
        have HV := Lib.hid (show leadV xss ys = (leadTo (hermV xss).1 ys m, true) by simp [leadV, h1, h2, hl, hl2])
        have hn1 : n1 = m := by rw [← ho1.len]; exact hsq.1
        subst hn1
        have HS := Lib.hid hsq
        have HD := Lib.hid hdi
        clear hsq hdi
        go_wp2_with fail
        refine (implIsVector_any _ _ _ _ _ (hy.below hb1) (by omega)).mono ?_
        rw [h2]
        rintro e w2 ⟨rfl, rfl⟩
        go_wp2_with fail
        refine (leader_any _ _ _ _ _ _ _ _ h3 ho1.rd (hy.below hb1) HS.out HD.out).mono ?_
        rintro e w3 ⟨p3, c3, rfl, ho3, hb3⟩
        go_wp2_with fail
        go_ret2
        rw [HV.out]
        exact ⟨_, _, _, rfl, ho3.widen hb1.size (Nat.le_refl _), Below.step hb1 hb3⟩
      · have hne : ((m : Int) != (n : Int)) = true := by simp; omega
        have hne2 : ((m : Int) == (n : Int)) = false := by simp; omega
        have HV := Lib.hid (show leadV xss ys = ([], false) by simp [leadV, hl, hl2, h4])
        go_wp2_with fail
        refine (implIsVector_any _ _ _ _ _ (hy.below hb1) (by omega)).mono ?_
        rw [h2]
        rintro e w2 ⟨rfl, rfl⟩
        go_wp2_with fail
        go_ret2
        rw [HV.out]
        exact ⟨_, _, _, rfl, Own.nil _ _ _, hb1⟩

theorem specClassLeader_any (p q : Option Addr) (n c m d : Nat) (xss : List (List Int)) (ys : List Int) (w : World) (hn : n ≤ 1048576) (hm : m ≤ 1048576) (hx : Intss w p n xss) (hy : Ints w q m ys) :
    Calls Try.prog 16 #[.slice p n c, .slice q m d] w (NewIB w (leadV xss ys)) := by
  have hl := hx.len
  have hl2 := hy.len
  go_enter Try.func16, Try.ntmps16
  go_wp2_with fail
  refine (specHermiteOf_any _ _ _ _ _ hn hx).mono ?_
  rintro e w1 ⟨p1, n1, c1, rfl, ho1, hb1⟩
  cases h1 : (hermV xss).2
  · have HV := Lib.hid (show leadV xss ys = ([], false) by simp [leadV, h1])
    go_wp2_with fail
    go_ret2
    rw [HV.out]
    exact NewIB.empty hb1
  · cases h2 : isVec ys
    · have HV := Lib.hid (show leadV xss ys = ([], false) by simp [leadV, h2])
      go_wp2_with fail
      refine (specIsVector_any _ _ _ _ _ (hy.below hb1) (by omega)).mono ?_
      rw [h2]
      rintro e w2 ⟨rfl, rfl⟩
      go_wp2_with fail
      go_ret2
      rw [HV.out]
      exact NewIB.empty hb1
    · by_cases h4 : m = n
      · subst h4
        obtain ⟨h3, hsq, hdi⟩ := hermV_form hl h1
        have HV := Lib.hid (show leadV xss ys = (leadTo (hermV xss).1 ys m, true) by simp [leadV, h1, h2, hl, hl2])
        have hn1 : n1 = m := by rw [← ho1.len]; exact hsq.1
        subst hn1
        have HS := Lib.hid hsq
        have HD := Lib.hid hdi
        clear hsq hdi
        go_wp2_with fail
        refine (specIsVector_any _ _ _ _ _ (hy.below hb1) (by omega)).mono ?_
        rw [h2]
        rintro e w2 ⟨rfl, rfl⟩
        go_wp2_with fail
        refine (l8Leader_any _ _ _ _ _ _ _ _ h3 ho1.rd (hy.below hb1) HS.out HD.out).mono ?_
        rintro e w3 ⟨p3, c3, rfl, ho3, hb3⟩
        go_wp2_with fail
        go_ret2
        rw [HV.out]
        exact ⟨_, _, _, rfl, ho3.widen hb1.size (Nat.le_refl _), Below.step hb1 hb3⟩
      · have hne : ((m : Int) != (n : Int)) = true := by simp; omega
        have hne2 : ((m : Int) == (n : Int)) = false := by simp; omega
        have HV := Lib.hid (show leadV xss ys = ([], false) by simp [leadV, hl, hl2, h4])
        go_wp2_with fail
        refine (specIsVector_any _ _ _ _ _ (hy.below hb1) (by omega)).mono ?_
        rw [h2]
        rintro e w2 ⟨rfl, rfl⟩
        go_wp2_with fail
        go_ret2
        rw [HV.out]
        exact NewIB.empty hb1

def sameV (xss : List (List Int)) (ys zs : List Int) : Bool := (leadV xss ys).2 && (leadV xss zs).2 && beqL (leadV xss ys).1 (leadV xss zs).1

theorem implSameClass_any (p q r : Option Addr) (n c m d k e : Nat) (xss : List (List Int)) (ys zs : List Int) (w : World) (hn : n ≤ 1048576) (hm : m ≤ 1048576) (hk : k ≤ 1048576) (hx : Intss w p n xss) (hy : Ints w q m ys) (hz : Ints w r k zs) :
    Calls Try.prog 23 #[.slice p n c, .slice q m d, .slice r k e] w (Ret (.bool (sameV xss ys zs)) w) := by
  have HV : Hid (sameV xss ys zs = ((leadV xss ys).2 && (leadV xss zs).2 && beqL (leadV xss ys).1 (leadV xss zs).1)) := rfl
  have L1 := leadV_len xss ys
  have L2 := leadV_len xss zs
  go_enter Try.func23, Try.ntmps23
  go_wp2_with fail
  refine (implClassLeader_any _ _ _ _ _ _ _ _ _ hn hm hx hy).mono ?_
  rintro e w1 ⟨p1, n1, c1, rfl, ho1, hb1⟩
  go_wp2_with fail
  refine (implClassLeader_any _ _ _ _ _ _ _ _ _ hn hk (hx.below hb1) (hz.below hb1)).mono ?_
  rintro e w2 ⟨p2, n2, c2, rfl, ho2, hb2⟩
  have hbw := Below.step hb1 hb2
  rw [ho1.ints.len] at L1
  rw [ho2.ints.len] at L2
  cases h1 : (leadV xss ys).2
  · go_wp2_with fail
    go_ret
    rw [HV.out, h1]
    exact ⟨rfl, hbw⟩
  · cases h2 : (leadV xss zs).2
    · go_wp2_with fail
      go_ret
      rw [HV.out, h1, h2]
      exact ⟨rfl, hbw⟩
    · go_wp2_with fail
      refine (slicesEqual_any _ _ _ _ _ _ _ _ _ (ho1.ints.below hb2) ho2.ints (by omega) (by omega)).mono ?_
      rintro e w3 ⟨rfl, z, rfl⟩
      go_wp2_with fail
      go_ret
      rw [HV.out, h1, h2]
      exact ⟨rfl, Below.drawn hbw z⟩

theorem specSameClass_any (p q r : Option Addr) (n c m d k e : Nat) (xss : List (List Int)) (ys zs : List Int) (w : World) (hn : n ≤ 1048576) (hm : m ≤ 1048576) (hk : k ≤ 1048576) (hx : Intss w p n xss) (hy : Ints w q m ys) (hz : Ints w r k zs) :
    Calls Try.prog 22 #[.slice p n c, .slice q m d, .slice r k e] w (Ret (.bool (sameV xss ys zs)) w) := by
  have HV : Hid (sameV xss ys zs = ((leadV xss ys).2 && (leadV xss zs).2 && beqL (leadV xss ys).1 (leadV xss zs).1)) := rfl
  have L1 := leadV_len xss ys
  have L2 := leadV_len xss zs
  go_enter Try.func22, Try.ntmps22
  go_wp2_with fail
  refine (specClassLeader_any _ _ _ _ _ _ _ _ _ hn hm hx hy).mono ?_
  rintro e w1 ⟨p1, n1, c1, rfl, ho1, hb1⟩
  go_wp2_with fail
  refine (specClassLeader_any _ _ _ _ _ _ _ _ _ hn hk (hx.below hb1) (hz.below hb1)).mono ?_
  rintro e w2 ⟨p2, n2, c2, rfl, ho2, hb2⟩
  have hbw := Below.step hb1 hb2
  rw [ho1.ints.len] at L1
  rw [ho2.ints.len] at L2
  cases h1 : (leadV xss ys).2
  · go_wp2_with fail
    go_ret
    rw [HV.out, h1]
    exact ⟨rfl, hbw⟩
  · cases h2 : (leadV xss zs).2
    · go_wp2_with fail
      go_ret
      rw [HV.out, h1, h2]
      exact ⟨rfl, hbw⟩
    · go_wp2_with fail
      refine (l2Same_any _ _ _ _ _ _ _ _ _ (ho1.ints.below hb2) ho2.ints (by omega) (by omega)).mono ?_
      rintro e w3 ⟨rfl, z, rfl⟩
      go_wp2_with fail
      go_ret
      rw [HV.out, h1, h2]
      exact ⟨rfl, Below.drawn hbw z⟩

end Go.Proofs.Ytbggcpkkjkggcaa
