/- The program's IsPolygon: what it computes. Conditions: sizes. -/
import Derived.Test.YthdonnkekggbbaaGreatDoorJnSame
import Derived.Lib.QuietBelow
namespace Go.Proofs.YthdonnkekggbbaaGreatDoor
open Go.RowKit
set_option linter.unusedVariables false
set_option linter.unusedSimpArgs false
set_option maxRecDepth 100000

/-- What the program asks at corner k. -/
def GoodP (p : List (List Int)) (k : Nat) : Prop :=
  0 < turnZ (nthR p k) (nthR p ((k + 1) % p.length)) (nthR p ((k + 2) % p.length)) ∧ (0 < k → cmpL (nthR p 0) (nthR p k) < 0) ∧ (0 < k → k + 1 < p.length → 0 < turnZ (nthR p 0) (nthR p k) (nthR p (k + 1)))
def Poly (p : List (List Int)) : Prop := 3 ≤ p.length ∧ p.length ≤ 12 ∧ (∀ k, k < p.length → isPt 50 (nthR p k) = true) ∧ ∀ k, k < p.length → GoodP p k
open Classical in
noncomputable def polyB (p : List (List Int)) : Bool := decide (Poly p)
theorem polyB_no {p : List (List Int)} (h : ¬ Poly p) : polyB p = false := by unfold polyB; simpa using h
theorem polyB_yes {p : List (List Int)} (h : Poly p) : polyB p = true := by unfold polyB; simpa using h
theorem polyB_iff {p : List (List Int)} : polyB p = true ↔ Poly p := by unfold polyB; simp

/-- What a row that came in reads as, in each world above. -/
theorem Intss.row2 {w : World} {p : Option Addr} {n : Nat} {xss : List (List Int)} (h : Intss w p n xss) {b o k : Nat} (hp : p = some ⟨b, o, none⟩) (hk : k < n) (h2 : (nthR xss k).length = 2) :
    ∃ q d, w.cell? ⟨b, o + k, none⟩ = some (.slice q 2 d) ∧ b < w.heap.size ∧ Ints w q 2 (nthR xss k) := by
  obtain ⟨b', o', q, m, d, hp', hc, _, hi⟩ := h.cell k hk
  rw [hp] at hp'
  injection hp' with hp'; injection hp' with e1 e2
  subst e1; subst e2
  have : m = 2 := by rw [← hi.len, h2]
  subst this
  exact ⟨q, d, hc, World.block_lt_of_cell? w _ hc, hi⟩

set_option maxHeartbeats 40000000 in
theorem implIsPolygon_any (p : Option Addr) (n c : Nat) (xss : List (List Int)) (w : World) (hn : n ≤ 9223372036854775807) (hx : Intss w p n xss) :
    Calls Tryz.prog 24 #[.slice p n c] w fun e w' => e = .returned (.bool (polyB xss)) ∧ Below w.heap.size w w' := by
  have hl := Lib.hid hx.len
  cases hr : inR (n : Int) 3 12
  · have HP := Lib.hid (polyB_no (p := xss) fun h => by have := inR_false hr; have h1 := h.1; have h2 := h.2.1; rw [hl.out] at h1 h2; omega)
    go_enter Tryz.func24, Tryz.ntmps24
    go_wp2_with (go_at_call 63; (with_reducible refine (within_any _ _ _ _).mono ?_); rintro e w' ⟨rfl, rfl⟩)
    go_ret
    exact ⟨ret_bool HP.out.symm, Below.refl _ _⟩
  · have hr2 := inR_true hr
    obtain ⟨r1, r2⟩ := hr2
    have n3 : 3 ≤ n := by omega
    have n12 : n ≤ 12 := by omega
    go_enter Tryz.func24, Tryz.ntmps24
    go_wp2_with (go_at_call 63; (with_reducible refine (within_any _ _ _ _).mono ?_); rintro e w' ⟨rfl, rfl⟩)
    go_loop [14] (fun i => ∃ k : Nat, k ≤ n ∧ i = .int .i64 k ∧ Hid (∀ j, j < k → isPt 50 (nthR xss j) = true)) (fun i => n - (intOf i).toNat)
    case atStart => exact ⟨0, Nat.zero_le _, rfl, fun j hj => by omega⟩
    case round =>
      obtain ⟨k, hk, rfl, hall⟩ := hrel
      by_cases hlt : k < n
      · obtain ⟨b, o, q, m, d, rfl, hc, hm, hi⟩ := hx.cell k hlt
        cases hp : isPt 50 (nthR xss k)
        · have HP := Lib.hid (polyB_no (p := xss) fun h => by have := h.2.2.1 k (by rw [hl.out]; exact hlt); rw [hp] at this; cases this)
          go_wp2_with (go_at_call 36; (with_reducible refine (isPoint_any _ _ _ _ _ _ hm hi (by omega) (by omega)).mono ?_); rintro e w' ⟨rfl, rfl⟩)
          go_ret
          exact ⟨ret_bool HP.out.symm, Below.refl _ _⟩
        · go_wp2_with (go_at_call 36; (with_reducible refine (isPoint_any _ _ _ _ _ _ hm hi (by omega) (by omega)).mono ?_); rintro e w' ⟨rfl, rfl⟩)
          go_round
          case rel =>
            refine ⟨k + 1, by omega, by go_num, fun j hj => ?_⟩
            by_cases hjk : j < k
            · exact hall.out j hjk
            · obtain rfl : j = k := by omega
              exact hp
          case measure => simp [intOf]; omega
      · obtain rfl : k = n := by omega
        obtain ⟨b, o, _, _, _, rfl, _, _, _⟩ := hx.cell 0 (by omega)
        go_wp2
        go_loopw [26] (fun i wr => ∃ j : Nat, j ≤ k ∧ i = .int .i64 j ∧ Hid (∀ t, t < j → GoodP xss t) ∧ Below w.heap.size w wr) (fun i _ => k - (intOf i).toNat)
        case atStart => exact ⟨0, Nat.zero_le _, rfl, fun j hj => by omega, Below.refl _ _⟩
        case round =>
          obtain ⟨j, hj, rfl, hgood, hT⟩ := hrel
          by_cases hlt2 : j < k
          · generalize wr = W at *
            have hall' := fun t ht => isPt_in (hall.out t ht)
            -- the rows
            obtain ⟨k1, hk1⟩ : ∃ k1, k1 = (j + 1) % k := ⟨_, rfl⟩
            obtain ⟨k2, hk2⟩ : ∃ k2, k2 = (j + 2) % k := ⟨_, rfl⟩
            have hk1l : k1 < k := by rw [hk1]; exact Nat.mod_lt _ (by omega)
            have hk2l : k2 < k := by rw [hk2]; exact Nat.mod_lt _ (by omega)
            obtain ⟨qa, da, ca, hbl, ia⟩ := hx.row2 rfl hlt2 (hall' j hlt2).len
            obtain ⟨q1, d1, c1, _, i1⟩ := hx.row2 rfl hk1l (hall' k1 hk1l).len
            obtain ⟨q2, d2, c2, _, i2⟩ := hx.row2 rfl hk2l (hall' k2 hk2l).len
            obtain ⟨q0, d0, c0, _, i0⟩ := hx.row2 rfl (show 0 < k by omega) (hall' 0 (by omega)).len
            have ba := (hall' j hlt2).wide (m' := 1000) (by omega)
            have b1 := (hall' k1 hk1l).wide (m' := 1000) (by omega)
            have b2 := (hall' k2 hk2l).wide (m' := 1000) (by omega)
            have b0 := (hall' 0 (by omega)).wide (m' := 1000) (by omega)
            rw [Nat.add_zero] at c0
            have gd : GoodP xss j = (0 < turnZ (nthR xss j) (nthR xss k1) (nthR xss k2) ∧ (0 < j → cmpL (nthR xss 0) (nthR xss j) < 0) ∧ (0 < j → j + 1 < k → 0 < turnZ (nthR xss 0) (nthR xss j) (nthR xss (j + 1)))) := by
              unfold GoodP; rw [hl.out, ← hk1, ← hk2]
            have Gd := Lib.hid gd
            clear gd
            have C1 : Hid (∀ V, Below w.heap.size w V → Calls Tryz.prog 40 #[.slice qa 2 da, .slice q1 2 d1, .slice q2 2 d2] V fun e w' => e = .returned (.int .i64 (turnZ (nthR xss j) (nthR xss k1) (nthR xss k2))) ∧ Below V.heap.size V w') :=
              Lib.hid fun V hV => turn_any _ _ _ _ _ _ _ _ _ V (ia.below hV) (i1.below hV) (i2.below hV) ba b1 b2
            have C2 : Hid (∀ V, Below w.heap.size w V → Calls Tryz.prog 39 #[.slice q0 2 d0, .slice qa 2 da] V fun e w' => e = .returned (.int .i64 (cmpL (nthR xss 0) (nthR xss j))) ∧ V = w') :=
              Lib.hid fun V hV => slicesCompare_any _ _ _ _ _ _ _ V (by omega) (i0.below hV) (ia.below hV)
            have ea := cell_regrown ((hT.cell hbl).trans ca)
            have ec1 := cell_regrown ((hT.cell hbl).trans c1)
            have ec2 := cell_regrown ((hT.cell hbl).trans c2)
            have ec0 := cell_regrown ((hT.cell hbl).trans c0)
            have ea0 := (hT.cell hbl).trans ca
            have K1 : Hid (∀ d os, Calls Tryz.prog 40 #[.slice qa 2 da, .slice q1 2 d1, .slice q2 2 d2] (Sort.grow (redrawn W d) os) fun e w' => e = .returned (.int .i64 (turnZ (nthR xss j) (nthR xss k1) (nthR xss k2))) ∧ ∃ p : Regrown, w' = Sort.grow (redrawn W p.d) p.os) :=
              Lib.hid fun d os => Calls.regrown_of (C1.out _ (Below.step hT (below_regrown W d os)))
            have K2 : Hid (∀ d os, Calls Tryz.prog 39 #[.slice q0 2 d0, .slice qa 2 da] (Sort.grow (redrawn W d) os) fun e w' => e = .returned (.int .i64 (cmpL (nthR xss 0) (nthR xss j))) ∧ ∃ p : Regrown, w' = Sort.grow (redrawn W p.d) p.os) :=
              Lib.hid fun d os => Calls.regrown_of ((C2.out _ (Below.step hT (below_regrown W d os))).mono fun e w' ⟨h1, h2⟩ => ⟨h1, h2 ▸ Below.refl _ _⟩)
            have hm1 : IntKind.i64.wrap ((j : Int) + 1) = (j : Int) + 1 := by rw [wrapEq]; exact wrap64_id (by omega) (by omega)
            have hm2 : IntKind.i64.wrap ((j : Int) + 2) = (j : Int) + 2 := by rw [wrapEq]; exact wrap64_id (by omega) (by omega)
            have hm3 : ((j : Int) + 1).tmod (k : Int) = (k1 : Int) := by rw [hk1]; exact (Int.ofNat_tmod (j + 1) k).symm
            have hm4 : ((j : Int) + 2).tmod (k : Int) = (k2 : Int) := by rw [hk2]; exact (Int.ofNat_tmod (j + 2) k).symm
            have hm5 : ((j : Int) + 1) % (k : Int) = (k1 : Int) := by rw [hk1]; exact (Int.natCast_emod (j + 1) k).symm
            have hm6 : ((j : Int) + 2) % (k : Int) = (k2 : Int) := by rw [hk2]; exact (Int.natCast_emod (j + 2) k).symm
            have hz1 : (0 : Int) ≤ (k1 : Int) := by omega
            have hz2 : (0 : Int) ≤ (k2 : Int) := by omega
            have hz3 : (k1 : Int) < (k : Int) := by omega
            have hz4 : (k2 : Int) < (k : Int) := by omega
            have hk0 : ¬ ((k : Int) = 0) := by omega
            have hk0' : ((k : Int) == 0) = false := by simpa using hk0
            have hk0n : ¬ (k = 0) := by omega
            have hm7 : IntKind.i64.wrap (k1 : Int) = (k1 : Int) := by rw [wrapEq]; exact wrap64_id (by omega) (by omega)
            have hm8 : IntKind.i64.wrap (k2 : Int) = (k2 : Int) := by rw [wrapEq]; exact wrap64_id (by omega) (by omega)
            have hTd := hT.drew
            clear hk1 hk2
            generalize turnZ (nthR xss j) (nthR xss k1) (nthR xss k2) = T1 at *
            have sm1 : IntKind.i64.wrap ((k : Int) - 1) = (k : Int) - 1 := by rw [wrapEq]; exact wrap64_id (by omega) (by omega)
            by_cases t1 : T1 ≤ 0
            · have HP := Lib.hid (polyB_no (p := xss) fun h => by have := h.2.2.2 j (by rw [hl.out]; exact hlt2); rw [Gd.out] at this; omega)
              clear hall' ia i1 i2 i0 ba b1 b2 b0 C1 C2
              go_wp2
              refine wp_region_quiet_below (by kernel_rfl) (by kernel_rfl) ?_
              repeat (go_big_quiet_step (first | with_reducible exact K1.out _ _ | with_reducible exact K2.out _ _))
              refine wpQuiet_nil ?_
              intro _ hw'
              obtain ⟨⟨dq, osq⟩, hw''⟩ := hw'
              subst hw''
              go_wp2
              go_ret
              exact ⟨ret_bool HP.out.symm, Below.step hT (below_regrown W dq osq)⟩
            · have t1' : 0 < T1 := by omega
              have hd1 : decide (T1 ≤ 0) = false := by simpa using t1'
              by_cases j0 : j = 0
              · have jnd : decide (0 < j) = false := by simpa using j0
                have jne : decide ((0 : Int) < (j : Int)) = false := by simpa using j0
                have HG : Hid (GoodP xss j) := Lib.hid (by rw [Gd.out]; exact ⟨t1', fun h => by omega, fun h => by omega⟩)
                clear j0
                clear hall' ia i1 i2 i0 ba b1 b2 b0 C1 C2
                go_wp2
                refine wp_region_quiet_below (by kernel_rfl) (by kernel_rfl) ?_
                repeat (go_big_quiet_step (first | with_reducible exact K1.out _ _ | with_reducible exact K2.out _ _))
                refine wpQuiet_nil ?_
                intro _ hw'
                obtain ⟨⟨dq, osq⟩, hw''⟩ := hw'
                subst hw''
                go_wp2
                go_roundw
                case rel =>
                  refine ⟨j + 1, by omega, by go_num, fun t ht => ?_, Below.step hT (below_regrown W dq osq)⟩
                  by_cases htj : t < j
                  · exact hgood.out t htj
                  · obtain rfl : t = j := by omega
                    exact HG.out
                case measure => simp [intOf]; omega
              · have jp : 0 < j := by omega
                have jp' : (0 : Int) < (j : Int) := by omega
                generalize hC0 : cmpL (nthR xss 0) (nthR xss j) = C0 at *
                have HC0 := Lib.hid hC0
                clear hC0
                by_cases cc : 0 ≤ C0
                · have HP := Lib.hid (polyB_no (p := xss) fun h => by have := h.2.2.2 j (by rw [hl.out]; exact hlt2); rw [Gd.out] at this; have := this.2.1 jp; omega)
                  clear hall' ia i1 i2 i0 ba b1 b2 b0 C1 C2
                  go_wp2
                  refine wp_region_quiet_below (by kernel_rfl) (by kernel_rfl) ?_
                  repeat (go_big_quiet_step (first | with_reducible exact K1.out _ _ | with_reducible exact K2.out _ _))
                  refine wpQuiet_nil ?_
                  intro _ hw'
                  obtain ⟨⟨dq, osq⟩, hw''⟩ := hw'
                  subst hw''
                  go_wp2
                  go_ret
                  exact ⟨ret_bool HP.out.symm, Below.step hT (below_regrown W dq osq)⟩
                · have cc' : C0 < 0 := by omega
                  have hd2 : decide (0 ≤ C0) = false := by simpa using cc'
                  by_cases jl : j + 1 < k
                  · have jl' : (j : Int) < (k : Int) - 1 := by omega
                    obtain ⟨q3, d3, c3, _, i3⟩ := hx.row2 rfl jl (hall' (j + 1) jl).len
                    have b3 := (hall' (j + 1) jl).wide (m' := 1000) (by omega)
                    have ec3 := cell_regrown ((hT.cell hbl).trans c3)
                    have K3 : Hid (∀ d os, Calls Tryz.prog 40 #[.slice q0 2 d0, .slice qa 2 da, .slice q3 2 d3] (Sort.grow (redrawn W d) os) fun e w' => e = .returned (.int .i64 (turnZ (nthR xss 0) (nthR xss j) (nthR xss (j + 1)))) ∧ ∃ p : Regrown, w' = Sort.grow (redrawn W p.d) p.os) :=
                      Lib.hid fun d os => Calls.regrown_of (turn_any _ _ _ _ _ _ _ _ _ _ (i0.below (Below.step hT (below_regrown W d os))) (ia.below (Below.step hT (below_regrown W d os))) (i3.below (Below.step hT (below_regrown W d os))) b0 ba b3)
                    generalize turnZ (nthR xss 0) (nthR xss j) (nthR xss (j + 1)) = T2 at *
                    by_cases t2 : T2 ≤ 0
                    · have HP := Lib.hid (polyB_no (p := xss) fun h => by have := h.2.2.2 j (by rw [hl.out]; exact hlt2); rw [Gd.out] at this; have := this.2.2 jp jl; omega)
                      clear hall' ia i1 i2 i0 i3 ba b1 b2 b0 b3 C1 C2
                      go_wp2
                      refine wp_region_quiet_below (by kernel_rfl) (by kernel_rfl) ?_
                      repeat (go_big_quiet_step (first | with_reducible exact K1.out _ _ | with_reducible exact K2.out _ _ | with_reducible exact K3.out _ _))
                      refine wpQuiet_nil ?_
                      intro _ hw'
                      obtain ⟨⟨dq, osq⟩, hw''⟩ := hw'
                      subst hw''
                      go_wp2
                      go_ret
                      exact ⟨ret_bool HP.out.symm, Below.step hT (below_regrown W dq osq)⟩
                    · have t2' : 0 < T2 := by omega
                      have hd3 : decide (T2 ≤ 0) = false := by simpa using t2'
                      have HG : Hid (GoodP xss j) := Lib.hid (by rw [Gd.out]; exact ⟨t1', fun _ => by omega, fun _ _ => t2'⟩)
                      clear hall' ia i1 i2 i0 i3 ba b1 b2 b0 b3 C1 C2
                      go_wp2
                      refine wp_region_quiet_below (by kernel_rfl) (by kernel_rfl) ?_
                      repeat (go_big_quiet_step (first | with_reducible exact K1.out _ _ | with_reducible exact K2.out _ _ | with_reducible exact K3.out _ _))
                      refine wpQuiet_nil ?_
                      intro _ hw'
                      obtain ⟨⟨dq, osq⟩, hw''⟩ := hw'
                      subst hw''
                      go_wp2
                      go_roundw
                      case rel =>
                        refine ⟨j + 1, by omega, by go_num, fun t ht => ?_, Below.step hT (below_regrown W dq osq)⟩
                        by_cases htj : t < j
                        · exact hgood.out t htj
                        · obtain rfl : t = j := by omega
                          exact HG.out
                      case measure => simp [intOf]; omega
                  · have jl' : ¬ (j : Int) < (k : Int) - 1 := by omega
                    have hd4 : decide ((j : Int) < (k : Int) - 1) = false := by simpa using jl'
                    have HG : Hid (GoodP xss j) := Lib.hid (by rw [Gd.out]; exact ⟨t1', fun _ => by omega, fun _ h => by omega⟩)
                    clear hall' ia i1 i2 i0 ba b1 b2 b0 C1 C2
                    go_wp2
                    refine wp_region_quiet_below (by kernel_rfl) (by kernel_rfl) ?_
                    repeat (go_big_quiet_step (first | with_reducible exact K1.out _ _ | with_reducible exact K2.out _ _))
                    refine wpQuiet_nil ?_
                    intro _ hw'
                    obtain ⟨⟨dq, osq⟩, hw''⟩ := hw'
                    subst hw''
                    go_wp2
                    go_roundw
                    case rel =>
                      refine ⟨j + 1, by omega, by go_num, fun t ht => ?_, Below.step hT (below_regrown W dq osq)⟩
                      by_cases htj : t < j
                      · exact hgood.out t htj
                      · obtain rfl : t = j := by omega
                        exact HG.out
                    case measure => simp [intOf]; omega
          · obtain rfl : j = k := by omega
            have HP := Lib.hid (polyB_yes (p := xss) ⟨by rw [hl.out]; exact n3, by rw [hl.out]; exact n12, fun t ht => hall.out t (by rw [hl.out] at ht; exact ht), fun t ht => hgood.out t (by rw [hl.out] at ht; exact ht)⟩)
            go_wp2
            go_ret
            exact ⟨ret_bool HP.out.symm, hT⟩

end Go.Proofs.YthdonnkekggbbaaGreatDoor
