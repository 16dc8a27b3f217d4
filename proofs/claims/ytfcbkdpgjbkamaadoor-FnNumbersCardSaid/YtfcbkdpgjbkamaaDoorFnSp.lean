/- The law FnSplit: the walk: for every input it returns true and writes nothing that was there. Conditions: the library's variable. -/
import Derived.Test.YtfcbkdpgjbkamaaDoorSplitB
import Derived.Test.YtfcbkdpgjbkamaaDoorCur
namespace Go.Proofs.YtfcbkdpgjbkamaaDoor
open Go.RowKit
set_option linter.unusedVariables false
set_option linter.unusedSimpArgs false
set_option maxRecDepth 100000

theorem cellsNew (w : World) (vs : Array Value) (E : TypeId) (k : Nat) : (w.alloc (.cells vs E)).cell? ⟨w.heap.size, k, none⟩ = vs[k]? := by simp [World.cell?_alloc_new]
theorem big_any (p : Option Addr) (n c : Nat) (w : World) : Calls Tryd.prog 19 #[.slice p n c] w fun e w' => e = .returned (.bool (decide (1048576 < n))) ∧ w = w' := by
  go_enter Tryd.func19, Tryd.ntmps19
  go_wp2
  go_ret
  exact ⟨ret_bool (by simp; omega), rfl⟩

def spTexts : List (List UInt8) := [[], [97], [97, 44, 98], [44], [97, 44, 44, 98, 44], [97, 10, 98, 10]]
theorem drawSplit_any (p : Option Addr) (n c : Nat) (xs : List Int) (w : World) (hn : n ≤ 1048576) (hx : BytesZ w p n xs) :
    Calls Tryd.prog 20 #[.slice p n c] w fun e w' => ∃ (l : List UInt8) (z : Int), e = .returned (.tuple #[.string ⟨l.toArray⟩, .int .u8 z]) ∧ l.length ≤ 5 ∧ 0 ≤ z ∧ z ≤ 255 ∧ Below w.heap.size w w' := by
  go_enter Tryd.func20, Tryd.ntmps20
  go_wp2_with fail
  refine (l1New_any _ _ _ _ _ hn hx).mono ?_
  rintro e w1 ⟨g, rfl, hg, hC, hb1⟩
  have hgl := hC.lt
  go_wp2_with fail
  have hB1 := boxed w1 (.cells #[.string ⟨#[]⟩, .string ⟨#[97]⟩, .string ⟨#[97, 44, 98]⟩, .string ⟨#[44]⟩, .string ⟨#[97, 44, 44, 98, 44]⟩, .string ⟨#[97, 10, 98, 10]⟩] 9)
  have hs : ∀ k, k < 6 → (w1.alloc (.cells #[.string ⟨#[]⟩, .string ⟨#[97]⟩, .string ⟨#[97, 44, 98]⟩, .string ⟨#[44]⟩, .string ⟨#[97, 44, 44, 98, 44]⟩, .string ⟨#[97, 10, 98, 10]⟩] 9)).cell? ⟨w1.heap.size, k, none⟩ = some (.string ⟨(nthS spTexts k).toArray⟩) := fun k hk => by
    match k, hk with
    | 0, _ => exact (cellsNew _ _ _ _).trans rfl
    | 1, _ => exact (cellsNew _ _ _ _).trans rfl
    | 2, _ => exact (cellsNew _ _ _ _).trans rfl
    | 3, _ => exact (cellsNew _ _ _ _).trans rfl
    | 4, _ => exact (cellsNew _ _ _ _).trans rfl
    | 5, _ => exact (cellsNew _ _ _ _).trans rfl
  have hC1 := hC.below hB1
  have hT1 := Below.step hb1 hB1
  refine (l1Pick_any g w1.heap.size _ _ _ 6 6 _ spTexts _ hn hC1 (by omega) (by omega) hs (by omega)).mono ?_
  clear hs
  rintro e w2 ⟨k, hk, rfl, hD⟩
  have hT2 := hD.frame hT1 hg
  have hl5 : (nthS spTexts k).length ≤ 5 := by
    match k, hk with
    | 0, _ => decide
    | 1, _ => decide
    | 2, _ => decide
    | 3, _ => decide
    | 4, _ => decide
    | 5, _ => decide
  generalize nthS spTexts k = t at *
  go_wp2_with fail
  have hB2 := boxed w2 (.cells #[.int .i64 44, .int .i64 10] 3)
  have hi : Ints (w2.alloc (.cells #[.int .i64 44, .int .i64 10] 3)) (some ⟨w2.heap.size, 0, none⟩) 2 [44, 10] := ⟨rfl, fun k hk => ⟨_, _, rfl, by
    rw [Nat.zero_add]
    match k, hk with
    | 0, _ => exact (cellsNew _ _ _ _).trans rfl
    | 1, _ => exact (cellsNew _ _ _ _).trans rfl⟩⟩
  have hgl2 := hD.1.lt
  have hT3 := Below.step hT2 hB2
  refine (l1PickInt_any g w2.heap.size _ _ _ 2 2 _ ([44, 10]) _ hn (hD.1.below hB2) (by omega) (by omega) hi (by omega)).mono ?_
  clear hi
  rintro e w3 ⟨j, hj, rfl, hD3⟩
  have hT4 := hD3.frame hT3 hg
  rcases (by omega : j = 0 ∨ j = 1) with rfl | rfl
  · rw [show nth [44, 10] 0 = 44 from rfl]
    go_wp2_with fail
    go_ret2
    exact ⟨t, 44, rfl, hl5, by omega, by omega, hT4⟩
  · rw [show nth [44, 10] 1 = 10 from rfl]
    go_wp2_with fail
    go_ret2
    exact ⟨t, 10, rfl, hl5, by omega, by omega, hT4⟩

theorem split_join (c : UInt8) (l : List UInt8) : Lib.join (splitW c l) [c] = l := by
  have := splitA_join c l []
  simpa [Lib.join, splitW] using this
theorem split_once {c : UInt8} {l : List UInt8} {k : Nat} (h : k < (splitW c l).length) : splitW c (nthS (splitW c l) k) = [nthS (splitW c l) k] := by
  have hm : nthS (splitW c l) k ∈ splitW c l := by rw [nthS_eq h]; exact List.getElem_mem h
  have hf := splitA_free c l [] (by simp) _ hm
  have := splitA_one c (nthS (splitW c l) k) [] hf
  simpa [splitW] using this
theorem split_small {c : UInt8} {l : List UInt8} (h : l.length ≤ 5) : totS (splitW c l) ≤ 33554432 ∧ (splitW c l).length ≤ 6 ∧ ∀ k, k < (splitW c l).length → (nthS (splitW c l) k).length ≤ 5 := by
  have h1 := splitA_length c l []
  have h2 : (splitW c l).length ≤ 6 := by unfold splitW; omega
  have h3 : ∀ x ∈ splitW c l, x.length ≤ 5 := fun x hx => by
    have := splitA_sum c l [] x hx
    simp at this; omega
  have h4 : ∀ ss : List (List UInt8), (∀ x ∈ ss, x.length ≤ 5) → totS ss ≤ 5 * ss.length := by
    intro ss
    induction ss with
    | nil => intro _; simp [totS]
    | cons a r ih =>
      intro h
      have i1 := ih fun x hx => h x (List.mem_cons_of_mem _ hx)
      have i2 := h a (by simp)
      simp only [totS, List.map_cons, List.sum_cons, List.length_cons] at i1 ⊢
      omega
  have h5 := h4 _ h3
  exact ⟨by omega, h2, fun k hk => h3 _ (by rw [nthS_eq hk]; exact List.getElem_mem hk)⟩

set_option maxHeartbeats 2000000 in
theorem lawFnSplit_walk (q0 : Option Addr) (n0 c0 : Nat) (x0 : List Int) (w : World) (fm0 : n0 ≤ 9223372036854775807) (fr0 : BytesZ w q0 n0 x0) (h_max : MaxW w) :
    Calls Tryd.prog 5 #[.slice q0 n0 c0] w fun e w' => e = .returned (.bool true) ∧ Below w.heap.size w w' := by
  by_cases hbig : 1048576 < n0
  · have hd : decide (1048576 < n0) = true := by simpa using hbig
    go_enter Tryd.func5, Tryd.ntmps5
    go_wp2_with (go_at_call 19; (with_reducible refine (big_any _ _ _ _).mono ?_); rintro e w' ⟨rfl, rfl⟩)
    go_ret
    exact ⟨rfl, Below.refl _ _⟩
  · have hd : decide (1048576 < n0) = false := by simpa using hbig
    go_enter Tryd.func5, Tryd.ntmps5
    go_wp2_with (go_at_call 19; (with_reducible refine (big_any _ _ _ _).mono ?_); rintro e w' ⟨rfl, rfl⟩)
    refine (drawSplit_any _ _ _ _ _ (by omega) fr0).mono ?_
    rintro e w1 ⟨l, z, rfl, hl5, z0, z1, hb1⟩
    have hJ := Lib.hid (split_join (byteD z) l)
    have hO := Lib.hid (fun k h => split_once (c := byteD z) (l := l) (k := k) h)
    have hS := split_small (c := byteD z) hl5
    have CI := Lib.hid (fun W (h : MaxW W) => implSplit_any l z W (by omega) z0 z1 h)
    have CS := Lib.hid (fun W => specSplit_any ⟨l.toArray⟩ l z W (by simp) (by omega) z0 z1)
    have CP := Lib.hid (fun t W (ht : t.length ≤ 5) (h : MaxW W) => implSplit_any t z W (by omega) z0 z1 h)
    generalize splitW (byteD z) l = ps at *
    have HS := Lib.hid hS
    clear hS
    go_wp2_with fail
    refine (CI.out _ (h_max.below hb1)).mono ?_
    rintro e w2 ⟨p2, n2, c2, rfl, ho2, hb2⟩
    have hT2 := Below.step hb1 hb2
    have hn2 := Lib.hid ho2.len
    have hn6 : n2 ≤ 6 := by have := HS.out.2.1; have := hn2.out; omega
    have hcap : n2 ≤ c2 := by
      rcases OwnV.form1 ho2 with ⟨_, rfl, rfl⟩ | ⟨g, _, _, _, _, hc, _⟩
      · exact Nat.le_refl _
      · exact hc
    have hcv := conv1 z z0 z1 w2
    have hBx := boxed w2 (.cells #[.int .u8 z] 5)
    have hT3 := Below.step hT2 hBx
    have ho3 := ho2.below hBx
    go_wp2_with fail
    refine (implJoin_any _ _ _ ps ([byteD z]) _ ho3.rd hcap (by omega) HS.out.1 (by simp)).mono ?_
    rw [hJ.out]
    rintro e w3 ⟨rfl, hb3⟩
    have hT4 := Below.step hT3 hb3
    have ho4 := ho3.below hb3
    go_wp2_with fail
    refine (CS.out _).mono ?_
    rintro e w4 ⟨p4, n4, c4, rfl, ho5, hb4⟩
    have hT5 := Below.step hT4 hb4
    have ho6 := ho4.below hb4
    have hn4 : n4 = n2 := by have := ho5.len; have := hn2.out; omega
    subst hn4
    clear ho5 hcv ho3 ho4
    go_wp2_with fail
    go_loopw [6] (fun i wr => ∃ k : Nat, k ≤ n4 ∧ i = .int .i64 k ∧ Below w4.heap.size w4 wr) (fun i _ => n4 - (intOf i).toNat)
    case atStart => exact ⟨0, by omega, rfl, Below.refl _ _⟩
    case round =>
      obtain ⟨k, hk, rfl, hb⟩ := hrel
      have hbT := Below.step hT5 hb
      by_cases hlt : k < n4
      · obtain ⟨b, o, rfl, hc⟩ := ho6.rd.cell k hlt
        replace hc := (hb.cell (World.block_lt_of_cell? w4 _ hc)).trans hc
        have hkp : k < ps.length := by have := hn2.out; omega
        have h5 := HS.out.2.2 k hkp
        have hd1 : decide ((k : Int) < (n4 : Int)) = true := by simp; omega
        have HO := Lib.hid (hO.out k hkp)
        generalize nthS ps k = t at *
        generalize wr = W at *
        go_wp2_with fail
        refine (CP.out t W h5 (h_max.below hbT)).mono ?_
        rintro e w7 ⟨p7, n7, c7, rfl, ho7, hb7⟩
        have hn7 : n7 = 1 := by
          have h1 := ho7.len
          rw [HO.out] at h1
          simpa using h1.symm
        subst hn7
        clear ho7
        go_wp2_with fail
        go_roundw
        case rel => exact ⟨k + 1, by omega, by go_num, Below.step hb hb7⟩
        case measure => simp [intOf]; omega
      · obtain rfl : k = n4 := by omega
        go_wp2_with fail
        go_ret
        exact ⟨rfl, hbT⟩

end Go.Proofs.YtfcbkdpgjbkamaaDoor
