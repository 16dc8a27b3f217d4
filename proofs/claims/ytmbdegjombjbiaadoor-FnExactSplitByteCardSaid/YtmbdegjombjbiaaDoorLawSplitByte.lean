/- The law FnExactSplitByte: the walk: for every input it returns true and writes nothing that was there. Conditions: the library's variable is a number. -/
import Derived.Test.YtmbdegjombjbiaaDoorSplitB
namespace Go.Proofs.YtmbdegjombjbiaaDoor
open Go.RowKit
set_option linter.unusedVariables false
set_option linter.unusedSimpArgs false
set_option maxRecDepth 100000

theorem pieces_len {c : UInt8} {l : List UInt8} : (splitW c l).length ≤ l.length + 1 := splitA_length c l []
theorem Below.markS {w w1 w2 : World} {lo hi : Nat} (h : Below w.heap.size w w1) (k : Within lo hi w1 w2) (hl : w.heap.size ≤ lo) : Below w.heap.size w w2 :=
  h.trans (k.below hl h.size)
set_option maxHeartbeats 1000000 in
theorem lawSplitByte_walk (s0 : List UInt8) (z1 : Int) (w : World) (fm0 : s0.length ≤ 9223372036854775807) (flo1 : 0 ≤ z1) (fhi1 : z1 ≤ 255) (hmax : MaxW w) :
    Calls Tryd.prog 4 #[.string ⟨s0.toArray⟩, .int .u8 z1] w fun e w' => e = .returned (.bool true) ∧ Below w.heap.size w w' := by
  have hsz : (⟨s0.toArray⟩ : ByteArray).size = s0.length := by simp [ByteArray.size]
  by_cases hbig : 1048576 < s0.length
  · go_enter Tryd.func4, Tryd.ntmps4
    go_wp2
    go_ret
    exact ⟨rfl, Below.refl _ _⟩
  · have hl : s0.length ≤ 1048576 := by omega
    have hpl := pieces_len (c := byteD z1) (l := s0)
    have C1 := Lib.hid (fun W => specSplit_any ⟨s0.toArray⟩ s0 z1 W (by simp) hl flo1 fhi1)
    have C2 := Lib.hid (fun W (h : MaxW W) => implSplit_any s0 z1 W hl flo1 fhi1 h)
    generalize splitW (byteD z1) s0 = ss at *
    have Hpl : Hid (ss.length ≤ 1048577) := Lib.hid (by omega)
    clear hpl
    go_enter Tryd.func4, Tryd.ntmps4
    go_wp2_with fail
    refine (C1.out _).mono ?_
    rintro e w1 ⟨p1, n1, c1, rfl, ho1, hb1⟩
    have hT := hb1
    go_wp2_with fail
    refine (C2.out _ (hmax.below hT)).mono ?_
    rintro e w2 ⟨p2, n2, c2, rfl, ho2, hb2⟩
    have hs1 := hb1.size
    have hs2 := hb2.size
    replace hT := Below.step hT hb2
    replace ho1 := ho1.below hb2
    have hn1 : n1 ≤ 1048577 := by rw [← ho1.len]; exact Hpl.out
    have hn2 : n2 ≤ 1048577 := by rw [← ho2.len]; exact Hpl.out
    go_wp2_with fail
    refine (eqStringS_self _ _ _ _ _ _ _ _ ho2.rd ho1.rd (by omega) (by omega)).mono ?_
    rintro e w3 ⟨rfl, hb3⟩
    have hs3 := hb3.size
    replace hT := Below.step hT hb3
    replace ho1 := ho1.below hb3
    replace ho2 := ho2.below hb3
    go_wp2_with fail
    refine (markStringS_any _ _ _ _ _ _ 1 _ ho2 (by omega) (by omega) (by omega)).mono ?_
    rintro e w4 ⟨rfl, hm4, hw4⟩
    have hs4 := hw4.size
    replace ho1 := ho1.within hw4 (by omega)
    replace hT := Below.markS hT hw4 (by omega)
    clear ho2
    go_wp2_with fail
    refine (heldStringS_any _ _ _ 1 _ hm4.rd (by omega) (by omega)).mono ?_
    rintro e w5 ⟨rfl, hb5⟩
    have hs5 := hb5.size
    replace hT := Below.step hT hb5
    replace ho1 := ho1.below hb5
    replace hm4 := hm4.below hb5
    go_wp2_with fail
    refine (C2.out _ (hmax.below hT)).mono ?_
    rintro e w6 ⟨p6, n6, c6, rfl, ho6, hb6⟩
    have hs6 := hb6.size
    replace hT := Below.step hT hb6
    replace ho1 := ho1.below hb6
    replace hm4 := hm4.below hb6
    have hn6 : n6 ≤ 1048577 := by rw [← ho6.len]; exact Hpl.out
    go_wp2_with fail
    refine (eqStringS_self _ _ _ _ _ _ _ _ ho6.rd ho1.rd (by omega) (by omega)).mono ?_
    rintro e w7 ⟨rfl, hb7⟩
    replace hT := Below.step hT hb7
    replace hm4 := hm4.below hb7
    go_wp2_with fail
    refine (heldStringS_any _ _ _ 1 _ hm4.rd (by omega) (by omega)).mono ?_
    rintro e w8 ⟨rfl, hb8⟩
    replace hT := Below.step hT hb8
    go_wp2_with fail
    go_ret
    exact ⟨rfl, hT⟩

end Go.Proofs.YtmbdegjombjbiaaDoor
