/- Contracts of the laws' helpers on regions. Conditions: sizes. -/
import Derived.Test.YtlngffmmbphaeaaRegKit
namespace Go.Proofs.Ytlngffmmbphaeaa
open Go.RowKit
set_option linter.unusedVariables false
set_option linter.unusedSimpArgs false
set_option maxRecDepth 100000

theorem OwnPM.setBelow {E : TypeId} {w : World} {lo hi : Nat} {p : Option Addr} {n c : Nat} {hs : List Pr} (h : OwnPM E w lo hi p n c hs) {a : Addr} (ha : a.block < lo) (u : Value) : OwnPM E (w.setCell a u) lo hi p n c hs := by
  obtain ⟨rows, h⟩ := h
  refine ⟨rows, ⟨⟨ownsRow_setCell_below h.outer.row ha u, h.outer.top⟩, h.len, fun k hk => (h.inner k hk).setBelow ha u, h.apart⟩⟩

end Go.Proofs.Ytlngffmmbphaeaa
