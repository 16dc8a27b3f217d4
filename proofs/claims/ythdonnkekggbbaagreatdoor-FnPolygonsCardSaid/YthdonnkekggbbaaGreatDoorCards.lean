/-
  DERIVED. GIVEN WITH THE SEED: THE CARDS: each row of YthdonnkekggbbaaGreatDoorRows.lean that lists a variable, with what it lists TIED to the program's text (the seventh form; the later family's looks); each row that meets fmt, with fmt's text TOLD by the authors' own Lean function (tested against real Go, not proved from fmt's source: count such statements apart). THE CARD IS WHAT COUNTS. Prove the row's statement (the work); the ties are given (YthdonnkekggbbaaGreatDoorTie.lean); close each card by the builder's one call (the guide's Derived/Test/ToyasCard.lean, 'card_holds'). Laid BY PROGRAM, IN A SANDBOX (cutbox-door.mjs). By AI agents, Wed Nov 11 2026. No macro, syntax, notation, axiom, sorry.
-/
import Derived.Test.YthdonnkekggbbaaGreatDoorRows
import GoSem.ClaimSeven
namespace Go.Proofs.YthdonnkekggbbaaGreatDoor
namespace Rows

/-- THE TIED CARD OF 'laws.FnPolygons'. -/
def fnPolygonsCard : Claim7 := { stood := { row := fnPolygonsRow, standIns := [], harness := (true, "c851553968e58ed3fc173596e04503009e529e065baadbc750f0d13a41c6057f"), looks := true }, kinds := [], alts := [], laidByText := true, laidKinds := [.data, .data, .data, .data, .sentinel, .sentinel, .pinned], laidTests := true, laidLooks := .later }
def FnPolygonsCardSaid : Prop := Claim7.holds Tryz.pinned (.plain (OpenSpec.ofChange fnPolygonsSpec)) fnPolygonsCard

/-- THE SECOND FORM's CARD OF 'laws.FnPolygons'. -/
def fnPolygonsUptoCard : Claim7 := { stood := { row := fnPolygonsUptoRow, standIns := [], harness := (true, "c851553968e58ed3fc173596e04503009e529e065baadbc750f0d13a41c6057f"), looks := true }, kinds := [], alts := [], laidByText := true, laidKinds := [.data, .data, .data, .data, .sentinel, .sentinel, .pinned], laidTests := true, laidLooks := .later }
def FnPolygonsUptoCardSaid : Prop := Claim7.holds Tryz.pinned (.plain (OpenSpec.upto fnPolygonsSpec)) fnPolygonsUptoCard
end Rows
end Go.Proofs.YthdonnkekggbbaaGreatDoor
