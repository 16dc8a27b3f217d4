/-
  DERIVED. GIVEN WITH THE SEED: THE CARDS: each row of YteamihmolpaoeaaDoorRows.lean that lists a variable, with what it lists TIED to the program's text (the seventh form; the later family's looks); each row that meets fmt, with fmt's text TOLD by the authors' own Lean function (tested against real Go, not proved from fmt's source: count such statements apart). THE CARD IS WHAT COUNTS. Prove the row's statement (the work); the ties are given (YteamihmolpaoeaaDoorTie.lean); close each card by the builder's one call (the guide's Derived/Test/ToyasCard.lean, 'card_holds'). Laid BY PROGRAM, IN A SANDBOX (cutbox-door.mjs). By AI agents, Wed Nov 11 2026. No macro, syntax, notation, axiom, sorry.
-/
import Derived.Test.YteamihmolpaoeaaDoorRows
import GoSem.ClaimSeven
namespace Go.Proofs.YteamihmolpaoeaaDoor
namespace Rows

/-- THE TIED CARD OF 'laws.FnExactParseRegion'. -/
def fnExactParseRegionCard : Claim7 := { stood := { row := fnExactParseRegionRow, standIns := [], harness := (true, "e1da853120084f484d448e59be1d37c387a5661f34557ffb1fc25ddbf8163f75"), looks := true }, kinds := [], alts := [], laidByText := true, laidKinds := [.data, .data, .data, .data, .sentinel, .sentinel, .pinned], laidTests := true, laidLooks := .later }
def FnExactParseRegionCardSaid : Prop := Claim7.holds Tryd.pinned (.plain (OpenSpec.ofChange fnExactParseRegionSpec)) fnExactParseRegionCard

/-- THE TIED CARD OF 'laws.FnExactParsePolygon'. -/
def fnExactParsePolygonCard : Claim7 := { stood := { row := fnExactParsePolygonRow, standIns := [], harness := (true, "e1da853120084f484d448e59be1d37c387a5661f34557ffb1fc25ddbf8163f75"), looks := true }, kinds := [], alts := [], laidByText := true, laidKinds := [.data, .data, .data, .data, .sentinel, .sentinel, .pinned], laidTests := true, laidLooks := .later }
def FnExactParsePolygonCardSaid : Prop := Claim7.holds Tryd.pinned (.plain (OpenSpec.ofChange fnExactParsePolygonSpec)) fnExactParsePolygonCard

/-- THE SECOND FORM's CARD OF 'laws.FnExactParseRegion'. -/
def fnExactParseRegionUptoCard : Claim7 := { stood := { row := fnExactParseRegionUptoRow, standIns := [], harness := (true, "e1da853120084f484d448e59be1d37c387a5661f34557ffb1fc25ddbf8163f75"), looks := true }, kinds := [], alts := [], laidByText := true, laidKinds := [.data, .data, .data, .data, .sentinel, .sentinel, .pinned], laidTests := true, laidLooks := .later }
def FnExactParseRegionUptoCardSaid : Prop := Claim7.holds Tryd.pinned (.plain (OpenSpec.upto fnExactParseRegionSpec)) fnExactParseRegionUptoCard

/-- THE SECOND FORM's CARD OF 'laws.FnExactParsePolygon'. -/
def fnExactParsePolygonUptoCard : Claim7 := { stood := { row := fnExactParsePolygonUptoRow, standIns := [], harness := (true, "e1da853120084f484d448e59be1d37c387a5661f34557ffb1fc25ddbf8163f75"), looks := true }, kinds := [], alts := [], laidByText := true, laidKinds := [.data, .data, .data, .data, .sentinel, .sentinel, .pinned], laidTests := true, laidLooks := .later }
def FnExactParsePolygonUptoCardSaid : Prop := Claim7.holds Tryd.pinned (.plain (OpenSpec.upto fnExactParsePolygonSpec)) fnExactParsePolygonUptoCard
end Rows
end Go.Proofs.YteamihmolpaoeaaDoor
