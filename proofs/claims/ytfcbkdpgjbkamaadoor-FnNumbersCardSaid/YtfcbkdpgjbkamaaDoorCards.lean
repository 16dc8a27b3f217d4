/-
  DERIVED. GIVEN WITH THE SEED: THE CARDS: each row of YtfcbkdpgjbkamaaDoorRows.lean that lists a variable, with what it lists TIED to the program's text (the seventh form; the later family's looks); each row that meets fmt, with fmt's text TOLD by the authors' own Lean function (tested against real Go, not proved from fmt's source: count such statements apart). THE CARD IS WHAT COUNTS. Prove the row's statement (the work); the ties are given (YtfcbkdpgjbkamaaDoorTie.lean); close each card by the builder's one call (the guide's Derived/Test/ToyasCard.lean, 'card_holds'). Laid BY PROGRAM, IN A SANDBOX (cutbox-door.mjs). By AI agents, Wed Nov 11 2026. No macro, syntax, notation, axiom, sorry.
-/
import Derived.Test.YtfcbkdpgjbkamaaDoorRows
import GoSem.ClaimSeven
namespace Go.Proofs.YtfcbkdpgjbkamaaDoor
namespace Rows

/-- THE TIED CARD OF 'laws.FnExactRationalText'. -/
def fnExactRationalTextCard : Claim7 := { stood := { row := fnExactRationalTextRow, standIns := [], harness := (true, "6804b110a7dca8756d143677de9c751e14a659d9962307b55e6ae01526f845e4"), looks := true }, kinds := [], alts := [], laidByText := true, laidKinds := [.data, .data, .data], laidTests := true, laidLooks := .later }
def FnExactRationalTextCardSaid : Prop := Claim7.holds Tryd.pinned (.plain (OpenSpec.ofChange fnExactRationalTextSpec)) fnExactRationalTextCard

/-- THE TIED CARD OF 'laws.FnExactRegionText'. -/
def fnExactRegionTextCard : Claim7 := { stood := { row := fnExactRegionTextRow, standIns := [], harness := (true, "6804b110a7dca8756d143677de9c751e14a659d9962307b55e6ae01526f845e4"), looks := true }, kinds := [], alts := [], laidByText := true, laidKinds := [.data, .data, .data], laidTests := true, laidLooks := .later }
def FnExactRegionTextCardSaid : Prop := Claim7.holds Tryd.pinned (.plain (OpenSpec.ofChange fnExactRegionTextSpec)) fnExactRegionTextCard

/-- THE TIED CARD OF 'laws.FnSplit'. -/
def fnSplitCard : Claim7 := { stood := { row := fnSplitRow, standIns := [], harness := (true, "6804b110a7dca8756d143677de9c751e14a659d9962307b55e6ae01526f845e4"), looks := true }, kinds := [], alts := [], laidByText := true, laidKinds := [.data, .pinned], laidTests := true, laidLooks := .later }
def FnSplitCardSaid : Prop := Claim7.holds Tryd.pinned (.plain (OpenSpec.ofChange fnSplitSpec)) fnSplitCard

/-- THE TIED CARD OF 'laws.FnNumbers'. -/
def fnNumbersCard : Claim7 := { stood := { row := fnNumbersRow, standIns := [], harness := (true, "6804b110a7dca8756d143677de9c751e14a659d9962307b55e6ae01526f845e4"), looks := true }, kinds := [], alts := [], laidByText := true, laidKinds := [.data, .data, .data, .sentinel, .sentinel], laidTests := true, laidLooks := .later }
def FnNumbersCardSaid : Prop := Claim7.holds Tryd.pinned (.plain (OpenSpec.ofChange fnNumbersSpec)) fnNumbersCard

/-- THE TIED CARD OF 'laws.FnExactParseVector'. -/
def fnExactParseVectorCard : Claim7 := { stood := { row := fnExactParseVectorRow, standIns := [], harness := (true, "6804b110a7dca8756d143677de9c751e14a659d9962307b55e6ae01526f845e4"), looks := true }, kinds := [], alts := [], laidByText := true, laidKinds := [.data, .data, .data, .data, .sentinel, .sentinel, .pinned], laidTests := true, laidLooks := .later }
def FnExactParseVectorCardSaid : Prop := Claim7.holds Tryd.pinned (.plain (OpenSpec.ofChange fnExactParseVectorSpec)) fnExactParseVectorCard

/-- THE TIED CARD OF 'laws.FnExactPolygonText'. -/
def fnExactPolygonTextCard : Claim7 := { stood := { row := fnExactPolygonTextRow, standIns := [], harness := (true, "6804b110a7dca8756d143677de9c751e14a659d9962307b55e6ae01526f845e4"), looks := true }, kinds := [], alts := [], laidByText := true, laidKinds := [.data, .data, .data], laidTests := true, laidLooks := .later }
def FnExactPolygonTextCardSaid : Prop := Claim7.holds Tryd.pinned (.plain (OpenSpec.ofChange fnExactPolygonTextSpec)) fnExactPolygonTextCard

/-- THE SECOND FORM's CARD OF 'laws.FnExactRationalText'. -/
def fnExactRationalTextUptoCard : Claim7 := { stood := { row := fnExactRationalTextUptoRow, standIns := [], harness := (true, "6804b110a7dca8756d143677de9c751e14a659d9962307b55e6ae01526f845e4"), looks := true }, kinds := [], alts := [], laidByText := true, laidKinds := [.data, .data, .data], laidTests := true, laidLooks := .later }
def FnExactRationalTextUptoCardSaid : Prop := Claim7.holds Tryd.pinned (.plain (OpenSpec.upto fnExactRationalTextSpec)) fnExactRationalTextUptoCard

/-- THE SECOND FORM's CARD OF 'laws.FnExactRegionText'. -/
def fnExactRegionTextUptoCard : Claim7 := { stood := { row := fnExactRegionTextUptoRow, standIns := [], harness := (true, "6804b110a7dca8756d143677de9c751e14a659d9962307b55e6ae01526f845e4"), looks := true }, kinds := [], alts := [], laidByText := true, laidKinds := [.data, .data, .data], laidTests := true, laidLooks := .later }
def FnExactRegionTextUptoCardSaid : Prop := Claim7.holds Tryd.pinned (.plain (OpenSpec.upto fnExactRegionTextSpec)) fnExactRegionTextUptoCard

/-- THE SECOND FORM's CARD OF 'laws.FnSplit'. -/
def fnSplitUptoCard : Claim7 := { stood := { row := fnSplitUptoRow, standIns := [], harness := (true, "6804b110a7dca8756d143677de9c751e14a659d9962307b55e6ae01526f845e4"), looks := true }, kinds := [], alts := [], laidByText := true, laidKinds := [.data, .pinned], laidTests := true, laidLooks := .later }
def FnSplitUptoCardSaid : Prop := Claim7.holds Tryd.pinned (.plain (OpenSpec.upto fnSplitSpec)) fnSplitUptoCard

/-- THE SECOND FORM's CARD OF 'laws.FnNumbers'. -/
def fnNumbersUptoCard : Claim7 := { stood := { row := fnNumbersUptoRow, standIns := [], harness := (true, "6804b110a7dca8756d143677de9c751e14a659d9962307b55e6ae01526f845e4"), looks := true }, kinds := [], alts := [], laidByText := true, laidKinds := [.data, .data, .data, .sentinel, .sentinel], laidTests := true, laidLooks := .later }
def FnNumbersUptoCardSaid : Prop := Claim7.holds Tryd.pinned (.plain (OpenSpec.upto fnNumbersSpec)) fnNumbersUptoCard

/-- THE SECOND FORM's CARD OF 'laws.FnExactParseVector'. -/
def fnExactParseVectorUptoCard : Claim7 := { stood := { row := fnExactParseVectorUptoRow, standIns := [], harness := (true, "6804b110a7dca8756d143677de9c751e14a659d9962307b55e6ae01526f845e4"), looks := true }, kinds := [], alts := [], laidByText := true, laidKinds := [.data, .data, .data, .data, .sentinel, .sentinel, .pinned], laidTests := true, laidLooks := .later }
def FnExactParseVectorUptoCardSaid : Prop := Claim7.holds Tryd.pinned (.plain (OpenSpec.upto fnExactParseVectorSpec)) fnExactParseVectorUptoCard

/-- THE SECOND FORM's CARD OF 'laws.FnExactPolygonText'. -/
def fnExactPolygonTextUptoCard : Claim7 := { stood := { row := fnExactPolygonTextUptoRow, standIns := [], harness := (true, "6804b110a7dca8756d143677de9c751e14a659d9962307b55e6ae01526f845e4"), looks := true }, kinds := [], alts := [], laidByText := true, laidKinds := [.data, .data, .data], laidTests := true, laidLooks := .later }
def FnExactPolygonTextUptoCardSaid : Prop := Claim7.holds Tryd.pinned (.plain (OpenSpec.upto fnExactPolygonTextSpec)) fnExactPolygonTextUptoCard
end Rows
end Go.Proofs.YtfcbkdpgjbkamaaDoor
