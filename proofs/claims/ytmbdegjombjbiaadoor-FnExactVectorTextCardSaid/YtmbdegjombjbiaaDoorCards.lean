/-
  DERIVED. GIVEN WITH THE SEED: THE CARDS: each row of YtmbdegjombjbiaaDoorRows.lean that lists a variable, with what it lists TIED to the program's text (the seventh form; the later family's looks); each row that meets fmt, with fmt's text TOLD by the authors' own Lean function (tested against real Go, not proved from fmt's source: count such statements apart). THE CARD IS WHAT COUNTS. Prove the row's statement (the work); the ties are given (YtmbdegjombjbiaaDoorTie.lean); close each card by the builder's one call (the guide's Derived/Test/ToyasCard.lean, 'card_holds'). Laid BY PROGRAM, IN A SANDBOX (cutbox-door.mjs). By AI agents, Wed Nov 11 2026. No macro, syntax, notation, axiom, sorry.
-/
import Derived.Test.YtmbdegjombjbiaaDoorRows
import GoSem.ClaimSeven
namespace Go.Proofs.YtmbdegjombjbiaaDoor
namespace Rows

/-- THE TIED CARD OF 'laws.FnExactFormatInt'. -/
def fnExactFormatIntCard : Claim7 := { stood := { row := fnExactFormatIntRow, standIns := [], harness := (true, "7c334a46f86d0f01e132d838e548aef76ea9ff43f535ac158f5e10eac77bbcd5"), looks := true }, kinds := [], alts := [], laidByText := true, laidKinds := [.data, .data, .data], laidTests := true, laidLooks := .later }
def FnExactFormatIntCardSaid : Prop := Claim7.holds Tryd.pinned (.plain (OpenSpec.ofChange fnExactFormatIntSpec)) fnExactFormatIntCard

/-- THE TIED CARD OF 'laws.FnExactSplitByte'. -/
def fnExactSplitByteCard : Claim7 := { stood := { row := fnExactSplitByteRow, standIns := [], harness := (true, "7c334a46f86d0f01e132d838e548aef76ea9ff43f535ac158f5e10eac77bbcd5"), looks := true }, kinds := [], alts := [], laidByText := true, laidKinds := [.data, .pinned], laidTests := true, laidLooks := .later }
def FnExactSplitByteCardSaid : Prop := Claim7.holds Tryd.pinned (.plain (OpenSpec.ofChange fnExactSplitByteSpec)) fnExactSplitByteCard

/-- THE TIED CARD OF 'laws.FnSplit'. -/
def fnSplitCard : Claim7 := { stood := { row := fnSplitRow, standIns := [], harness := (true, "7c334a46f86d0f01e132d838e548aef76ea9ff43f535ac158f5e10eac77bbcd5"), looks := true }, kinds := [], alts := [], laidByText := true, laidKinds := [.data, .pinned], laidTests := true, laidLooks := .later }
def FnSplitCardSaid : Prop := Claim7.holds Tryd.pinned (.plain (OpenSpec.ofChange fnSplitSpec)) fnSplitCard

/-- THE TIED CARD OF 'laws.FnExactVectorText'. -/
def fnExactVectorTextCard : Claim7 := { stood := { row := fnExactVectorTextRow, standIns := [], harness := (true, "7c334a46f86d0f01e132d838e548aef76ea9ff43f535ac158f5e10eac77bbcd5"), looks := true }, kinds := [], alts := [], laidByText := true, laidKinds := [.data, .data, .data], laidTests := true, laidLooks := .later }
def FnExactVectorTextCardSaid : Prop := Claim7.holds Tryd.pinned (.plain (OpenSpec.ofChange fnExactVectorTextSpec)) fnExactVectorTextCard

/-- THE TIED CARD OF 'laws.FnExactRationalText'. -/
def fnExactRationalTextCard : Claim7 := { stood := { row := fnExactRationalTextRow, standIns := [], harness := (true, "7c334a46f86d0f01e132d838e548aef76ea9ff43f535ac158f5e10eac77bbcd5"), looks := true }, kinds := [], alts := [], laidByText := true, laidKinds := [.data, .data, .data], laidTests := true, laidLooks := .later }
def FnExactRationalTextCardSaid : Prop := Claim7.holds Tryd.pinned (.plain (OpenSpec.ofChange fnExactRationalTextSpec)) fnExactRationalTextCard

/-- THE TIED CARD OF 'laws.FnExactParseInt'. -/
def fnExactParseIntCard : Claim7 := { stood := { row := fnExactParseIntRow, standIns := [], harness := (true, "7c334a46f86d0f01e132d838e548aef76ea9ff43f535ac158f5e10eac77bbcd5"), looks := true }, kinds := [], alts := [], laidByText := true, laidKinds := [.data, .data, .data, .sentinel, .sentinel], laidTests := true, laidLooks := .later }
def FnExactParseIntCardSaid : Prop := Claim7.holds Tryd.pinned (.plain (OpenSpec.ofChange fnExactParseIntSpec)) fnExactParseIntCard

/-- THE TIED CARD OF 'laws.FnExactRegionText'. -/
def fnExactRegionTextCard : Claim7 := { stood := { row := fnExactRegionTextRow, standIns := [], harness := (true, "7c334a46f86d0f01e132d838e548aef76ea9ff43f535ac158f5e10eac77bbcd5"), looks := true }, kinds := [], alts := [], laidByText := true, laidKinds := [.data, .data, .data], laidTests := true, laidLooks := .later }
def FnExactRegionTextCardSaid : Prop := Claim7.holds Tryd.pinned (.plain (OpenSpec.ofChange fnExactRegionTextSpec)) fnExactRegionTextCard

/-- THE TIED CARD OF 'laws.FnExactParseNumber'. -/
def fnExactParseNumberCard : Claim7 := { stood := { row := fnExactParseNumberRow, standIns := [], harness := (true, "7c334a46f86d0f01e132d838e548aef76ea9ff43f535ac158f5e10eac77bbcd5"), looks := true }, kinds := [], alts := [], laidByText := true, laidKinds := [.data, .data, .data, .sentinel, .sentinel], laidTests := true, laidLooks := .later }
def FnExactParseNumberCardSaid : Prop := Claim7.holds Tryd.pinned (.plain (OpenSpec.ofChange fnExactParseNumberSpec)) fnExactParseNumberCard

/-- THE TIED CARD OF 'laws.FnNumbers'. -/
def fnNumbersCard : Claim7 := { stood := { row := fnNumbersRow, standIns := [], harness := (true, "7c334a46f86d0f01e132d838e548aef76ea9ff43f535ac158f5e10eac77bbcd5"), looks := true }, kinds := [], alts := [], laidByText := true, laidKinds := [.data, .data, .data, .sentinel, .sentinel], laidTests := true, laidLooks := .later }
def FnNumbersCardSaid : Prop := Claim7.holds Tryd.pinned (.plain (OpenSpec.ofChange fnNumbersSpec)) fnNumbersCard

/-- THE TIED CARD OF 'laws.FnExactPolygonText'. -/
def fnExactPolygonTextCard : Claim7 := { stood := { row := fnExactPolygonTextRow, standIns := [], harness := (true, "7c334a46f86d0f01e132d838e548aef76ea9ff43f535ac158f5e10eac77bbcd5"), looks := true }, kinds := [], alts := [], laidByText := true, laidKinds := [.data, .data, .data], laidTests := true, laidLooks := .later }
def FnExactPolygonTextCardSaid : Prop := Claim7.holds Tryd.pinned (.plain (OpenSpec.ofChange fnExactPolygonTextSpec)) fnExactPolygonTextCard

/-- THE TIED CARD OF 'laws.FnExactParseVector'. -/
def fnExactParseVectorCard : Claim7 := { stood := { row := fnExactParseVectorRow, standIns := [], harness := (true, "7c334a46f86d0f01e132d838e548aef76ea9ff43f535ac158f5e10eac77bbcd5"), looks := true }, kinds := [], alts := [], laidByText := true, laidKinds := [.data, .data, .data, .data, .sentinel, .sentinel, .pinned], laidTests := true, laidLooks := .later }
def FnExactParseVectorCardSaid : Prop := Claim7.holds Tryd.pinned (.plain (OpenSpec.ofChange fnExactParseVectorSpec)) fnExactParseVectorCard

/-- THE SECOND FORM's CARD OF 'laws.FnExactFormatInt'. -/
def fnExactFormatIntUptoCard : Claim7 := { stood := { row := fnExactFormatIntUptoRow, standIns := [], harness := (true, "7c334a46f86d0f01e132d838e548aef76ea9ff43f535ac158f5e10eac77bbcd5"), looks := true }, kinds := [], alts := [], laidByText := true, laidKinds := [.data, .data, .data], laidTests := true, laidLooks := .later }
def FnExactFormatIntUptoCardSaid : Prop := Claim7.holds Tryd.pinned (.plain (OpenSpec.upto fnExactFormatIntSpec)) fnExactFormatIntUptoCard

/-- THE SECOND FORM's CARD OF 'laws.FnExactSplitByte'. -/
def fnExactSplitByteUptoCard : Claim7 := { stood := { row := fnExactSplitByteUptoRow, standIns := [], harness := (true, "7c334a46f86d0f01e132d838e548aef76ea9ff43f535ac158f5e10eac77bbcd5"), looks := true }, kinds := [], alts := [], laidByText := true, laidKinds := [.data, .pinned], laidTests := true, laidLooks := .later }
def FnExactSplitByteUptoCardSaid : Prop := Claim7.holds Tryd.pinned (.plain (OpenSpec.upto fnExactSplitByteSpec)) fnExactSplitByteUptoCard

/-- THE SECOND FORM's CARD OF 'laws.FnSplit'. -/
def fnSplitUptoCard : Claim7 := { stood := { row := fnSplitUptoRow, standIns := [], harness := (true, "7c334a46f86d0f01e132d838e548aef76ea9ff43f535ac158f5e10eac77bbcd5"), looks := true }, kinds := [], alts := [], laidByText := true, laidKinds := [.data, .pinned], laidTests := true, laidLooks := .later }
def FnSplitUptoCardSaid : Prop := Claim7.holds Tryd.pinned (.plain (OpenSpec.upto fnSplitSpec)) fnSplitUptoCard

/-- THE SECOND FORM's CARD OF 'laws.FnExactVectorText'. -/
def fnExactVectorTextUptoCard : Claim7 := { stood := { row := fnExactVectorTextUptoRow, standIns := [], harness := (true, "7c334a46f86d0f01e132d838e548aef76ea9ff43f535ac158f5e10eac77bbcd5"), looks := true }, kinds := [], alts := [], laidByText := true, laidKinds := [.data, .data, .data], laidTests := true, laidLooks := .later }
def FnExactVectorTextUptoCardSaid : Prop := Claim7.holds Tryd.pinned (.plain (OpenSpec.upto fnExactVectorTextSpec)) fnExactVectorTextUptoCard

/-- THE SECOND FORM's CARD OF 'laws.FnExactRationalText'. -/
def fnExactRationalTextUptoCard : Claim7 := { stood := { row := fnExactRationalTextUptoRow, standIns := [], harness := (true, "7c334a46f86d0f01e132d838e548aef76ea9ff43f535ac158f5e10eac77bbcd5"), looks := true }, kinds := [], alts := [], laidByText := true, laidKinds := [.data, .data, .data], laidTests := true, laidLooks := .later }
def FnExactRationalTextUptoCardSaid : Prop := Claim7.holds Tryd.pinned (.plain (OpenSpec.upto fnExactRationalTextSpec)) fnExactRationalTextUptoCard

/-- THE SECOND FORM's CARD OF 'laws.FnExactParseInt'. -/
def fnExactParseIntUptoCard : Claim7 := { stood := { row := fnExactParseIntUptoRow, standIns := [], harness := (true, "7c334a46f86d0f01e132d838e548aef76ea9ff43f535ac158f5e10eac77bbcd5"), looks := true }, kinds := [], alts := [], laidByText := true, laidKinds := [.data, .data, .data, .sentinel, .sentinel], laidTests := true, laidLooks := .later }
def FnExactParseIntUptoCardSaid : Prop := Claim7.holds Tryd.pinned (.plain (OpenSpec.upto fnExactParseIntSpec)) fnExactParseIntUptoCard

/-- THE SECOND FORM's CARD OF 'laws.FnExactRegionText'. -/
def fnExactRegionTextUptoCard : Claim7 := { stood := { row := fnExactRegionTextUptoRow, standIns := [], harness := (true, "7c334a46f86d0f01e132d838e548aef76ea9ff43f535ac158f5e10eac77bbcd5"), looks := true }, kinds := [], alts := [], laidByText := true, laidKinds := [.data, .data, .data], laidTests := true, laidLooks := .later }
def FnExactRegionTextUptoCardSaid : Prop := Claim7.holds Tryd.pinned (.plain (OpenSpec.upto fnExactRegionTextSpec)) fnExactRegionTextUptoCard

/-- THE SECOND FORM's CARD OF 'laws.FnExactParseNumber'. -/
def fnExactParseNumberUptoCard : Claim7 := { stood := { row := fnExactParseNumberUptoRow, standIns := [], harness := (true, "7c334a46f86d0f01e132d838e548aef76ea9ff43f535ac158f5e10eac77bbcd5"), looks := true }, kinds := [], alts := [], laidByText := true, laidKinds := [.data, .data, .data, .sentinel, .sentinel], laidTests := true, laidLooks := .later }
def FnExactParseNumberUptoCardSaid : Prop := Claim7.holds Tryd.pinned (.plain (OpenSpec.upto fnExactParseNumberSpec)) fnExactParseNumberUptoCard

/-- THE SECOND FORM's CARD OF 'laws.FnNumbers'. -/
def fnNumbersUptoCard : Claim7 := { stood := { row := fnNumbersUptoRow, standIns := [], harness := (true, "7c334a46f86d0f01e132d838e548aef76ea9ff43f535ac158f5e10eac77bbcd5"), looks := true }, kinds := [], alts := [], laidByText := true, laidKinds := [.data, .data, .data, .sentinel, .sentinel], laidTests := true, laidLooks := .later }
def FnNumbersUptoCardSaid : Prop := Claim7.holds Tryd.pinned (.plain (OpenSpec.upto fnNumbersSpec)) fnNumbersUptoCard

/-- THE SECOND FORM's CARD OF 'laws.FnExactPolygonText'. -/
def fnExactPolygonTextUptoCard : Claim7 := { stood := { row := fnExactPolygonTextUptoRow, standIns := [], harness := (true, "7c334a46f86d0f01e132d838e548aef76ea9ff43f535ac158f5e10eac77bbcd5"), looks := true }, kinds := [], alts := [], laidByText := true, laidKinds := [.data, .data, .data], laidTests := true, laidLooks := .later }
def FnExactPolygonTextUptoCardSaid : Prop := Claim7.holds Tryd.pinned (.plain (OpenSpec.upto fnExactPolygonTextSpec)) fnExactPolygonTextUptoCard

/-- THE SECOND FORM's CARD OF 'laws.FnExactParseVector'. -/
def fnExactParseVectorUptoCard : Claim7 := { stood := { row := fnExactParseVectorUptoRow, standIns := [], harness := (true, "7c334a46f86d0f01e132d838e548aef76ea9ff43f535ac158f5e10eac77bbcd5"), looks := true }, kinds := [], alts := [], laidByText := true, laidKinds := [.data, .data, .data, .data, .sentinel, .sentinel, .pinned], laidTests := true, laidLooks := .later }
def FnExactParseVectorUptoCardSaid : Prop := Claim7.holds Tryd.pinned (.plain (OpenSpec.upto fnExactParseVectorSpec)) fnExactParseVectorUptoCard
end Rows
end Go.Proofs.YtmbdegjombjbiaaDoor
