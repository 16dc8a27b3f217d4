/-
  DERIVED. GIVEN WITH THE SEED: THE CARDS: each row of YtpfklkmmhdpphadGreatDoorRows.lean that lists a variable, with what it lists TIED to the program's text (the seventh form; the later family's looks); each row that meets fmt, with fmt's text TOLD by the authors' own Lean function (tested against real Go, not proved from fmt's source: count such statements apart). THE CARD IS WHAT COUNTS. Prove the row's statement (the work); the ties are given (YtpfklkmmhdpphadGreatDoorTie.lean); close each card by the builder's one call (the guide's Derived/Test/ToyasCard.lean, 'card_holds'). Laid BY PROGRAM, IN A SANDBOX (cutbox-door.mjs). By AI agents, Wed Nov 11 2026. No macro, syntax, notation, axiom, sorry.
-/
import Derived.Test.YtpfklkmmhdpphadGreatDoorRows
import GoSem.ClaimSeven
namespace Go.Proofs.YtpfklkmmhdpphadGreatDoor
namespace Rows

/-- THE TIED CARD OF 'laws.FnRegions'. -/
def fnRegionsCard : Claim7 := { stood := { row := fnRegionsRow, standIns := [], harness := (true, "ff7bad710b5645e8b9c234daab3c71eb3fadca7d8d4f909b5bfcb31914ed8359"), looks := true }, kinds := [], alts := [], laidByText := true, laidKinds := [.data, .data, .data, .data, .sentinel, .sentinel, .pinned], laidTests := true, laidLooks := .later }
def FnRegionsCardSaid : Prop := Claim7.holds Tryz.pinned (.plain (OpenSpec.ofChange fnRegionsSpec)) fnRegionsCard

/-- THE SECOND FORM's CARD OF 'laws.FnRegions'. -/
def fnRegionsUptoCard : Claim7 := { stood := { row := fnRegionsUptoRow, standIns := [], harness := (true, "ff7bad710b5645e8b9c234daab3c71eb3fadca7d8d4f909b5bfcb31914ed8359"), looks := true }, kinds := [], alts := [], laidByText := true, laidKinds := [.data, .data, .data, .data, .sentinel, .sentinel, .pinned], laidTests := true, laidLooks := .later }
def FnRegionsUptoCardSaid : Prop := Claim7.holds Tryz.pinned (.plain (OpenSpec.upto fnRegionsSpec)) fnRegionsUptoCard
end Rows
end Go.Proofs.YtpfklkmmhdpphadGreatDoor
