/-
  DERIVED. GIVEN WITH THE SEED: THE CARDS: each row of YtpfklkmmhdpphaaGreatDoorRows.lean that lists a variable, with what it lists TIED to the program's text (the seventh form; the later family's looks); each row that meets fmt, with fmt's text TOLD by the authors' own Lean function (tested against real Go, not proved from fmt's source: count such statements apart). THE CARD IS WHAT COUNTS. Prove the row's statement (the work); the ties are given (YtpfklkmmhdpphaaGreatDoorTie.lean); close each card by the builder's one call (the guide's Derived/Test/ToyasCard.lean, 'card_holds'). Laid BY PROGRAM, IN A SANDBOX (cutbox-door.mjs). By AI agents, Wed Nov 11 2026. No macro, syntax, notation, axiom, sorry.
-/
import Derived.Test.YtpfklkmmhdpphaaGreatDoorRows
import GoSem.ClaimSeven
namespace Go.Proofs.YtpfklkmmhdpphaaGreatDoor
namespace Rows

/-- THE TIED CARD OF 'laws.FnVertices'. -/
def fnVerticesCard : Claim7 := { stood := { row := fnVerticesRow, standIns := [], harness := (true, "cac244c9eef12dc78a00baedc8fff983be283535ef283d232ba2caaf8ba1a885"), looks := false }, kinds := [], alts := [], laidByText := true, laidKinds := [.data, .data, .data], laidTests := true, laidLooks := .later }
def FnVerticesCardSaid : Prop := Claim7.holds Tryz.pinned (.plain (OpenSpec.ofChange fnVerticesSpec)) fnVerticesCard

/-- THE SECOND FORM's CARD OF 'laws.FnVertices'. -/
def fnVerticesUptoCard : Claim7 := { stood := { row := fnVerticesUptoRow, standIns := [], harness := (true, "cac244c9eef12dc78a00baedc8fff983be283535ef283d232ba2caaf8ba1a885"), looks := false }, kinds := [], alts := [], laidByText := true, laidKinds := [.data, .data, .data], laidTests := true, laidLooks := .later }
def FnVerticesUptoCardSaid : Prop := Claim7.holds Tryz.pinned (.plain (OpenSpec.upto fnVerticesSpec)) fnVerticesUptoCard
end Rows
end Go.Proofs.YtpfklkmmhdpphaaGreatDoor
