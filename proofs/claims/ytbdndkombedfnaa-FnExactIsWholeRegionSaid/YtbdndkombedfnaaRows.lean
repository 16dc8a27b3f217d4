/-
  No cell of these rows narrows 'for every input' (looked for: loops, veiled, ifaces, maps, wideKeys, modest, calm, conditions, laid).
  DERIVED. THE GIVEN ROWS OF THIS SEAT. 2 by the template 'for every input the law returns true; each argument reads behind the call as it read before'; 0 by the template 'total and deterministic' (their statements: YtbdndkombedfnaaTotals.lean).
  GIVEN WITH THE SEED: the statements are not yours to turn. If you find one false, say at which input.
  Laid BY PROGRAM, IN A SANDBOX (cutbox-rows.mjs): the forced cells as the released guide's own fill.sh prints them over the translation 7edca75c1d052f95… (all of the seat's roots in one cut). By AI agents, Wed Nov 11 2026. No macro, syntax, notation, axiom, sorry.
-/
import Derived.Test.YtbdndkombedfnaaChecked
import GoSem.Claim
import GoSem.ClaimJoined
import GoSem.ClaimMapViews
import Derived.JoinedTies
import Derived.KernelRfl
namespace Go.Proofs.Ytbdndkombedfnaa
/- THE CELL 'sum', in the pinned program and in every row, IS THE sha256 OF THE DUMP (.gsa) THAT YtbdndkombedfnaaProg.lean LOADS. Nothing in Lean hashes anything: it is a label: what it is worth is what the hold of that sum in a sandbox is worth. -/
noncomputable def Try.pinned : Pinned := { name := "ytbdndkombedfnaa", sum := "7edca75c1d052f95d2c5df4b6fd00a54d1c70bf4270a7524e8e346df8009e675", checked := Try.checked }
namespace Rows
def none {H : Type} : Left H := { results := [], args := [] }

/-- 'laws.FnExactVerticesOf': WHATEVER THE INPUT: true; the input reads as it did. -/
def fnExactVerticesOfSpec : ChangeSpec := { name := "fnExactVerticesOf", fn := fun _ => fun
  | [d] => { results := [.lit (.bool true)], args := [d] }
  | _ => none }
def fnExactVerticesOfRow : OpenClaim := { program := "ytbdndkombedfnaa", sum := "7edca75c1d052f95d2c5df4b6fd00a54d1c70bf4270a7524e8e346df8009e675", func := "loop.example/g00959/laws.FnExactVerticesOf", spec := "fnExactVerticesOf", unfollowed := true, recurses := true, apart := false }
def FnExactVerticesOfSaid : Prop := fnExactVerticesOfRow.holds Try.pinned (OpenSpec.ofChange fnExactVerticesOfSpec)

/-- ITS FALSE NEIGHBOUR: 'it returns false'. Refute it at one input. -/
def fnExactVerticesOfWrong : ChangeSpec := { name := "fnExactVerticesOf", fn := fun _ => fun
  | [d] => { results := [.lit (.bool false)], args := [d] }
  | _ => none }
def FnExactVerticesOfWrongFalsely : Prop := fnExactVerticesOfRow.holds Try.pinned (OpenSpec.ofChange fnExactVerticesOfWrong)

/-- 'laws.FnExactIsWholeRegion': WHATEVER THE INPUT: true; the input reads as it did. -/
def fnExactIsWholeRegionSpec : ChangeSpec := { name := "fnExactIsWholeRegion", fn := fun _ => fun
  | [d] => { results := [.lit (.bool true)], args := [d] }
  | _ => none }
def fnExactIsWholeRegionRow : OpenClaim := { program := "ytbdndkombedfnaa", sum := "7edca75c1d052f95d2c5df4b6fd00a54d1c70bf4270a7524e8e346df8009e675", func := "loop.example/g00959/laws.FnExactIsWholeRegion", spec := "fnExactIsWholeRegion", unfollowed := true, recurses := true, apart := false }
def FnExactIsWholeRegionSaid : Prop := fnExactIsWholeRegionRow.holds Try.pinned (OpenSpec.ofChange fnExactIsWholeRegionSpec)

/-- ITS FALSE NEIGHBOUR: 'it returns false'. Refute it at one input. -/
def fnExactIsWholeRegionWrong : ChangeSpec := { name := "fnExactIsWholeRegion", fn := fun _ => fun
  | [d] => { results := [.lit (.bool false)], args := [d] }
  | _ => none }
def FnExactIsWholeRegionWrongFalsely : Prop := fnExactIsWholeRegionRow.holds Try.pinned (OpenSpec.ofChange fnExactIsWholeRegionWrong)

/- THE SECOND FORM. 'bulk': how many values and letters a reading holds, each counted each time it is reached (what is shared counts as often as it is met; a slice's spare places count too). A statement '..UptoSaid' is the law's where the arguments, and the package variables that the reading takes, are together of bulk at most 1048576: NARROWER than '..Said'. Prove '..Said' where nothing that the law and all that it calls make is longer than what came in: it says more and counts as full. Else prove '..UptoSaid'. A law counts once. -/
mutual
def uptoBulk {H : Type} : DataW H → Nat
  | .lit (.string bytes) => bytes.length + 1
  | .lit _ => 1
  | .nil => 1
  | .ptr d => uptoBulk d + 1
  | .slice elems spare => uptoBulkAll elems + uptoBulkAll spare + 1
  | .agg parts => uptoBulkAll parts + 1
  | .iface _ d => uptoBulk d + 1
  | .map entries => uptoBulkEntries entries + 1
  | .held _ => 1
def uptoBulkAll {H : Type} : List (DataW H) → Nat
  | [] => 0
  | d :: r => uptoBulk d + uptoBulkAll r
def uptoBulkEntries {H : Type} : List (Lit × DataW H) → Nat
  | [] => 0
  | x :: r => uptoBulkEntry x + uptoBulkEntries r
def uptoBulkEntry {H : Type} : Lit × DataW H → Nat
  | (.string bytes, d) => bytes.length + uptoBulk d + 1
  | (_, d) => uptoBulk d + 1
 end
def uptoSmall : (H : Type) → List (DataW H) → Bool := fun _ ds => decide (uptoBulkAll ds ≤ 1048576)
def OpenSpec.upto (s : _root_.Go.ChangeSpec) : _root_.Go.OpenSpec := { _root_.Go.OpenSpec.ofChange s with cond := some uptoSmall }

/-- 'laws.FnExactVerticesOf', WHERE WHAT IT READS IS OF BULK AT MOST 1048576: true; the input reads as it did. -/
def fnExactVerticesOfUptoRow : OpenClaim := { program := "ytbdndkombedfnaa", sum := "7edca75c1d052f95d2c5df4b6fd00a54d1c70bf4270a7524e8e346df8009e675", func := "loop.example/g00959/laws.FnExactVerticesOf", spec := "fnExactVerticesOf", unfollowed := true, recurses := true, apart := false, narrowed := true }
def FnExactVerticesOfUptoSaid : Prop := fnExactVerticesOfUptoRow.holds Try.pinned (OpenSpec.upto fnExactVerticesOfSpec)

/-- 'laws.FnExactIsWholeRegion', WHERE WHAT IT READS IS OF BULK AT MOST 1048576: true; the input reads as it did. -/
def fnExactIsWholeRegionUptoRow : OpenClaim := { program := "ytbdndkombedfnaa", sum := "7edca75c1d052f95d2c5df4b6fd00a54d1c70bf4270a7524e8e346df8009e675", func := "loop.example/g00959/laws.FnExactIsWholeRegion", spec := "fnExactIsWholeRegion", unfollowed := true, recurses := true, apart := false, narrowed := true }
def FnExactIsWholeRegionUptoSaid : Prop := fnExactIsWholeRegionUptoRow.holds Try.pinned (OpenSpec.upto fnExactIsWholeRegionSpec)

end Rows
end Go.Proofs.Ytbdndkombedfnaa
