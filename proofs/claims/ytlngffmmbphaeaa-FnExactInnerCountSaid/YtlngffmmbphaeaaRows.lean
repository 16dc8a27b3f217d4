/-
  No cell of these rows narrows 'for every input' (looked for: loops, veiled, ifaces, maps, wideKeys, modest, calm, conditions, laid).
  DERIVED. THE GIVEN ROWS OF THIS SEAT. 6 by the template 'for every input the law returns true; each argument reads behind the call as it read before'; 0 by the template 'total and deterministic' (their statements: YtlngffmmbphaeaaTotals.lean).
  GIVEN WITH THE SEED: the statements are not yours to turn. If you find one false, say at which input.
  Laid BY PROGRAM, IN A SANDBOX (cutbox-rows.mjs): the forced cells as the released guide's own fill.sh prints them over the translation 231b401c9415370e… (all of the seat's roots in one cut). By AI agents, Wed Nov 11 2026. No macro, syntax, notation, axiom, sorry.
-/
import Derived.Test.YtlngffmmbphaeaaChecked
import GoSem.Claim
import GoSem.ClaimJoined
import GoSem.ClaimMapViews
import Derived.JoinedTies
import Derived.KernelRfl
namespace Go.Proofs.Ytlngffmmbphaeaa
/- THE CELL 'sum', in the pinned program and in every row, IS THE sha256 OF THE DUMP (.gsa) THAT YtlngffmmbphaeaaProg.lean LOADS. Nothing in Lean hashes anything: it is a label: what it is worth is what the hold of that sum in a sandbox is worth. -/
noncomputable def Try.pinned : Pinned := { name := "ytlngffmmbphaeaa", sum := "231b401c9415370ee40086ac8ef0057aba3b23878a667375e2d575620f15faad", checked := Try.checked }
namespace Rows
def none {H : Type} : Left H := { results := [], args := [] }

/-- 'laws.FnExactIsPolygon': WHATEVER THE INPUT: true; the input reads as it did. -/
def fnExactIsPolygonSpec : ChangeSpec := { name := "fnExactIsPolygon", fn := fun _ => fun
  | [d] => { results := [.lit (.bool true)], args := [d] }
  | _ => none }
def fnExactIsPolygonRow : OpenClaim := { program := "ytlngffmmbphaeaa", sum := "231b401c9415370ee40086ac8ef0057aba3b23878a667375e2d575620f15faad", func := "loop.example/g00959/laws.FnExactIsPolygon", spec := "fnExactIsPolygon", apart := false }
def FnExactIsPolygonSaid : Prop := fnExactIsPolygonRow.holds Try.pinned (OpenSpec.ofChange fnExactIsPolygonSpec)

/-- ITS FALSE NEIGHBOUR: 'it returns false'. Refute it at one input. -/
def fnExactIsPolygonWrong : ChangeSpec := { name := "fnExactIsPolygon", fn := fun _ => fun
  | [d] => { results := [.lit (.bool false)], args := [d] }
  | _ => none }
def FnExactIsPolygonWrongFalsely : Prop := fnExactIsPolygonRow.holds Try.pinned (OpenSpec.ofChange fnExactIsPolygonWrong)

/-- 'laws.FnExactAreaTwice': WHATEVER THE INPUT: true; the input reads as it did. -/
def fnExactAreaTwiceSpec : ChangeSpec := { name := "fnExactAreaTwice", fn := fun _ => fun
  | [d] => { results := [.lit (.bool true)], args := [d] }
  | _ => none }
def fnExactAreaTwiceRow : OpenClaim := { program := "ytlngffmmbphaeaa", sum := "231b401c9415370ee40086ac8ef0057aba3b23878a667375e2d575620f15faad", func := "loop.example/g00959/laws.FnExactAreaTwice", spec := "fnExactAreaTwice", apart := false }
def FnExactAreaTwiceSaid : Prop := fnExactAreaTwiceRow.holds Try.pinned (OpenSpec.ofChange fnExactAreaTwiceSpec)

/-- ITS FALSE NEIGHBOUR: 'it returns false'. Refute it at one input. -/
def fnExactAreaTwiceWrong : ChangeSpec := { name := "fnExactAreaTwice", fn := fun _ => fun
  | [d] => { results := [.lit (.bool false)], args := [d] }
  | _ => none }
def FnExactAreaTwiceWrongFalsely : Prop := fnExactAreaTwiceRow.holds Try.pinned (OpenSpec.ofChange fnExactAreaTwiceWrong)

/-- 'laws.FnExactPlaceOf': WHATEVER THE INPUT: true; the input reads as it did. -/
def fnExactPlaceOfSpec : ChangeSpec := { name := "fnExactPlaceOf", fn := fun _ => fun
  | [d1, d2] => { results := [.lit (.bool true)], args := [d1, d2] }
  | _ => none }
def fnExactPlaceOfRow : OpenClaim := { program := "ytlngffmmbphaeaa", sum := "231b401c9415370ee40086ac8ef0057aba3b23878a667375e2d575620f15faad", func := "loop.example/g00959/laws.FnExactPlaceOf", spec := "fnExactPlaceOf", apart := false }
def FnExactPlaceOfSaid : Prop := fnExactPlaceOfRow.holds Try.pinned (OpenSpec.ofChange fnExactPlaceOfSpec)

/-- ITS FALSE NEIGHBOUR: 'it returns false'. Refute it at one input. -/
def fnExactPlaceOfWrong : ChangeSpec := { name := "fnExactPlaceOf", fn := fun _ => fun
  | [d1, d2] => { results := [.lit (.bool false)], args := [d1, d2] }
  | _ => none }
def FnExactPlaceOfWrongFalsely : Prop := fnExactPlaceOfRow.holds Try.pinned (OpenSpec.ofChange fnExactPlaceOfWrong)

/-- 'laws.FnExactBoundaryCount': WHATEVER THE INPUT: true; the input reads as it did. -/
def fnExactBoundaryCountSpec : ChangeSpec := { name := "fnExactBoundaryCount", fn := fun _ => fun
  | [d] => { results := [.lit (.bool true)], args := [d] }
  | _ => none }
def fnExactBoundaryCountRow : OpenClaim := { program := "ytlngffmmbphaeaa", sum := "231b401c9415370ee40086ac8ef0057aba3b23878a667375e2d575620f15faad", func := "loop.example/g00959/laws.FnExactBoundaryCount", spec := "fnExactBoundaryCount", apart := false }
def FnExactBoundaryCountSaid : Prop := fnExactBoundaryCountRow.holds Try.pinned (OpenSpec.ofChange fnExactBoundaryCountSpec)

/-- ITS FALSE NEIGHBOUR: 'it returns false'. Refute it at one input. -/
def fnExactBoundaryCountWrong : ChangeSpec := { name := "fnExactBoundaryCount", fn := fun _ => fun
  | [d] => { results := [.lit (.bool false)], args := [d] }
  | _ => none }
def FnExactBoundaryCountWrongFalsely : Prop := fnExactBoundaryCountRow.holds Try.pinned (OpenSpec.ofChange fnExactBoundaryCountWrong)

/-- 'laws.FnExactInnerCount': WHATEVER THE INPUT: true; the input reads as it did. -/
def fnExactInnerCountSpec : ChangeSpec := { name := "fnExactInnerCount", fn := fun _ => fun
  | [d] => { results := [.lit (.bool true)], args := [d] }
  | _ => none }
def fnExactInnerCountRow : OpenClaim := { program := "ytlngffmmbphaeaa", sum := "231b401c9415370ee40086ac8ef0057aba3b23878a667375e2d575620f15faad", func := "loop.example/g00959/laws.FnExactInnerCount", spec := "fnExactInnerCount", apart := false }
def FnExactInnerCountSaid : Prop := fnExactInnerCountRow.holds Try.pinned (OpenSpec.ofChange fnExactInnerCountSpec)

/-- ITS FALSE NEIGHBOUR: 'it returns false'. Refute it at one input. -/
def fnExactInnerCountWrong : ChangeSpec := { name := "fnExactInnerCount", fn := fun _ => fun
  | [d] => { results := [.lit (.bool false)], args := [d] }
  | _ => none }
def FnExactInnerCountWrongFalsely : Prop := fnExactInnerCountRow.holds Try.pinned (OpenSpec.ofChange fnExactInnerCountWrong)

/-- 'laws.FnExactPolygonPoints': WHATEVER THE INPUT: true; the input reads as it did. -/
def fnExactPolygonPointsSpec : ChangeSpec := { name := "fnExactPolygonPoints", fn := fun _ => fun
  | [d] => { results := [.lit (.bool true)], args := [d] }
  | _ => none }
def fnExactPolygonPointsRow : OpenClaim := { program := "ytlngffmmbphaeaa", sum := "231b401c9415370ee40086ac8ef0057aba3b23878a667375e2d575620f15faad", func := "loop.example/g00959/laws.FnExactPolygonPoints", spec := "fnExactPolygonPoints", apart := false }
def FnExactPolygonPointsSaid : Prop := fnExactPolygonPointsRow.holds Try.pinned (OpenSpec.ofChange fnExactPolygonPointsSpec)

/-- ITS FALSE NEIGHBOUR: 'it returns false'. Refute it at one input. -/
def fnExactPolygonPointsWrong : ChangeSpec := { name := "fnExactPolygonPoints", fn := fun _ => fun
  | [d] => { results := [.lit (.bool false)], args := [d] }
  | _ => none }
def FnExactPolygonPointsWrongFalsely : Prop := fnExactPolygonPointsRow.holds Try.pinned (OpenSpec.ofChange fnExactPolygonPointsWrong)

/- THE SECOND FORM. 'bulk': how many values and letters a reading holds, each counted each time it is reached (what is shared counts as often as it is met; a slice's spare places count too). A statement '..UptoSaid' is the law's where the arguments, and the package variables that the reading takes, are together of bulk at most 1048576: NARROWER than '..Said'. Prove '..Said' where nothing that the law and all that it calls make is longer than what came in: it says more and counts as full. Else prove '..UptoSaid'. A law counts once. -/
mutual
def uptoBulk {H : Type} : DataW H → Nat
  | .lit (.string bytes) => bytes.length + 1
  | .lit _ => 1
  | .nil => 1
  | .ptr d => uptoBulk d + 1
  | .slice elems spare => uptoBulkAll elems + uptoBulkAll spare + 1
  | .agg parts => uptoBulkAll parts + 1
  | .iface _ d => uptoBulk d + 1
  | .map entries => uptoBulkEntries entries + 1
  | .held _ => 1
def uptoBulkAll {H : Type} : List (DataW H) → Nat
  | [] => 0
  | d :: r => uptoBulk d + uptoBulkAll r
def uptoBulkEntries {H : Type} : List (Lit × DataW H) → Nat
  | [] => 0
  | x :: r => uptoBulkEntry x + uptoBulkEntries r
def uptoBulkEntry {H : Type} : Lit × DataW H → Nat
  | (.string bytes, d) => bytes.length + uptoBulk d + 1
  | (_, d) => uptoBulk d + 1
 end
def uptoSmall : (H : Type) → List (DataW H) → Bool := fun _ ds => decide (uptoBulkAll ds ≤ 1048576)
def OpenSpec.upto (s : _root_.Go.ChangeSpec) : _root_.Go.OpenSpec := { _root_.Go.OpenSpec.ofChange s with cond := some uptoSmall }

/-- 'laws.FnExactIsPolygon', WHERE WHAT IT READS IS OF BULK AT MOST 1048576: true; the input reads as it did. -/
def fnExactIsPolygonUptoRow : OpenClaim := { program := "ytlngffmmbphaeaa", sum := "231b401c9415370ee40086ac8ef0057aba3b23878a667375e2d575620f15faad", func := "loop.example/g00959/laws.FnExactIsPolygon", spec := "fnExactIsPolygon", apart := false, narrowed := true }
def FnExactIsPolygonUptoSaid : Prop := fnExactIsPolygonUptoRow.holds Try.pinned (OpenSpec.upto fnExactIsPolygonSpec)

/-- 'laws.FnExactAreaTwice', WHERE WHAT IT READS IS OF BULK AT MOST 1048576: true; the input reads as it did. -/
def fnExactAreaTwiceUptoRow : OpenClaim := { program := "ytlngffmmbphaeaa", sum := "231b401c9415370ee40086ac8ef0057aba3b23878a667375e2d575620f15faad", func := "loop.example/g00959/laws.FnExactAreaTwice", spec := "fnExactAreaTwice", apart := false, narrowed := true }
def FnExactAreaTwiceUptoSaid : Prop := fnExactAreaTwiceUptoRow.holds Try.pinned (OpenSpec.upto fnExactAreaTwiceSpec)

/-- 'laws.FnExactPlaceOf', WHERE WHAT IT READS IS OF BULK AT MOST 1048576: true; the input reads as it did. -/
def fnExactPlaceOfUptoRow : OpenClaim := { program := "ytlngffmmbphaeaa", sum := "231b401c9415370ee40086ac8ef0057aba3b23878a667375e2d575620f15faad", func := "loop.example/g00959/laws.FnExactPlaceOf", spec := "fnExactPlaceOf", apart := false, narrowed := true }
def FnExactPlaceOfUptoSaid : Prop := fnExactPlaceOfUptoRow.holds Try.pinned (OpenSpec.upto fnExactPlaceOfSpec)

/-- 'laws.FnExactBoundaryCount', WHERE WHAT IT READS IS OF BULK AT MOST 1048576: true; the input reads as it did. -/
def fnExactBoundaryCountUptoRow : OpenClaim := { program := "ytlngffmmbphaeaa", sum := "231b401c9415370ee40086ac8ef0057aba3b23878a667375e2d575620f15faad", func := "loop.example/g00959/laws.FnExactBoundaryCount", spec := "fnExactBoundaryCount", apart := false, narrowed := true }
def FnExactBoundaryCountUptoSaid : Prop := fnExactBoundaryCountUptoRow.holds Try.pinned (OpenSpec.upto fnExactBoundaryCountSpec)

/-- 'laws.FnExactInnerCount', WHERE WHAT IT READS IS OF BULK AT MOST 1048576: true; the input reads as it did. -/
def fnExactInnerCountUptoRow : OpenClaim := { program := "ytlngffmmbphaeaa", sum := "231b401c9415370ee40086ac8ef0057aba3b23878a667375e2d575620f15faad", func := "loop.example/g00959/laws.FnExactInnerCount", spec := "fnExactInnerCount", apart := false, narrowed := true }
def FnExactInnerCountUptoSaid : Prop := fnExactInnerCountUptoRow.holds Try.pinned (OpenSpec.upto fnExactInnerCountSpec)

/-- 'laws.FnExactPolygonPoints', WHERE WHAT IT READS IS OF BULK AT MOST 1048576: true; the input reads as it did. -/
def fnExactPolygonPointsUptoRow : OpenClaim := { program := "ytlngffmmbphaeaa", sum := "231b401c9415370ee40086ac8ef0057aba3b23878a667375e2d575620f15faad", func := "loop.example/g00959/laws.FnExactPolygonPoints", spec := "fnExactPolygonPoints", apart := false, narrowed := true }
def FnExactPolygonPointsUptoSaid : Prop := fnExactPolygonPointsUptoRow.holds Try.pinned (OpenSpec.upto fnExactPolygonPointsSpec)

end Rows
end Go.Proofs.Ytlngffmmbphaeaa
