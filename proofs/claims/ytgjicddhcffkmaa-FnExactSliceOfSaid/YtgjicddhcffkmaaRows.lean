/-
  No cell of these rows narrows 'for every input' (looked for: loops, veiled, ifaces, maps, wideKeys, modest, calm, conditions, laid).
  DERIVED. THE GIVEN ROWS OF THIS SEAT. 8 by the template 'for every input the law returns true; each argument reads behind the call as it read before'; 0 by the template 'total and deterministic' (their statements: YtgjicddhcffkmaaTotals.lean).
  GIVEN WITH THE SEED: the statements are not yours to turn. If you find one false, say at which input.
  Laid BY PROGRAM, IN A SANDBOX (cutbox-rows.mjs): the forced cells as the released guide's own fill.sh prints them over the translation 1535eae570b15489… (all of the seat's roots in one cut). By AI agents, Wed Nov 11 2026. No macro, syntax, notation, axiom, sorry.
-/
import Derived.Test.YtgjicddhcffkmaaChecked
import GoSem.Claim
import GoSem.ClaimJoined
import GoSem.ClaimMapViews
import Derived.JoinedTies
import Derived.KernelRfl
namespace Go.Proofs.Ytgjicddhcffkmaa
/- THE CELL 'sum', in the pinned program and in every row, IS THE sha256 OF THE DUMP (.gsa) THAT YtgjicddhcffkmaaProg.lean LOADS. Nothing in Lean hashes anything: it is a label: what it is worth is what the hold of that sum in a sandbox is worth. -/
noncomputable def Try.pinned : Pinned := { name := "ytgjicddhcffkmaa", sum := "1535eae570b15489e26ce444ed2e01807774f439b9bdc686bb7f3bb95db9d916", checked := Try.checked }
namespace Rows
def none {H : Type} : Left H := { results := [], args := [] }

/-- 'laws.FnExactEqualRegion': WHATEVER THE INPUT: true; the input reads as it did. -/
def fnExactEqualRegionSpec : ChangeSpec := { name := "fnExactEqualRegion", fn := fun _ => fun
  | [d1, d2] => { results := [.lit (.bool true)], args := [d1, d2] }
  | _ => none }
def fnExactEqualRegionRow : OpenClaim := { program := "ytgjicddhcffkmaa", sum := "1535eae570b15489e26ce444ed2e01807774f439b9bdc686bb7f3bb95db9d916", func := "loop.example/g00959/laws.FnExactEqualRegion", spec := "fnExactEqualRegion", unfollowed := true, recurses := true, apart := false }
def FnExactEqualRegionSaid : Prop := fnExactEqualRegionRow.holds Try.pinned (OpenSpec.ofChange fnExactEqualRegionSpec)

/-- ITS FALSE NEIGHBOUR: 'it returns false'. Refute it at one input. -/
def fnExactEqualRegionWrong : ChangeSpec := { name := "fnExactEqualRegion", fn := fun _ => fun
  | [d1, d2] => { results := [.lit (.bool false)], args := [d1, d2] }
  | _ => none }
def FnExactEqualRegionWrongFalsely : Prop := fnExactEqualRegionRow.holds Try.pinned (OpenSpec.ofChange fnExactEqualRegionWrong)

/-- 'laws.FnExactHasRational': WHATEVER THE INPUT: true; the input reads as it did. -/
def fnExactHasRationalSpec : ChangeSpec := { name := "fnExactHasRational", fn := fun _ => fun
  | [d1, d2] => { results := [.lit (.bool true)], args := [d1, d2] }
  | _ => none }
def fnExactHasRationalRow : OpenClaim := { program := "ytgjicddhcffkmaa", sum := "1535eae570b15489e26ce444ed2e01807774f439b9bdc686bb7f3bb95db9d916", func := "loop.example/g00959/laws.FnExactHasRational", spec := "fnExactHasRational", apart := false }
def FnExactHasRationalSaid : Prop := fnExactHasRationalRow.holds Try.pinned (OpenSpec.ofChange fnExactHasRationalSpec)

/-- ITS FALSE NEIGHBOUR: 'it returns false'. Refute it at one input. -/
def fnExactHasRationalWrong : ChangeSpec := { name := "fnExactHasRational", fn := fun _ => fun
  | [d1, d2] => { results := [.lit (.bool false)], args := [d1, d2] }
  | _ => none }
def FnExactHasRationalWrongFalsely : Prop := fnExactHasRationalRow.holds Try.pinned (OpenSpec.ofChange fnExactHasRationalWrong)

/-- 'laws.FnExactSliceOf': WHATEVER THE INPUT: true; the input reads as it did. -/
def fnExactSliceOfSpec : ChangeSpec := { name := "fnExactSliceOf", fn := fun _ => fun
  | [d1, d2, d3] => { results := [.lit (.bool true)], args := [d1, d2, d3] }
  | _ => none }
def fnExactSliceOfRow : OpenClaim := { program := "ytgjicddhcffkmaa", sum := "1535eae570b15489e26ce444ed2e01807774f439b9bdc686bb7f3bb95db9d916", func := "loop.example/g00959/laws.FnExactSliceOf", spec := "fnExactSliceOf", apart := false }
def FnExactSliceOfSaid : Prop := fnExactSliceOfRow.holds Try.pinned (OpenSpec.ofChange fnExactSliceOfSpec)

/-- ITS FALSE NEIGHBOUR: 'it returns false'. Refute it at one input. -/
def fnExactSliceOfWrong : ChangeSpec := { name := "fnExactSliceOf", fn := fun _ => fun
  | [d1, d2, d3] => { results := [.lit (.bool false)], args := [d1, d2, d3] }
  | _ => none }
def FnExactSliceOfWrongFalsely : Prop := fnExactSliceOfRow.holds Try.pinned (OpenSpec.ofChange fnExactSliceOfWrong)

/-- 'laws.FnExactCountIn': WHATEVER THE INPUT: true; the input reads as it did. -/
def fnExactCountInSpec : ChangeSpec := { name := "fnExactCountIn", fn := fun _ => fun
  | [d] => { results := [.lit (.bool true)], args := [d] }
  | _ => none }
def fnExactCountInRow : OpenClaim := { program := "ytgjicddhcffkmaa", sum := "1535eae570b15489e26ce444ed2e01807774f439b9bdc686bb7f3bb95db9d916", func := "loop.example/g00959/laws.FnExactCountIn", spec := "fnExactCountIn", apart := false }
def FnExactCountInSaid : Prop := fnExactCountInRow.holds Try.pinned (OpenSpec.ofChange fnExactCountInSpec)

/-- ITS FALSE NEIGHBOUR: 'it returns false'. Refute it at one input. -/
def fnExactCountInWrong : ChangeSpec := { name := "fnExactCountIn", fn := fun _ => fun
  | [d] => { results := [.lit (.bool false)], args := [d] }
  | _ => none }
def FnExactCountInWrongFalsely : Prop := fnExactCountInRow.holds Try.pinned (OpenSpec.ofChange fnExactCountInWrong)

/-- 'laws.FnExactMeetRegions': WHATEVER THE INPUT: true; the input reads as it did. -/
def fnExactMeetRegionsSpec : ChangeSpec := { name := "fnExactMeetRegions", fn := fun _ => fun
  | [d1, d2] => { results := [.lit (.bool true)], args := [d1, d2] }
  | _ => none }
def fnExactMeetRegionsRow : OpenClaim := { program := "ytgjicddhcffkmaa", sum := "1535eae570b15489e26ce444ed2e01807774f439b9bdc686bb7f3bb95db9d916", func := "loop.example/g00959/laws.FnExactMeetRegions", spec := "fnExactMeetRegions", unfollowed := true, recurses := true, apart := false }
def FnExactMeetRegionsSaid : Prop := fnExactMeetRegionsRow.holds Try.pinned (OpenSpec.ofChange fnExactMeetRegionsSpec)

/-- ITS FALSE NEIGHBOUR: 'it returns false'. Refute it at one input. -/
def fnExactMeetRegionsWrong : ChangeSpec := { name := "fnExactMeetRegions", fn := fun _ => fun
  | [d1, d2] => { results := [.lit (.bool false)], args := [d1, d2] }
  | _ => none }
def FnExactMeetRegionsWrongFalsely : Prop := fnExactMeetRegionsRow.holds Try.pinned (OpenSpec.ofChange fnExactMeetRegionsWrong)

/-- 'laws.FnExactPointsIn': WHATEVER THE INPUT: true; the input reads as it did. -/
def fnExactPointsInSpec : ChangeSpec := { name := "fnExactPointsIn", fn := fun _ => fun
  | [d] => { results := [.lit (.bool true)], args := [d] }
  | _ => none }
def fnExactPointsInRow : OpenClaim := { program := "ytgjicddhcffkmaa", sum := "1535eae570b15489e26ce444ed2e01807774f439b9bdc686bb7f3bb95db9d916", func := "loop.example/g00959/laws.FnExactPointsIn", spec := "fnExactPointsIn", apart := false }
def FnExactPointsInSaid : Prop := fnExactPointsInRow.holds Try.pinned (OpenSpec.ofChange fnExactPointsInSpec)

/-- ITS FALSE NEIGHBOUR: 'it returns false'. Refute it at one input. -/
def fnExactPointsInWrong : ChangeSpec := { name := "fnExactPointsIn", fn := fun _ => fun
  | [d] => { results := [.lit (.bool false)], args := [d] }
  | _ => none }
def FnExactPointsInWrongFalsely : Prop := fnExactPointsInRow.holds Try.pinned (OpenSpec.ofChange fnExactPointsInWrong)

/-- 'laws.FnExactLeastIn': WHATEVER THE INPUT: true; the input reads as it did. -/
def fnExactLeastInSpec : ChangeSpec := { name := "fnExactLeastIn", fn := fun _ => fun
  | [d1, d2] => { results := [.lit (.bool true)], args := [d1, d2] }
  | _ => none }
def fnExactLeastInRow : OpenClaim := { program := "ytgjicddhcffkmaa", sum := "1535eae570b15489e26ce444ed2e01807774f439b9bdc686bb7f3bb95db9d916", func := "loop.example/g00959/laws.FnExactLeastIn", spec := "fnExactLeastIn", apart := false }
def FnExactLeastInSaid : Prop := fnExactLeastInRow.holds Try.pinned (OpenSpec.ofChange fnExactLeastInSpec)

/-- ITS FALSE NEIGHBOUR: 'it returns false'. Refute it at one input. -/
def fnExactLeastInWrong : ChangeSpec := { name := "fnExactLeastIn", fn := fun _ => fun
  | [d1, d2] => { results := [.lit (.bool false)], args := [d1, d2] }
  | _ => none }
def FnExactLeastInWrongFalsely : Prop := fnExactLeastInRow.holds Try.pinned (OpenSpec.ofChange fnExactLeastInWrong)

/-- 'laws.FnExactMostIn': WHATEVER THE INPUT: true; the input reads as it did. -/
def fnExactMostInSpec : ChangeSpec := { name := "fnExactMostIn", fn := fun _ => fun
  | [d1, d2] => { results := [.lit (.bool true)], args := [d1, d2] }
  | _ => none }
def fnExactMostInRow : OpenClaim := { program := "ytgjicddhcffkmaa", sum := "1535eae570b15489e26ce444ed2e01807774f439b9bdc686bb7f3bb95db9d916", func := "loop.example/g00959/laws.FnExactMostIn", spec := "fnExactMostIn", apart := false }
def FnExactMostInSaid : Prop := fnExactMostInRow.holds Try.pinned (OpenSpec.ofChange fnExactMostInSpec)

/-- ITS FALSE NEIGHBOUR: 'it returns false'. Refute it at one input. -/
def fnExactMostInWrong : ChangeSpec := { name := "fnExactMostIn", fn := fun _ => fun
  | [d1, d2] => { results := [.lit (.bool false)], args := [d1, d2] }
  | _ => none }
def FnExactMostInWrongFalsely : Prop := fnExactMostInRow.holds Try.pinned (OpenSpec.ofChange fnExactMostInWrong)

/- THE SECOND FORM. 'bulk': how many values and letters a reading holds, each counted each time it is reached (what is shared counts as often as it is met; a slice's spare places count too). A statement '..UptoSaid' is the law's where the arguments, and the package variables that the reading takes, are together of bulk at most 1048576: NARROWER than '..Said'. Prove '..Said' where nothing that the law and all that it calls make is longer than what came in: it says more and counts as full. Else prove '..UptoSaid'. A law counts once. -/
mutual
def uptoBulk {H : Type} : DataW H → Nat
  | .lit (.string bytes) => bytes.length + 1
  | .lit _ => 1
  | .nil => 1
  | .ptr d => uptoBulk d + 1
  | .slice elems spare => uptoBulkAll elems + uptoBulkAll spare + 1
  | .agg parts => uptoBulkAll parts + 1
  | .iface _ d => uptoBulk d + 1
  | .map entries => uptoBulkEntries entries + 1
  | .held _ => 1
def uptoBulkAll {H : Type} : List (DataW H) → Nat
  | [] => 0
  | d :: r => uptoBulk d + uptoBulkAll r
def uptoBulkEntries {H : Type} : List (Lit × DataW H) → Nat
  | [] => 0
  | x :: r => uptoBulkEntry x + uptoBulkEntries r
def uptoBulkEntry {H : Type} : Lit × DataW H → Nat
  | (.string bytes, d) => bytes.length + uptoBulk d + 1
  | (_, d) => uptoBulk d + 1
 end
def uptoSmall : (H : Type) → List (DataW H) → Bool := fun _ ds => decide (uptoBulkAll ds ≤ 1048576)
def OpenSpec.upto (s : _root_.Go.ChangeSpec) : _root_.Go.OpenSpec := { _root_.Go.OpenSpec.ofChange s with cond := some uptoSmall }

/-- 'laws.FnExactEqualRegion', WHERE WHAT IT READS IS OF BULK AT MOST 1048576: true; the input reads as it did. -/
def fnExactEqualRegionUptoRow : OpenClaim := { program := "ytgjicddhcffkmaa", sum := "1535eae570b15489e26ce444ed2e01807774f439b9bdc686bb7f3bb95db9d916", func := "loop.example/g00959/laws.FnExactEqualRegion", spec := "fnExactEqualRegion", unfollowed := true, recurses := true, apart := false, narrowed := true }
def FnExactEqualRegionUptoSaid : Prop := fnExactEqualRegionUptoRow.holds Try.pinned (OpenSpec.upto fnExactEqualRegionSpec)

/-- 'laws.FnExactHasRational', WHERE WHAT IT READS IS OF BULK AT MOST 1048576: true; the input reads as it did. -/
def fnExactHasRationalUptoRow : OpenClaim := { program := "ytgjicddhcffkmaa", sum := "1535eae570b15489e26ce444ed2e01807774f439b9bdc686bb7f3bb95db9d916", func := "loop.example/g00959/laws.FnExactHasRational", spec := "fnExactHasRational", apart := false, narrowed := true }
def FnExactHasRationalUptoSaid : Prop := fnExactHasRationalUptoRow.holds Try.pinned (OpenSpec.upto fnExactHasRationalSpec)

/-- 'laws.FnExactSliceOf', WHERE WHAT IT READS IS OF BULK AT MOST 1048576: true; the input reads as it did. -/
def fnExactSliceOfUptoRow : OpenClaim := { program := "ytgjicddhcffkmaa", sum := "1535eae570b15489e26ce444ed2e01807774f439b9bdc686bb7f3bb95db9d916", func := "loop.example/g00959/laws.FnExactSliceOf", spec := "fnExactSliceOf", apart := false, narrowed := true }
def FnExactSliceOfUptoSaid : Prop := fnExactSliceOfUptoRow.holds Try.pinned (OpenSpec.upto fnExactSliceOfSpec)

/-- 'laws.FnExactCountIn', WHERE WHAT IT READS IS OF BULK AT MOST 1048576: true; the input reads as it did. -/
def fnExactCountInUptoRow : OpenClaim := { program := "ytgjicddhcffkmaa", sum := "1535eae570b15489e26ce444ed2e01807774f439b9bdc686bb7f3bb95db9d916", func := "loop.example/g00959/laws.FnExactCountIn", spec := "fnExactCountIn", apart := false, narrowed := true }
def FnExactCountInUptoSaid : Prop := fnExactCountInUptoRow.holds Try.pinned (OpenSpec.upto fnExactCountInSpec)

/-- 'laws.FnExactMeetRegions', WHERE WHAT IT READS IS OF BULK AT MOST 1048576: true; the input reads as it did. -/
def fnExactMeetRegionsUptoRow : OpenClaim := { program := "ytgjicddhcffkmaa", sum := "1535eae570b15489e26ce444ed2e01807774f439b9bdc686bb7f3bb95db9d916", func := "loop.example/g00959/laws.FnExactMeetRegions", spec := "fnExactMeetRegions", unfollowed := true, recurses := true, apart := false, narrowed := true }
def FnExactMeetRegionsUptoSaid : Prop := fnExactMeetRegionsUptoRow.holds Try.pinned (OpenSpec.upto fnExactMeetRegionsSpec)

/-- 'laws.FnExactPointsIn', WHERE WHAT IT READS IS OF BULK AT MOST 1048576: true; the input reads as it did. -/
def fnExactPointsInUptoRow : OpenClaim := { program := "ytgjicddhcffkmaa", sum := "1535eae570b15489e26ce444ed2e01807774f439b9bdc686bb7f3bb95db9d916", func := "loop.example/g00959/laws.FnExactPointsIn", spec := "fnExactPointsIn", apart := false, narrowed := true }
def FnExactPointsInUptoSaid : Prop := fnExactPointsInUptoRow.holds Try.pinned (OpenSpec.upto fnExactPointsInSpec)

/-- 'laws.FnExactLeastIn', WHERE WHAT IT READS IS OF BULK AT MOST 1048576: true; the input reads as it did. -/
def fnExactLeastInUptoRow : OpenClaim := { program := "ytgjicddhcffkmaa", sum := "1535eae570b15489e26ce444ed2e01807774f439b9bdc686bb7f3bb95db9d916", func := "loop.example/g00959/laws.FnExactLeastIn", spec := "fnExactLeastIn", apart := false, narrowed := true }
def FnExactLeastInUptoSaid : Prop := fnExactLeastInUptoRow.holds Try.pinned (OpenSpec.upto fnExactLeastInSpec)

/-- 'laws.FnExactMostIn', WHERE WHAT IT READS IS OF BULK AT MOST 1048576: true; the input reads as it did. -/
def fnExactMostInUptoRow : OpenClaim := { program := "ytgjicddhcffkmaa", sum := "1535eae570b15489e26ce444ed2e01807774f439b9bdc686bb7f3bb95db9d916", func := "loop.example/g00959/laws.FnExactMostIn", spec := "fnExactMostIn", apart := false, narrowed := true }
def FnExactMostInUptoSaid : Prop := fnExactMostInUptoRow.holds Try.pinned (OpenSpec.upto fnExactMostInSpec)

end Rows
end Go.Proofs.Ytgjicddhcffkmaa
