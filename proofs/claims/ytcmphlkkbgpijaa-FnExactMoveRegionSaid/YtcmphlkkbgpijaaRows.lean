/-
  No cell of these rows narrows 'for every input' (looked for: loops, veiled, ifaces, maps, wideKeys, modest, calm, conditions, laid).
  DERIVED. THE GIVEN ROWS OF THIS SEAT. 12 by the template 'for every input the law returns true; each argument reads behind the call as it read before'; 0 by the template 'total and deterministic' (their statements: YtcmphlkkbgpijaaTotals.lean).
  GIVEN WITH THE SEED: the statements are not yours to turn. If you find one false, say at which input.
  Laid BY PROGRAM, IN A SANDBOX (cutbox-rows.mjs): the forced cells as the released guide's own fill.sh prints them over the translation bb52bab2c58329ca… (all of the seat's roots in one cut). By AI agents, Wed Nov 11 2026. No macro, syntax, notation, axiom, sorry.
-/
import Derived.Test.YtcmphlkkbgpijaaChecked
import GoSem.Claim
import GoSem.ClaimJoined
import GoSem.ClaimMapViews
import Derived.JoinedTies
import Derived.KernelRfl
namespace Go.Proofs.Ytcmphlkkbgpijaa
/- THE CELL 'sum', in the pinned program and in every row, IS THE sha256 OF THE DUMP (.gsa) THAT YtcmphlkkbgpijaaProg.lean LOADS. Nothing in Lean hashes anything: it is a label: what it is worth is what the hold of that sum in a sandbox is worth. -/
noncomputable def Try.pinned : Pinned := { name := "ytcmphlkkbgpijaa", sum := "bb52bab2c58329cae6d19924bb97fffdaf70ee8fa3f7a738bbdda9041dca725c", checked := Try.checked }
namespace Rows
def none {H : Type} : Left H := { results := [], args := [] }

/-- 'laws.FnExactDetOf': WHATEVER THE INPUT: true; the input reads as it did. -/
def fnExactDetOfSpec : ChangeSpec := { name := "fnExactDetOf", fn := fun _ => fun
  | [d] => { results := [.lit (.bool true)], args := [d] }
  | _ => none }
def fnExactDetOfRow : OpenClaim := { program := "ytcmphlkkbgpijaa", sum := "bb52bab2c58329cae6d19924bb97fffdaf70ee8fa3f7a738bbdda9041dca725c", func := "loop.example/g00959/laws.FnExactDetOf", spec := "fnExactDetOf", recurses := true, apart := false }
def FnExactDetOfSaid : Prop := fnExactDetOfRow.holds Try.pinned (OpenSpec.ofChange fnExactDetOfSpec)

/-- ITS FALSE NEIGHBOUR: 'it returns false'. Refute it at one input. -/
def fnExactDetOfWrong : ChangeSpec := { name := "fnExactDetOf", fn := fun _ => fun
  | [d] => { results := [.lit (.bool false)], args := [d] }
  | _ => none }
def FnExactDetOfWrongFalsely : Prop := fnExactDetOfRow.holds Try.pinned (OpenSpec.ofChange fnExactDetOfWrong)

/-- 'laws.FnExactIsUnimodular': WHATEVER THE INPUT: true; the input reads as it did. -/
def fnExactIsUnimodularSpec : ChangeSpec := { name := "fnExactIsUnimodular", fn := fun _ => fun
  | [d] => { results := [.lit (.bool true)], args := [d] }
  | _ => none }
def fnExactIsUnimodularRow : OpenClaim := { program := "ytcmphlkkbgpijaa", sum := "bb52bab2c58329cae6d19924bb97fffdaf70ee8fa3f7a738bbdda9041dca725c", func := "loop.example/g00959/laws.FnExactIsUnimodular", spec := "fnExactIsUnimodular", recurses := true, apart := false }
def FnExactIsUnimodularSaid : Prop := fnExactIsUnimodularRow.holds Try.pinned (OpenSpec.ofChange fnExactIsUnimodularSpec)

/-- ITS FALSE NEIGHBOUR: 'it returns false'. Refute it at one input. -/
def fnExactIsUnimodularWrong : ChangeSpec := { name := "fnExactIsUnimodular", fn := fun _ => fun
  | [d] => { results := [.lit (.bool false)], args := [d] }
  | _ => none }
def FnExactIsUnimodularWrongFalsely : Prop := fnExactIsUnimodularRow.holds Try.pinned (OpenSpec.ofChange fnExactIsUnimodularWrong)

/-- 'laws.FnExactLatticeIndex': WHATEVER THE INPUT: true; the input reads as it did. -/
def fnExactLatticeIndexSpec : ChangeSpec := { name := "fnExactLatticeIndex", fn := fun _ => fun
  | [d] => { results := [.lit (.bool true)], args := [d] }
  | _ => none }
def fnExactLatticeIndexRow : OpenClaim := { program := "ytcmphlkkbgpijaa", sum := "bb52bab2c58329cae6d19924bb97fffdaf70ee8fa3f7a738bbdda9041dca725c", func := "loop.example/g00959/laws.FnExactLatticeIndex", spec := "fnExactLatticeIndex", recurses := true, apart := false }
def FnExactLatticeIndexSaid : Prop := fnExactLatticeIndexRow.holds Try.pinned (OpenSpec.ofChange fnExactLatticeIndexSpec)

/-- ITS FALSE NEIGHBOUR: 'it returns false'. Refute it at one input. -/
def fnExactLatticeIndexWrong : ChangeSpec := { name := "fnExactLatticeIndex", fn := fun _ => fun
  | [d] => { results := [.lit (.bool false)], args := [d] }
  | _ => none }
def FnExactLatticeIndexWrongFalsely : Prop := fnExactLatticeIndexRow.holds Try.pinned (OpenSpec.ofChange fnExactLatticeIndexWrong)

/-- 'laws.FnExactApplyMatrix': WHATEVER THE INPUT: true; the input reads as it did. -/
def fnExactApplyMatrixSpec : ChangeSpec := { name := "fnExactApplyMatrix", fn := fun _ => fun
  | [d1, d2] => { results := [.lit (.bool true)], args := [d1, d2] }
  | _ => none }
def fnExactApplyMatrixRow : OpenClaim := { program := "ytcmphlkkbgpijaa", sum := "bb52bab2c58329cae6d19924bb97fffdaf70ee8fa3f7a738bbdda9041dca725c", func := "loop.example/g00959/laws.FnExactApplyMatrix", spec := "fnExactApplyMatrix", apart := false }
def FnExactApplyMatrixSaid : Prop := fnExactApplyMatrixRow.holds Try.pinned (OpenSpec.ofChange fnExactApplyMatrixSpec)

/-- ITS FALSE NEIGHBOUR: 'it returns false'. Refute it at one input. -/
def fnExactApplyMatrixWrong : ChangeSpec := { name := "fnExactApplyMatrix", fn := fun _ => fun
  | [d1, d2] => { results := [.lit (.bool false)], args := [d1, d2] }
  | _ => none }
def FnExactApplyMatrixWrongFalsely : Prop := fnExactApplyMatrixRow.holds Try.pinned (OpenSpec.ofChange fnExactApplyMatrixWrong)

/-- 'laws.FnExactIsRegion': WHATEVER THE INPUT: true; the input reads as it did. -/
def fnExactIsRegionSpec : ChangeSpec := { name := "fnExactIsRegion", fn := fun _ => fun
  | [d] => { results := [.lit (.bool true)], args := [d] }
  | _ => none }
def fnExactIsRegionRow : OpenClaim := { program := "ytcmphlkkbgpijaa", sum := "bb52bab2c58329cae6d19924bb97fffdaf70ee8fa3f7a738bbdda9041dca725c", func := "loop.example/g00959/laws.FnExactIsRegion", spec := "fnExactIsRegion", apart := false }
def FnExactIsRegionSaid : Prop := fnExactIsRegionRow.holds Try.pinned (OpenSpec.ofChange fnExactIsRegionSpec)

/-- ITS FALSE NEIGHBOUR: 'it returns false'. Refute it at one input. -/
def fnExactIsRegionWrong : ChangeSpec := { name := "fnExactIsRegion", fn := fun _ => fun
  | [d] => { results := [.lit (.bool false)], args := [d] }
  | _ => none }
def FnExactIsRegionWrongFalsely : Prop := fnExactIsRegionRow.holds Try.pinned (OpenSpec.ofChange fnExactIsRegionWrong)

/-- 'laws.FnExactTimesMatrix': WHATEVER THE INPUT: true; the input reads as it did. -/
def fnExactTimesMatrixSpec : ChangeSpec := { name := "fnExactTimesMatrix", fn := fun _ => fun
  | [d1, d2] => { results := [.lit (.bool true)], args := [d1, d2] }
  | _ => none }
def fnExactTimesMatrixRow : OpenClaim := { program := "ytcmphlkkbgpijaa", sum := "bb52bab2c58329cae6d19924bb97fffdaf70ee8fa3f7a738bbdda9041dca725c", func := "loop.example/g00959/laws.FnExactTimesMatrix", spec := "fnExactTimesMatrix", apart := false }
def FnExactTimesMatrixSaid : Prop := fnExactTimesMatrixRow.holds Try.pinned (OpenSpec.ofChange fnExactTimesMatrixSpec)

/-- ITS FALSE NEIGHBOUR: 'it returns false'. Refute it at one input. -/
def fnExactTimesMatrixWrong : ChangeSpec := { name := "fnExactTimesMatrix", fn := fun _ => fun
  | [d1, d2] => { results := [.lit (.bool false)], args := [d1, d2] }
  | _ => none }
def FnExactTimesMatrixWrongFalsely : Prop := fnExactTimesMatrixRow.holds Try.pinned (OpenSpec.ofChange fnExactTimesMatrixWrong)

/-- 'laws.FnExactHasPoint': WHATEVER THE INPUT: true; the input reads as it did. -/
def fnExactHasPointSpec : ChangeSpec := { name := "fnExactHasPoint", fn := fun _ => fun
  | [d1, d2] => { results := [.lit (.bool true)], args := [d1, d2] }
  | _ => none }
def fnExactHasPointRow : OpenClaim := { program := "ytcmphlkkbgpijaa", sum := "bb52bab2c58329cae6d19924bb97fffdaf70ee8fa3f7a738bbdda9041dca725c", func := "loop.example/g00959/laws.FnExactHasPoint", spec := "fnExactHasPoint", apart := false }
def FnExactHasPointSaid : Prop := fnExactHasPointRow.holds Try.pinned (OpenSpec.ofChange fnExactHasPointSpec)

/-- ITS FALSE NEIGHBOUR: 'it returns false'. Refute it at one input. -/
def fnExactHasPointWrong : ChangeSpec := { name := "fnExactHasPoint", fn := fun _ => fun
  | [d1, d2] => { results := [.lit (.bool false)], args := [d1, d2] }
  | _ => none }
def FnExactHasPointWrongFalsely : Prop := fnExactHasPointRow.holds Try.pinned (OpenSpec.ofChange fnExactHasPointWrong)

/-- 'laws.FnExactInverseMatrix': WHATEVER THE INPUT: true; the input reads as it did. -/
def fnExactInverseMatrixSpec : ChangeSpec := { name := "fnExactInverseMatrix", fn := fun _ => fun
  | [d] => { results := [.lit (.bool true)], args := [d] }
  | _ => none }
def fnExactInverseMatrixRow : OpenClaim := { program := "ytcmphlkkbgpijaa", sum := "bb52bab2c58329cae6d19924bb97fffdaf70ee8fa3f7a738bbdda9041dca725c", func := "loop.example/g00959/laws.FnExactInverseMatrix", spec := "fnExactInverseMatrix", recurses := true, apart := false }
def FnExactInverseMatrixSaid : Prop := fnExactInverseMatrixRow.holds Try.pinned (OpenSpec.ofChange fnExactInverseMatrixSpec)

/-- ITS FALSE NEIGHBOUR: 'it returns false'. Refute it at one input. -/
def fnExactInverseMatrixWrong : ChangeSpec := { name := "fnExactInverseMatrix", fn := fun _ => fun
  | [d] => { results := [.lit (.bool false)], args := [d] }
  | _ => none }
def FnExactInverseMatrixWrongFalsely : Prop := fnExactInverseMatrixRow.holds Try.pinned (OpenSpec.ofChange fnExactInverseMatrixWrong)

/-- 'laws.FnExactHermiteOf': WHATEVER THE INPUT: true; the input reads as it did. -/
def fnExactHermiteOfSpec : ChangeSpec := { name := "fnExactHermiteOf", fn := fun _ => fun
  | [d] => { results := [.lit (.bool true)], args := [d] }
  | _ => none }
def fnExactHermiteOfRow : OpenClaim := { program := "ytcmphlkkbgpijaa", sum := "bb52bab2c58329cae6d19924bb97fffdaf70ee8fa3f7a738bbdda9041dca725c", func := "loop.example/g00959/laws.FnExactHermiteOf", spec := "fnExactHermiteOf", recurses := true, apart := false }
def FnExactHermiteOfSaid : Prop := fnExactHermiteOfRow.holds Try.pinned (OpenSpec.ofChange fnExactHermiteOfSpec)

/-- ITS FALSE NEIGHBOUR: 'it returns false'. Refute it at one input. -/
def fnExactHermiteOfWrong : ChangeSpec := { name := "fnExactHermiteOf", fn := fun _ => fun
  | [d] => { results := [.lit (.bool false)], args := [d] }
  | _ => none }
def FnExactHermiteOfWrongFalsely : Prop := fnExactHermiteOfRow.holds Try.pinned (OpenSpec.ofChange fnExactHermiteOfWrong)

/-- 'laws.FnExactMoveRegion': WHATEVER THE INPUT: true; the input reads as it did. -/
def fnExactMoveRegionSpec : ChangeSpec := { name := "fnExactMoveRegion", fn := fun _ => fun
  | [d1, d2] => { results := [.lit (.bool true)], args := [d1, d2] }
  | _ => none }
def fnExactMoveRegionRow : OpenClaim := { program := "ytcmphlkkbgpijaa", sum := "bb52bab2c58329cae6d19924bb97fffdaf70ee8fa3f7a738bbdda9041dca725c", func := "loop.example/g00959/laws.FnExactMoveRegion", spec := "fnExactMoveRegion", apart := false }
def FnExactMoveRegionSaid : Prop := fnExactMoveRegionRow.holds Try.pinned (OpenSpec.ofChange fnExactMoveRegionSpec)

/-- ITS FALSE NEIGHBOUR: 'it returns false'. Refute it at one input. -/
def fnExactMoveRegionWrong : ChangeSpec := { name := "fnExactMoveRegion", fn := fun _ => fun
  | [d1, d2] => { results := [.lit (.bool false)], args := [d1, d2] }
  | _ => none }
def FnExactMoveRegionWrongFalsely : Prop := fnExactMoveRegionRow.holds Try.pinned (OpenSpec.ofChange fnExactMoveRegionWrong)

/-- 'laws.FnExactClassLeader': WHATEVER THE INPUT: true; the input reads as it did. -/
def fnExactClassLeaderSpec : ChangeSpec := { name := "fnExactClassLeader", fn := fun _ => fun
  | [d1, d2] => { results := [.lit (.bool true)], args := [d1, d2] }
  | _ => none }
def fnExactClassLeaderRow : OpenClaim := { program := "ytcmphlkkbgpijaa", sum := "bb52bab2c58329cae6d19924bb97fffdaf70ee8fa3f7a738bbdda9041dca725c", func := "loop.example/g00959/laws.FnExactClassLeader", spec := "fnExactClassLeader", recurses := true, apart := false }
def FnExactClassLeaderSaid : Prop := fnExactClassLeaderRow.holds Try.pinned (OpenSpec.ofChange fnExactClassLeaderSpec)

/-- ITS FALSE NEIGHBOUR: 'it returns false'. Refute it at one input. -/
def fnExactClassLeaderWrong : ChangeSpec := { name := "fnExactClassLeader", fn := fun _ => fun
  | [d1, d2] => { results := [.lit (.bool false)], args := [d1, d2] }
  | _ => none }
def FnExactClassLeaderWrongFalsely : Prop := fnExactClassLeaderRow.holds Try.pinned (OpenSpec.ofChange fnExactClassLeaderWrong)

/-- 'laws.FnExactSameClass': WHATEVER THE INPUT: true; the input reads as it did. -/
def fnExactSameClassSpec : ChangeSpec := { name := "fnExactSameClass", fn := fun _ => fun
  | [d1, d2, d3] => { results := [.lit (.bool true)], args := [d1, d2, d3] }
  | _ => none }
def fnExactSameClassRow : OpenClaim := { program := "ytcmphlkkbgpijaa", sum := "bb52bab2c58329cae6d19924bb97fffdaf70ee8fa3f7a738bbdda9041dca725c", func := "loop.example/g00959/laws.FnExactSameClass", spec := "fnExactSameClass", recurses := true, apart := false }
def FnExactSameClassSaid : Prop := fnExactSameClassRow.holds Try.pinned (OpenSpec.ofChange fnExactSameClassSpec)

/-- ITS FALSE NEIGHBOUR: 'it returns false'. Refute it at one input. -/
def fnExactSameClassWrong : ChangeSpec := { name := "fnExactSameClass", fn := fun _ => fun
  | [d1, d2, d3] => { results := [.lit (.bool false)], args := [d1, d2, d3] }
  | _ => none }
def FnExactSameClassWrongFalsely : Prop := fnExactSameClassRow.holds Try.pinned (OpenSpec.ofChange fnExactSameClassWrong)

/- THE SECOND FORM. 'bulk': how many values and letters a reading holds, each counted each time it is reached (what is shared counts as often as it is met; a slice's spare places count too). A statement '..UptoSaid' is the law's where the arguments, and the package variables that the reading takes, are together of bulk at most 1048576: NARROWER than '..Said'. Prove '..Said' where nothing that the law and all that it calls make is longer than what came in: it says more and counts as full. Else prove '..UptoSaid'. A law counts once. -/
mutual
def uptoBulk {H : Type} : DataW H → Nat
  | .lit (.string bytes) => bytes.length + 1
  | .lit _ => 1
  | .nil => 1
  | .ptr d => uptoBulk d + 1
  | .slice elems spare => uptoBulkAll elems + uptoBulkAll spare + 1
  | .agg parts => uptoBulkAll parts + 1
  | .iface _ d => uptoBulk d + 1
  | .map entries => uptoBulkEntries entries + 1
  | .held _ => 1
def uptoBulkAll {H : Type} : List (DataW H) → Nat
  | [] => 0
  | d :: r => uptoBulk d + uptoBulkAll r
def uptoBulkEntries {H : Type} : List (Lit × DataW H) → Nat
  | [] => 0
  | x :: r => uptoBulkEntry x + uptoBulkEntries r
def uptoBulkEntry {H : Type} : Lit × DataW H → Nat
  | (.string bytes, d) => bytes.length + uptoBulk d + 1
  | (_, d) => uptoBulk d + 1
 end
def uptoSmall : (H : Type) → List (DataW H) → Bool := fun _ ds => decide (uptoBulkAll ds ≤ 1048576)
def OpenSpec.upto (s : _root_.Go.ChangeSpec) : _root_.Go.OpenSpec := { _root_.Go.OpenSpec.ofChange s with cond := some uptoSmall }

/-- 'laws.FnExactDetOf', WHERE WHAT IT READS IS OF BULK AT MOST 1048576: true; the input reads as it did. -/
def fnExactDetOfUptoRow : OpenClaim := { program := "ytcmphlkkbgpijaa", sum := "bb52bab2c58329cae6d19924bb97fffdaf70ee8fa3f7a738bbdda9041dca725c", func := "loop.example/g00959/laws.FnExactDetOf", spec := "fnExactDetOf", recurses := true, apart := false, narrowed := true }
def FnExactDetOfUptoSaid : Prop := fnExactDetOfUptoRow.holds Try.pinned (OpenSpec.upto fnExactDetOfSpec)

/-- 'laws.FnExactIsUnimodular', WHERE WHAT IT READS IS OF BULK AT MOST 1048576: true; the input reads as it did. -/
def fnExactIsUnimodularUptoRow : OpenClaim := { program := "ytcmphlkkbgpijaa", sum := "bb52bab2c58329cae6d19924bb97fffdaf70ee8fa3f7a738bbdda9041dca725c", func := "loop.example/g00959/laws.FnExactIsUnimodular", spec := "fnExactIsUnimodular", recurses := true, apart := false, narrowed := true }
def FnExactIsUnimodularUptoSaid : Prop := fnExactIsUnimodularUptoRow.holds Try.pinned (OpenSpec.upto fnExactIsUnimodularSpec)

/-- 'laws.FnExactLatticeIndex', WHERE WHAT IT READS IS OF BULK AT MOST 1048576: true; the input reads as it did. -/
def fnExactLatticeIndexUptoRow : OpenClaim := { program := "ytcmphlkkbgpijaa", sum := "bb52bab2c58329cae6d19924bb97fffdaf70ee8fa3f7a738bbdda9041dca725c", func := "loop.example/g00959/laws.FnExactLatticeIndex", spec := "fnExactLatticeIndex", recurses := true, apart := false, narrowed := true }
def FnExactLatticeIndexUptoSaid : Prop := fnExactLatticeIndexUptoRow.holds Try.pinned (OpenSpec.upto fnExactLatticeIndexSpec)

/-- 'laws.FnExactApplyMatrix', WHERE WHAT IT READS IS OF BULK AT MOST 1048576: true; the input reads as it did. -/
def fnExactApplyMatrixUptoRow : OpenClaim := { program := "ytcmphlkkbgpijaa", sum := "bb52bab2c58329cae6d19924bb97fffdaf70ee8fa3f7a738bbdda9041dca725c", func := "loop.example/g00959/laws.FnExactApplyMatrix", spec := "fnExactApplyMatrix", apart := false, narrowed := true }
def FnExactApplyMatrixUptoSaid : Prop := fnExactApplyMatrixUptoRow.holds Try.pinned (OpenSpec.upto fnExactApplyMatrixSpec)

/-- 'laws.FnExactIsRegion', WHERE WHAT IT READS IS OF BULK AT MOST 1048576: true; the input reads as it did. -/
def fnExactIsRegionUptoRow : OpenClaim := { program := "ytcmphlkkbgpijaa", sum := "bb52bab2c58329cae6d19924bb97fffdaf70ee8fa3f7a738bbdda9041dca725c", func := "loop.example/g00959/laws.FnExactIsRegion", spec := "fnExactIsRegion", apart := false, narrowed := true }
def FnExactIsRegionUptoSaid : Prop := fnExactIsRegionUptoRow.holds Try.pinned (OpenSpec.upto fnExactIsRegionSpec)

/-- 'laws.FnExactTimesMatrix', WHERE WHAT IT READS IS OF BULK AT MOST 1048576: true; the input reads as it did. -/
def fnExactTimesMatrixUptoRow : OpenClaim := { program := "ytcmphlkkbgpijaa", sum := "bb52bab2c58329cae6d19924bb97fffdaf70ee8fa3f7a738bbdda9041dca725c", func := "loop.example/g00959/laws.FnExactTimesMatrix", spec := "fnExactTimesMatrix", apart := false, narrowed := true }
def FnExactTimesMatrixUptoSaid : Prop := fnExactTimesMatrixUptoRow.holds Try.pinned (OpenSpec.upto fnExactTimesMatrixSpec)

/-- 'laws.FnExactHasPoint', WHERE WHAT IT READS IS OF BULK AT MOST 1048576: true; the input reads as it did. -/
def fnExactHasPointUptoRow : OpenClaim := { program := "ytcmphlkkbgpijaa", sum := "bb52bab2c58329cae6d19924bb97fffdaf70ee8fa3f7a738bbdda9041dca725c", func := "loop.example/g00959/laws.FnExactHasPoint", spec := "fnExactHasPoint", apart := false, narrowed := true }
def FnExactHasPointUptoSaid : Prop := fnExactHasPointUptoRow.holds Try.pinned (OpenSpec.upto fnExactHasPointSpec)

/-- 'laws.FnExactInverseMatrix', WHERE WHAT IT READS IS OF BULK AT MOST 1048576: true; the input reads as it did. -/
def fnExactInverseMatrixUptoRow : OpenClaim := { program := "ytcmphlkkbgpijaa", sum := "bb52bab2c58329cae6d19924bb97fffdaf70ee8fa3f7a738bbdda9041dca725c", func := "loop.example/g00959/laws.FnExactInverseMatrix", spec := "fnExactInverseMatrix", recurses := true, apart := false, narrowed := true }
def FnExactInverseMatrixUptoSaid : Prop := fnExactInverseMatrixUptoRow.holds Try.pinned (OpenSpec.upto fnExactInverseMatrixSpec)

/-- 'laws.FnExactHermiteOf', WHERE WHAT IT READS IS OF BULK AT MOST 1048576: true; the input reads as it did. -/
def fnExactHermiteOfUptoRow : OpenClaim := { program := "ytcmphlkkbgpijaa", sum := "bb52bab2c58329cae6d19924bb97fffdaf70ee8fa3f7a738bbdda9041dca725c", func := "loop.example/g00959/laws.FnExactHermiteOf", spec := "fnExactHermiteOf", recurses := true, apart := false, narrowed := true }
def FnExactHermiteOfUptoSaid : Prop := fnExactHermiteOfUptoRow.holds Try.pinned (OpenSpec.upto fnExactHermiteOfSpec)

/-- 'laws.FnExactMoveRegion', WHERE WHAT IT READS IS OF BULK AT MOST 1048576: true; the input reads as it did. -/
def fnExactMoveRegionUptoRow : OpenClaim := { program := "ytcmphlkkbgpijaa", sum := "bb52bab2c58329cae6d19924bb97fffdaf70ee8fa3f7a738bbdda9041dca725c", func := "loop.example/g00959/laws.FnExactMoveRegion", spec := "fnExactMoveRegion", apart := false, narrowed := true }
def FnExactMoveRegionUptoSaid : Prop := fnExactMoveRegionUptoRow.holds Try.pinned (OpenSpec.upto fnExactMoveRegionSpec)

/-- 'laws.FnExactClassLeader', WHERE WHAT IT READS IS OF BULK AT MOST 1048576: true; the input reads as it did. -/
def fnExactClassLeaderUptoRow : OpenClaim := { program := "ytcmphlkkbgpijaa", sum := "bb52bab2c58329cae6d19924bb97fffdaf70ee8fa3f7a738bbdda9041dca725c", func := "loop.example/g00959/laws.FnExactClassLeader", spec := "fnExactClassLeader", recurses := true, apart := false, narrowed := true }
def FnExactClassLeaderUptoSaid : Prop := fnExactClassLeaderUptoRow.holds Try.pinned (OpenSpec.upto fnExactClassLeaderSpec)

/-- 'laws.FnExactSameClass', WHERE WHAT IT READS IS OF BULK AT MOST 1048576: true; the input reads as it did. -/
def fnExactSameClassUptoRow : OpenClaim := { program := "ytcmphlkkbgpijaa", sum := "bb52bab2c58329cae6d19924bb97fffdaf70ee8fa3f7a738bbdda9041dca725c", func := "loop.example/g00959/laws.FnExactSameClass", spec := "fnExactSameClass", recurses := true, apart := false, narrowed := true }
def FnExactSameClassUptoSaid : Prop := fnExactSameClassUptoRow.holds Try.pinned (OpenSpec.upto fnExactSameClassSpec)

end Rows
end Go.Proofs.Ytcmphlkkbgpijaa
