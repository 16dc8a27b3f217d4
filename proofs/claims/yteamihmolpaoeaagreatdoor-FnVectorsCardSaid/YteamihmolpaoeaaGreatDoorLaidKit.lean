/- What the rows that list the library's variables share: a world in which all of them are laid; from the rows' lists to what the walks ask. Conditions: none. -/
import Derived.Test.YteamihmolpaoeaaGreatDoorRows
import Derived.Test.YteamihmolpaoeaaGreatDoorStrLib
import Derived.ProofKit
import Derived.OpenShut
import Derived.ShutString
import Derived.Deep.DeepHandedRow
import Derived.Deep.DeepWitnessRowRef
import Derived.Deep.DeepLaidRun
import Derived.Lib.LaidTab
import Derived.Stop.LaidErr
namespace Go.Proofs.YteamihmolpaoeaaGreatDoor
open Go.ChangeShapes Go.WideShapes Go.ChangeAt Go.RowKit
set_option linter.unusedVariables false
set_option linter.unusedSimpArgs false
set_option maxRecDepth 100000

theorem Tryz.tTab : (Tryz.prog.globals[5]?).map (·.type) = some 124 := by kernel_rfl
theorem Tryz.cTab : Tryz.prog.cellsOf 124 = 20 := by kernel_rfl
theorem Tryz.cU64 : Tryz.prog.cellsOf 94 = 1 := by kernel_rfl
theorem Tryz.tES : (Tryz.prog.globals[0]?).map (·.type) = some 66 := by kernel_rfl
theorem Tryz.tER : (Tryz.prog.globals[1]?).map (·.type) = some 66 := by kernel_rfl
theorem Tryz.cErr : Tryz.prog.cellsOf 107 = 1 := by kernel_rfl
theorem Tryz.cStr : Tryz.prog.cellsOf 9 = 1 := by kernel_rfl
theorem Tryz.star : "*" ++ "errors.errorString" = "*errors.errorString" := by decide
theorem Tryz.rowErr (u : TypeId) (h : Tryz.prog.typeName? 3 u = some "*errors.errorString") : u = 105 :=
  typeName_ptr_named (nm := "errors.errorString") (by rw [Tryz.star]; kernel_rfl) (by kernel_rfl) (by decide) u (by rw [Tryz.star]; exact h)

theorem tab_of {W : World} {rest : List (String × DataW Unit)} (h : laidMet Tryz.prog (("internal/strconv.uint64pow10", Rows.laid_internal_strconv_uint64pow10) :: rest) W) : TabW W :=
  Lib.tabIs_of_head (k := .u64) (zs := Lib.pow10Tab) (rest := rest) Tryz.gTab Tryz.tTab Tryz.underlying124 Tryz.underlying94 Tryz.cU64 Tryz.cTab h
theorem err_of {W : World} {rest : List (String × DataW Unit)} (h : laidMet Tryz.prog (("strconv.ErrRange", Rows.laid_strconv_ErrRange) :: ("strconv.ErrSyntax", Rows.laid_strconv_ErrSyntax) :: rest) W) : ErrW W := by
  obtain ⟨a1, s1, hv1, _⟩ := laid_sentinel h Tryz.gER Tryz.tER Tryz.underlying66 Tryz.rowErr Tryz.underlying105 Tryz.underlying107 rfl rfl Tryz.underlying9 Tryz.cErr Tryz.cStr
  obtain ⟨a2, s2, hv2, _⟩ := laid_sentinel h.tail Tryz.gES Tryz.tES Tryz.underlying66 Tryz.rowErr Tryz.underlying105 Tryz.underlying107 rfl rfl Tryz.underlying9 Tryz.cErr Tryz.cStr
  exact ⟨⟨_, _, hv2⟩, _, _, hv1⟩

theorem max_of {W : World} (h : W.ShapedOpen Tryz.prog) : MaxW W := Tryz.laysM146.s1_3 W h

/-- The cells of a datum made of numbers. -/
def cells0 : DataW Unit → List Value
  | .lit (.int k z) => [.int k z]
  | _ => []
def cells1 : DataW Unit → List Value
  | .agg ps => ps.flatMap cells0
  | d => cells0 d
def cells2 : DataW Unit → List Value
  | .agg ps => ps.flatMap cells1
  | d => cells1 d
def setBlock (cs : Array Value) : Obj → Obj
  | .cells _ t frozen => .cells cs t frozen
  | o => o
abbrev synS : ByteArray := ⟨#[105, 110, 118, 97, 108, 105, 100, 32, 115, 121, 110, 116, 97, 120]⟩
abbrev rngS : ByteArray := ⟨#[118, 97, 108, 117, 101, 32, 111, 117, 116, 32, 111, 102, 32, 114, 97, 110, 103, 101]⟩
noncomputable def low : Nat := (World.holding Tryz.prog default ⟨#[], #[], []⟩).heap.size
/-- The settled world, the library's variables laid. -/
noncomputable def laidWorld (os : Os) : World :=
  let w0 := World.holding Tryz.prog os ⟨#[.cells #[.string synS] 107, .cells #[.string rngS] 107], #[], []⟩
  { w0 with heap := ((((((w0.heap.modify 0 (setBlock #[.iface 105 (.pointer (some ⟨low, 0, none⟩))])).modify 1 (setBlock #[.iface 105 (.pointer (some ⟨low + 1, 0, none⟩))])).modify
      5 (setBlock (cells2 Rows.laid_internal_strconv_uint64pow10).toArray)).modify 3 (setBlock (cells2 Rows.laid_unicode_utf8_first).toArray)).modify
      4 (setBlock (cells2 Rows.laid_unicode_utf8_acceptRanges).toArray)).modify 6 (setBlock (cells2 Rows.laid_math_bits_deBruijn32tab).toArray)).modify 7 (setBlock (cells2 Rows.laid_math_bits_deBruijn64tab).toArray) }

end Go.Proofs.YteamihmolpaoeaaGreatDoor
