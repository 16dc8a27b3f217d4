/- What the rows that list the library's variables share: a world in which all of them are laid; from the rows' lists to what the walks ask. Conditions: none. -/
import Derived.Test.YteamihmolpaoeaaDoorRows
import Derived.Test.YteamihmolpaoeaaDoorStrLib
import Derived.ProofKit
import Derived.OpenShut
import Derived.ShutString
import Derived.Deep.DeepHandedRow
import Derived.Deep.DeepWitnessRowRef
import Derived.Deep.DeepLaidRun
import Derived.Lib.LaidTab
import Derived.Stop.LaidErr
namespace Go.Proofs.YteamihmolpaoeaaDoor
open Go.ChangeShapes Go.WideShapes Go.ChangeAt Go.RowKit
set_option linter.unusedVariables false
set_option linter.unusedSimpArgs false
set_option maxRecDepth 100000

theorem Tryd.tTab : (Tryd.prog.globals[5]?).map (·.type) = some 120 := by kernel_rfl
theorem Tryd.cTab : Tryd.prog.cellsOf 120 = 20 := by kernel_rfl
theorem Tryd.cU64 : Tryd.prog.cellsOf 93 = 1 := by kernel_rfl
theorem Tryd.tES : (Tryd.prog.globals[0]?).map (·.type) = some 61 := by kernel_rfl
theorem Tryd.tER : (Tryd.prog.globals[1]?).map (·.type) = some 61 := by kernel_rfl
theorem Tryd.cErr : Tryd.prog.cellsOf 106 = 1 := by kernel_rfl
theorem Tryd.cStr : Tryd.prog.cellsOf 9 = 1 := by kernel_rfl
theorem Tryd.star : "*" ++ "errors.errorString" = "*errors.errorString" := by decide
theorem Tryd.rowErr (u : TypeId) (h : Tryd.prog.typeName? 3 u = some "*errors.errorString") : u = 104 :=
  typeName_ptr_named (nm := "errors.errorString") (by rw [Tryd.star]; kernel_rfl) (by kernel_rfl) (by decide) u (by rw [Tryd.star]; exact h)

theorem tab_of {W : World} {rest : List (String × DataW Unit)} (h : laidMet Tryd.prog (("internal/strconv.uint64pow10", Rows.laid_internal_strconv_uint64pow10) :: rest) W) : TabW W :=
  Lib.tabIs_of_head (k := .u64) (zs := Lib.pow10Tab) (rest := rest) Tryd.gTab Tryd.tTab Tryd.underlying120 Tryd.underlying93 Tryd.cU64 Tryd.cTab h
theorem err_of {W : World} {rest : List (String × DataW Unit)} (h : laidMet Tryd.prog (("strconv.ErrRange", Rows.laid_strconv_ErrRange) :: ("strconv.ErrSyntax", Rows.laid_strconv_ErrSyntax) :: rest) W) : ErrW W := by
  obtain ⟨a1, s1, hv1, _⟩ := laid_sentinel h Tryd.gER Tryd.tER Tryd.underlying61 Tryd.rowErr Tryd.underlying104 Tryd.underlying106 rfl rfl Tryd.underlying9 Tryd.cErr Tryd.cStr
  obtain ⟨a2, s2, hv2, _⟩ := laid_sentinel h.tail Tryd.gES Tryd.tES Tryd.underlying61 Tryd.rowErr Tryd.underlying104 Tryd.underlying106 rfl rfl Tryd.underlying9 Tryd.cErr Tryd.cStr
  exact ⟨⟨_, _, hv2⟩, _, _, hv1⟩

theorem max_of {W : World} (h : W.ShapedOpen Tryd.prog) : MaxW W := Tryd.laysM146.s1_3 W h

/-- The cells of a datum made of numbers. -/
def cells0 : DataW Unit → List Value
  | .lit (.int k z) => [.int k z]
  | _ => []
def cells1 : DataW Unit → List Value
  | .agg ps => ps.flatMap cells0
  | d => cells0 d
def cells2 : DataW Unit → List Value
  | .agg ps => ps.flatMap cells1
  | d => cells1 d
def setBlock (cs : Array Value) : Obj → Obj
  | .cells _ t frozen => .cells cs t frozen
  | o => o
abbrev synS : ByteArray := ⟨#[105, 110, 118, 97, 108, 105, 100, 32, 115, 121, 110, 116, 97, 120]⟩
abbrev rngS : ByteArray := ⟨#[118, 97, 108, 117, 101, 32, 111, 117, 116, 32, 111, 102, 32, 114, 97, 110, 103, 101]⟩
noncomputable def low : Nat := (World.holding Tryd.prog default ⟨#[], #[], []⟩).heap.size
/-- The settled world, the library's variables laid. -/
noncomputable def laidWorld (os : Os) : World :=
  let w0 := World.holding Tryd.prog os ⟨#[.cells #[.string synS] 106, .cells #[.string rngS] 106], #[], []⟩
  { w0 with heap := ((((((w0.heap.modify 0 (setBlock #[.iface 104 (.pointer (some ⟨low, 0, none⟩))])).modify 1 (setBlock #[.iface 104 (.pointer (some ⟨low + 1, 0, none⟩))])).modify
      5 (setBlock (cells2 Rows.laid_internal_strconv_uint64pow10).toArray)).modify 3 (setBlock (cells2 Rows.laid_unicode_utf8_first).toArray)).modify
      4 (setBlock (cells2 Rows.laid_unicode_utf8_acceptRanges).toArray)).modify 6 (setBlock (cells2 Rows.laid_math_bits_deBruijn32tab).toArray)).modify 7 (setBlock (cells2 Rows.laid_math_bits_deBruijn64tab).toArray) }

end Go.Proofs.YteamihmolpaoeaaDoor
