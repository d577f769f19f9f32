/- what the rows' list asks of the witness: a world that holds the tables. -/
import Derived.Test.YtndbcjgbcplgcaaDoorRows
import Derived.Test.YtndbcjgbcplgcaaDoorFixAwake
import Derived.Test.YtndbcjgbcplgcaaDoorLift
import Derived.ProofKit
import Derived.OpenShut
import Derived.Deep.DeepHandedRow
import Derived.Lib.LaidTab
set_option linter.unusedSimpArgs false
set_option linter.unusedVariables false
namespace Go.Proofs.YtndbcjgbcplgcaaDoor
open Go.RowKit Go.ChangeShapes Go.WideShapes Go.ChangeAt
theorem nibOf {P : Program} {l : List (String × DataW Unit)} {W : World} (h : laidMetH P l W) : True := trivial
def rangeZ : List Int := [128, 191, 160, 191, 128, 159, 144, 191, 128, 143, 0, 0, 0, 0, 0, 0, 0, 0, 0, 0, 0, 0, 0, 0, 0, 0, 0, 0, 0, 0, 0, 0]
def layCells (l : List Int) : Obj → Obj
  | .cells _ t frozen => .cells (l.map fun n => Value.int .u8 n).toArray t frozen
  | o => o
noncomputable def laidWorld (os : Os) : World :=
  { World.holding Tryd.prog os ⟨#[], #[], []⟩ with heap := ((World.holding Tryd.prog os ⟨#[], #[], []⟩).heap.modify 1 (layCells (Go.Pinned.utf8FirstZ.map fun (n : Nat) => (n : Int)))).modify 2 (layCells rangeZ) }
theorem laidOut : laidOutB Tryd.prog = true := by kernel_rfl
theorem own : ownKnob Tryd.prog.godebug = none := by kernel_rfl
end Go.Proofs.YtndbcjgbcplgcaaDoor
