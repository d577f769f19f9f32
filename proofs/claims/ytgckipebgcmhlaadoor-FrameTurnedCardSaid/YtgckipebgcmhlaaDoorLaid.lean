/- what the rows' list gives: the table of block 0; a world for the witness. -/
import Derived.Test.YtgckipebgcmhlaaDoorRows
import Derived.Test.YtgckipebgcmhlaaDoorAwake
import Derived.Test.YtgckipebgcmhlaaDoorLift
import Derived.ProofKit
import Derived.OpenShut
import Derived.Deep.DeepHandedRow
import Derived.Lib.LaidTab
set_option linter.unusedSimpArgs false
set_option linter.unusedVariables false
namespace Go.Proofs.YtgckipebgcmhlaaDoor
open Go.RowKit Go.ChangeShapes Go.WideShapes Go.ChangeAt
theorem gTab : Tryd.prog.globalNamed "hedgerow/frame.nibble" = some 0 := by kernel_rfl
theorem gTabType : (Tryd.prog.globals[0]?).map (·.type) = some 48 := by kernel_rfl
theorem cellsTab : Tryd.prog.cellsOf 48 = 16 := by kernel_rfl
theorem cellsU32 : Tryd.prog.cellsOf 25 = 1 := by kernel_rfl
theorem underTab : Tryd.prog.underlying 48 = some (.array 16 25) := by kernel_rfl
theorem underU32 : Tryd.prog.underlying 25 = some (.int .u32) := by kernel_rfl
theorem tableOf {W : World} (h : laidMetH Tryd.prog [("hedgerow/frame.nibble", Rows.laid_hedgerow_frame_nibble)] W) :
    Lib.TabIs Tryd.prog W "hedgerow/frame.nibble" .u32 [0, 498536548, 997073096, 651767980, 1994146192, 1802195444, 1303535960, 1342533948, 3988292384, 4027552580, 3604390888, 3412177804, 2607071920, 2262029012, 2685067896, 3183342108] :=
  Lib.tabIs_of_head (rest := []) gTab gTabType underTab underU32 cellsU32 cellsTab h
theorem nibOf {W : World} (h : laidMetH Tryd.prog [("hedgerow/frame.nibble", Rows.laid_hedgerow_frame_nibble)] W) : Nib W := by
  have hc := fun n (hn : n < 16) => (tableOf h).cell gTab n hn
  refine ⟨World.block_lt_of_cell? W _ (hc 0 (by omega)), fun n hn => ?_⟩
  rw [hc n hn]
  have : ∀ n : Fin 16, ([0, 498536548, 997073096, 651767980, 1994146192, 1802195444, 1303535960, 1342533948, 3988292384, 4027552580, 3604390888, 3412177804, 2607071920, 2262029012, 2685067896, 3183342108] : List Int).getD n.val 0 = ((Crc.nib n.val : Nat) : Int) := by decide
  rw [this ⟨n, hn⟩]
noncomputable def laidWorld (os : Os) : World :=
  { World.holding Tryd.prog os ⟨#[], #[], []⟩ with heap := (World.holding Tryd.prog os ⟨#[], #[], []⟩).heap.modify 0 fun
      | .cells _ t frozen => .cells #[.int .u32 0, .int .u32 498536548, .int .u32 997073096, .int .u32 651767980, .int .u32 1994146192, .int .u32 1802195444, .int .u32 1303535960, .int .u32 1342533948, .int .u32 3988292384, .int .u32 4027552580, .int .u32 3604390888, .int .u32 3412177804, .int .u32 2607071920, .int .u32 2262029012, .int .u32 2685067896, .int .u32 3183342108] t frozen
      | o => o }
theorem laidOut : laidOutB Tryd.prog = true := by kernel_rfl
theorem own : ownKnob Tryd.prog.godebug = none := by kernel_rfl
end Go.Proofs.YtgckipebgcmhlaaDoor
