/-
  NARROWER THAN 'FOR EVERY INPUT', by the rows' own cells (each row's printed sentence says how): FixedClamps: laid · FixedAdds: laid · FixedMuls: laid · FixedDivs: laid · FixedShows: laid · FixedReads: laid · FixedBack: laid · FixedFloors: laid · FixedRises: laid · FixedUnits: laid.
  DERIVED. THE GIVEN ROWS OF THIS SEAT. 10 by the template 'for every input the law returns true; each argument reads behind the call as it read before'; 0 by the template 'total and deterministic' (their statements: YtndbcjgbcplgcaaDoorTotals.lean).
  GIVEN WITH THE SEED: the statements are not yours to turn. If you find one false, say at which input.
  Laid BY PROGRAM, IN A SANDBOX (cutbox-rows.mjs): the forced cells as the released guide's own fill.sh prints them over the translation 3b502c4e5b1bdc93… (all of the seat's roots in one cut). By AI agents, Wed Nov 11 2026. No macro, syntax, notation, axiom, sorry.
-/
import Derived.Test.YtndbcjgbcplgcaaDoorChecked
import GoSem.PinnedTables
import GoSem.Claim
import GoSem.ClaimJoined
import GoSem.ClaimMapViews
import Derived.JoinedTies
import Derived.KernelRfl
namespace Go.Proofs.YtndbcjgbcplgcaaDoor
/- THE CELL 'sum', in the pinned program and in every row, IS THE sha256 OF THE DUMP (.gsa) THAT YtndbcjgbcplgcaaDoorProg.lean LOADS. Nothing in Lean hashes anything: it is a label: what it is worth is what the hold of that sum in a sandbox is worth. -/
noncomputable def Tryd.pinned : Pinned := { name := "ytndbcjgbcplgcaadoor", sum := "3b502c4e5b1bdc93bfa8e0fd66c3d1f6bac9873dd44f6d1f55224e51108756fe", checked := Tryd.checked }
namespace Rows
def none {H : Type} : Left H := { results := [], args := [] }

/- WHAT THE LISTED PACKAGE-LEVEL VARIABLES READ AS WHEN THE CALL BEGINS. Each datum BY PROGRAM (the guide's laid-datum.mjs) off the statement by which the dump's own 'gosem.cut.vars' lays the variable. In a bare row this is a premise. The card (YtndbcjgbcplgcaaDoorCards.lean) ties it to the program's text. -/
def laid_unicode_utf8_acceptRanges {H : Type} : DataW H := .agg [.agg [.lit (.int .u8 128), .lit (.int .u8 191)], .agg [.lit (.int .u8 160), .lit (.int .u8 191)], .agg [.lit (.int .u8 128), .lit (.int .u8 159)], .agg [.lit (.int .u8 144), .lit (.int .u8 191)], .agg [.lit (.int .u8 128), .lit (.int .u8 143)], .agg [.lit (.int .u8 0), .lit (.int .u8 0)], .agg [.lit (.int .u8 0), .lit (.int .u8 0)], .agg [.lit (.int .u8 0), .lit (.int .u8 0)], .agg [.lit (.int .u8 0), .lit (.int .u8 0)], .agg [.lit (.int .u8 0), .lit (.int .u8 0)], .agg [.lit (.int .u8 0), .lit (.int .u8 0)], .agg [.lit (.int .u8 0), .lit (.int .u8 0)], .agg [.lit (.int .u8 0), .lit (.int .u8 0)], .agg [.lit (.int .u8 0), .lit (.int .u8 0)], .agg [.lit (.int .u8 0), .lit (.int .u8 0)], .agg [.lit (.int .u8 0), .lit (.int .u8 0)]]
/-- One of Go's own tables, pinned by name: the form's constant. -/
def laid_unicode_utf8_first : DataW Unit := Go.Pinned.utf8First

/-- 'hedgerowlaw02.FixedClamps': WHATEVER THE INPUT: true; the input reads as it did. -/
def fixedClampsSpec : ChangeSpec := { name := "fixedClamps", fn := fun _ => fun
  | [d] => { results := [.lit (.bool true)], args := [d] }
  | _ => none }
def fixedClampsRow : OpenClaim := { program := "ytndbcjgbcplgcaadoor", sum := "3b502c4e5b1bdc93bfa8e0fd66c3d1f6bac9873dd44f6d1f55224e51108756fe", func := "hedgerow/hedgerowlaw02.FixedClamps", spec := "fixedClamps", inPlace := ["internal/bytealg.IndexByteString", "internal/bytealg.IndexString"], named := ["unicode/utf8.first", "unicode/utf8.acceptRanges", "internal/bytealg.MaxLen"], apart := false, laid := [("unicode/utf8.acceptRanges", laid_unicode_utf8_acceptRanges), ("unicode/utf8.first", laid_unicode_utf8_first)] }
def FixedClampsSaid : Prop := fixedClampsRow.holds Tryd.pinned (OpenSpec.ofChange fixedClampsSpec)

/-- ITS FALSE NEIGHBOUR: 'it returns false'. Refute it at one input. -/
def fixedClampsWrong : ChangeSpec := { name := "fixedClamps", fn := fun _ => fun
  | [d] => { results := [.lit (.bool false)], args := [d] }
  | _ => none }
def FixedClampsWrongFalsely : Prop := fixedClampsRow.holds Tryd.pinned (OpenSpec.ofChange fixedClampsWrong)

/-- 'hedgerowlaw02.FixedAdds': WHATEVER THE INPUT: true; the input reads as it did. -/
def fixedAddsSpec : ChangeSpec := { name := "fixedAdds", fn := fun _ => fun
  | [d] => { results := [.lit (.bool true)], args := [d] }
  | _ => none }
def fixedAddsRow : OpenClaim := { program := "ytndbcjgbcplgcaadoor", sum := "3b502c4e5b1bdc93bfa8e0fd66c3d1f6bac9873dd44f6d1f55224e51108756fe", func := "hedgerow/hedgerowlaw02.FixedAdds", spec := "fixedAdds", inPlace := ["internal/bytealg.IndexByteString", "internal/bytealg.IndexString"], named := ["unicode/utf8.first", "unicode/utf8.acceptRanges", "internal/bytealg.MaxLen"], apart := false, laid := [("unicode/utf8.acceptRanges", laid_unicode_utf8_acceptRanges), ("unicode/utf8.first", laid_unicode_utf8_first)] }
def FixedAddsSaid : Prop := fixedAddsRow.holds Tryd.pinned (OpenSpec.ofChange fixedAddsSpec)

/-- ITS FALSE NEIGHBOUR: 'it returns false'. Refute it at one input. -/
def fixedAddsWrong : ChangeSpec := { name := "fixedAdds", fn := fun _ => fun
  | [d] => { results := [.lit (.bool false)], args := [d] }
  | _ => none }
def FixedAddsWrongFalsely : Prop := fixedAddsRow.holds Tryd.pinned (OpenSpec.ofChange fixedAddsWrong)

/-- 'hedgerowlaw02.FixedMuls': WHATEVER THE INPUT: true; the input reads as it did. -/
def fixedMulsSpec : ChangeSpec := { name := "fixedMuls", fn := fun _ => fun
  | [d1, d2] => { results := [.lit (.bool true)], args := [d1, d2] }
  | _ => none }
def fixedMulsRow : OpenClaim := { program := "ytndbcjgbcplgcaadoor", sum := "3b502c4e5b1bdc93bfa8e0fd66c3d1f6bac9873dd44f6d1f55224e51108756fe", func := "hedgerow/hedgerowlaw02.FixedMuls", spec := "fixedMuls", inPlace := ["internal/bytealg.IndexByteString", "internal/bytealg.IndexString"], named := ["unicode/utf8.first", "unicode/utf8.acceptRanges", "internal/bytealg.MaxLen"], apart := false, laid := [("unicode/utf8.acceptRanges", laid_unicode_utf8_acceptRanges), ("unicode/utf8.first", laid_unicode_utf8_first)] }
def FixedMulsSaid : Prop := fixedMulsRow.holds Tryd.pinned (OpenSpec.ofChange fixedMulsSpec)

/-- ITS FALSE NEIGHBOUR: 'it returns false'. Refute it at one input. -/
def fixedMulsWrong : ChangeSpec := { name := "fixedMuls", fn := fun _ => fun
  | [d1, d2] => { results := [.lit (.bool false)], args := [d1, d2] }
  | _ => none }
def FixedMulsWrongFalsely : Prop := fixedMulsRow.holds Tryd.pinned (OpenSpec.ofChange fixedMulsWrong)

/-- 'hedgerowlaw02.FixedDivs': WHATEVER THE INPUT: true; the input reads as it did. -/
def fixedDivsSpec : ChangeSpec := { name := "fixedDivs", fn := fun _ => fun
  | [d1, d2] => { results := [.lit (.bool true)], args := [d1, d2] }
  | _ => none }
def fixedDivsRow : OpenClaim := { program := "ytndbcjgbcplgcaadoor", sum := "3b502c4e5b1bdc93bfa8e0fd66c3d1f6bac9873dd44f6d1f55224e51108756fe", func := "hedgerow/hedgerowlaw02.FixedDivs", spec := "fixedDivs", inPlace := ["internal/bytealg.IndexByteString", "internal/bytealg.IndexString"], named := ["unicode/utf8.first", "unicode/utf8.acceptRanges", "internal/bytealg.MaxLen"], apart := false, laid := [("unicode/utf8.acceptRanges", laid_unicode_utf8_acceptRanges), ("unicode/utf8.first", laid_unicode_utf8_first)] }
def FixedDivsSaid : Prop := fixedDivsRow.holds Tryd.pinned (OpenSpec.ofChange fixedDivsSpec)

/-- ITS FALSE NEIGHBOUR: 'it returns false'. Refute it at one input. -/
def fixedDivsWrong : ChangeSpec := { name := "fixedDivs", fn := fun _ => fun
  | [d1, d2] => { results := [.lit (.bool false)], args := [d1, d2] }
  | _ => none }
def FixedDivsWrongFalsely : Prop := fixedDivsRow.holds Tryd.pinned (OpenSpec.ofChange fixedDivsWrong)

/-- 'hedgerowlaw02.FixedShows': WHATEVER THE INPUT: true; the input reads as it did. -/
def fixedShowsSpec : ChangeSpec := { name := "fixedShows", fn := fun _ => fun
  | [d] => { results := [.lit (.bool true)], args := [d] }
  | _ => none }
def fixedShowsRow : OpenClaim := { program := "ytndbcjgbcplgcaadoor", sum := "3b502c4e5b1bdc93bfa8e0fd66c3d1f6bac9873dd44f6d1f55224e51108756fe", func := "hedgerow/hedgerowlaw02.FixedShows", spec := "fixedShows", inPlace := ["internal/bytealg.IndexByteString", "internal/bytealg.IndexString"], recurses := true, named := ["unicode/utf8.first", "unicode/utf8.acceptRanges", "internal/bytealg.MaxLen"], apart := false, laid := [("unicode/utf8.acceptRanges", laid_unicode_utf8_acceptRanges), ("unicode/utf8.first", laid_unicode_utf8_first)] }
def FixedShowsSaid : Prop := fixedShowsRow.holds Tryd.pinned (OpenSpec.ofChange fixedShowsSpec)

/-- ITS FALSE NEIGHBOUR: 'it returns false'. Refute it at one input. -/
def fixedShowsWrong : ChangeSpec := { name := "fixedShows", fn := fun _ => fun
  | [d] => { results := [.lit (.bool false)], args := [d] }
  | _ => none }
def FixedShowsWrongFalsely : Prop := fixedShowsRow.holds Tryd.pinned (OpenSpec.ofChange fixedShowsWrong)

/-- 'hedgerowlaw02.FixedReads': WHATEVER THE INPUT: true; the input reads as it did. -/
def fixedReadsSpec : ChangeSpec := { name := "fixedReads", fn := fun _ => fun
  | [d] => { results := [.lit (.bool true)], args := [d] }
  | _ => none }
def fixedReadsRow : OpenClaim := { program := "ytndbcjgbcplgcaadoor", sum := "3b502c4e5b1bdc93bfa8e0fd66c3d1f6bac9873dd44f6d1f55224e51108756fe", func := "hedgerow/hedgerowlaw02.FixedReads", spec := "fixedReads", inPlace := ["internal/bytealg.IndexByteString", "internal/bytealg.IndexString"], recurses := true, named := ["unicode/utf8.first", "unicode/utf8.acceptRanges", "internal/bytealg.MaxLen"], apart := false, laid := [("unicode/utf8.acceptRanges", laid_unicode_utf8_acceptRanges), ("unicode/utf8.first", laid_unicode_utf8_first)] }
def FixedReadsSaid : Prop := fixedReadsRow.holds Tryd.pinned (OpenSpec.ofChange fixedReadsSpec)

/-- ITS FALSE NEIGHBOUR: 'it returns false'. Refute it at one input. -/
def fixedReadsWrong : ChangeSpec := { name := "fixedReads", fn := fun _ => fun
  | [d] => { results := [.lit (.bool false)], args := [d] }
  | _ => none }
def FixedReadsWrongFalsely : Prop := fixedReadsRow.holds Tryd.pinned (OpenSpec.ofChange fixedReadsWrong)

/-- 'hedgerowlaw02.FixedBack': WHATEVER THE INPUT: true; the input reads as it did. -/
def fixedBackSpec : ChangeSpec := { name := "fixedBack", fn := fun _ => fun
  | [d] => { results := [.lit (.bool true)], args := [d] }
  | _ => none }
def fixedBackRow : OpenClaim := { program := "ytndbcjgbcplgcaadoor", sum := "3b502c4e5b1bdc93bfa8e0fd66c3d1f6bac9873dd44f6d1f55224e51108756fe", func := "hedgerow/hedgerowlaw02.FixedBack", spec := "fixedBack", inPlace := ["internal/bytealg.IndexByteString", "internal/bytealg.IndexString"], named := ["unicode/utf8.first", "unicode/utf8.acceptRanges", "internal/bytealg.MaxLen"], apart := false, laid := [("unicode/utf8.acceptRanges", laid_unicode_utf8_acceptRanges), ("unicode/utf8.first", laid_unicode_utf8_first)] }
def FixedBackSaid : Prop := fixedBackRow.holds Tryd.pinned (OpenSpec.ofChange fixedBackSpec)

/-- ITS FALSE NEIGHBOUR: 'it returns false'. Refute it at one input. -/
def fixedBackWrong : ChangeSpec := { name := "fixedBack", fn := fun _ => fun
  | [d] => { results := [.lit (.bool false)], args := [d] }
  | _ => none }
def FixedBackWrongFalsely : Prop := fixedBackRow.holds Tryd.pinned (OpenSpec.ofChange fixedBackWrong)

/-- 'hedgerowlaw02.FixedFloors': WHATEVER THE INPUT: true; the input reads as it did. -/
def fixedFloorsSpec : ChangeSpec := { name := "fixedFloors", fn := fun _ => fun
  | [d1, d2] => { results := [.lit (.bool true)], args := [d1, d2] }
  | _ => none }
def fixedFloorsRow : OpenClaim := { program := "ytndbcjgbcplgcaadoor", sum := "3b502c4e5b1bdc93bfa8e0fd66c3d1f6bac9873dd44f6d1f55224e51108756fe", func := "hedgerow/hedgerowlaw02.FixedFloors", spec := "fixedFloors", inPlace := ["internal/bytealg.IndexByteString", "internal/bytealg.IndexString"], named := ["unicode/utf8.first", "unicode/utf8.acceptRanges", "internal/bytealg.MaxLen"], apart := false, laid := [("unicode/utf8.acceptRanges", laid_unicode_utf8_acceptRanges), ("unicode/utf8.first", laid_unicode_utf8_first)] }
def FixedFloorsSaid : Prop := fixedFloorsRow.holds Tryd.pinned (OpenSpec.ofChange fixedFloorsSpec)

/-- ITS FALSE NEIGHBOUR: 'it returns false'. Refute it at one input. -/
def fixedFloorsWrong : ChangeSpec := { name := "fixedFloors", fn := fun _ => fun
  | [d1, d2] => { results := [.lit (.bool false)], args := [d1, d2] }
  | _ => none }
def FixedFloorsWrongFalsely : Prop := fixedFloorsRow.holds Tryd.pinned (OpenSpec.ofChange fixedFloorsWrong)

/-- 'hedgerowlaw02.FixedRises': WHATEVER THE INPUT: true; the input reads as it did. -/
def fixedRisesSpec : ChangeSpec := { name := "fixedRises", fn := fun _ => fun
  | [d1, d2, d3] => { results := [.lit (.bool true)], args := [d1, d2, d3] }
  | _ => none }
def fixedRisesRow : OpenClaim := { program := "ytndbcjgbcplgcaadoor", sum := "3b502c4e5b1bdc93bfa8e0fd66c3d1f6bac9873dd44f6d1f55224e51108756fe", func := "hedgerow/hedgerowlaw02.FixedRises", spec := "fixedRises", inPlace := ["internal/bytealg.IndexByteString", "internal/bytealg.IndexString"], named := ["unicode/utf8.first", "unicode/utf8.acceptRanges", "internal/bytealg.MaxLen"], apart := false, laid := [("unicode/utf8.acceptRanges", laid_unicode_utf8_acceptRanges), ("unicode/utf8.first", laid_unicode_utf8_first)] }
def FixedRisesSaid : Prop := fixedRisesRow.holds Tryd.pinned (OpenSpec.ofChange fixedRisesSpec)

/-- ITS FALSE NEIGHBOUR: 'it returns false'. Refute it at one input. -/
def fixedRisesWrong : ChangeSpec := { name := "fixedRises", fn := fun _ => fun
  | [d1, d2, d3] => { results := [.lit (.bool false)], args := [d1, d2, d3] }
  | _ => none }
def FixedRisesWrongFalsely : Prop := fixedRisesRow.holds Tryd.pinned (OpenSpec.ofChange fixedRisesWrong)

/-- 'hedgerowlaw02.FixedUnits': WHATEVER THE INPUT: true; the input reads as it did. -/
def fixedUnitsSpec : ChangeSpec := { name := "fixedUnits", fn := fun _ => fun
  | [d] => { results := [.lit (.bool true)], args := [d] }
  | _ => none }
def fixedUnitsRow : OpenClaim := { program := "ytndbcjgbcplgcaadoor", sum := "3b502c4e5b1bdc93bfa8e0fd66c3d1f6bac9873dd44f6d1f55224e51108756fe", func := "hedgerow/hedgerowlaw02.FixedUnits", spec := "fixedUnits", inPlace := ["internal/bytealg.IndexByteString", "internal/bytealg.IndexString"], named := ["unicode/utf8.first", "unicode/utf8.acceptRanges", "internal/bytealg.MaxLen"], apart := false, laid := [("unicode/utf8.acceptRanges", laid_unicode_utf8_acceptRanges), ("unicode/utf8.first", laid_unicode_utf8_first)] }
def FixedUnitsSaid : Prop := fixedUnitsRow.holds Tryd.pinned (OpenSpec.ofChange fixedUnitsSpec)

/-- ITS FALSE NEIGHBOUR: 'it returns false'. Refute it at one input. -/
def fixedUnitsWrong : ChangeSpec := { name := "fixedUnits", fn := fun _ => fun
  | [d] => { results := [.lit (.bool false)], args := [d] }
  | _ => none }
def FixedUnitsWrongFalsely : Prop := fixedUnitsRow.holds Tryd.pinned (OpenSpec.ofChange fixedUnitsWrong)

/- THE SECOND FORM. 'bulk': how many values and letters a reading holds, each counted each time it is reached (what is shared counts as often as it is met; a slice's spare places count too). A statement '..UptoSaid' is the law's where the arguments, and the package variables that the reading takes, are together of bulk at most 1048576: NARROWER than '..Said'. Prove '..Said' where nothing that the law and all that it calls make is longer than what came in: it says more and counts as full. Else prove '..UptoSaid'. A law counts once. -/
mutual
def uptoBulk {H : Type} : DataW H → Nat
  | .lit (.string bytes) => bytes.length + 1
  | .lit _ => 1
  | .nil => 1
  | .ptr d => uptoBulk d + 1
  | .slice elems spare => uptoBulkAll elems + uptoBulkAll spare + 1
  | .agg parts => uptoBulkAll parts + 1
  | .iface _ d => uptoBulk d + 1
  | .map entries => uptoBulkEntries entries + 1
  | .held _ => 1
def uptoBulkAll {H : Type} : List (DataW H) → Nat
  | [] => 0
  | d :: r => uptoBulk d + uptoBulkAll r
def uptoBulkEntries {H : Type} : List (Lit × DataW H) → Nat
  | [] => 0
  | x :: r => uptoBulkEntry x + uptoBulkEntries r
def uptoBulkEntry {H : Type} : Lit × DataW H → Nat
  | (.string bytes, d) => bytes.length + uptoBulk d + 1
  | (_, d) => uptoBulk d + 1
 end
def uptoSmall : (H : Type) → List (DataW H) → Bool := fun _ ds => decide (uptoBulkAll ds ≤ 1048576)
def OpenSpec.upto (s : _root_.Go.ChangeSpec) : _root_.Go.OpenSpec := { _root_.Go.OpenSpec.ofChange s with cond := some uptoSmall }

/-- 'hedgerowlaw02.FixedClamps', WHERE WHAT IT READS IS OF BULK AT MOST 1048576: true; the input reads as it did. -/
def fixedClampsUptoRow : OpenClaim := { program := "ytndbcjgbcplgcaadoor", sum := "3b502c4e5b1bdc93bfa8e0fd66c3d1f6bac9873dd44f6d1f55224e51108756fe", func := "hedgerow/hedgerowlaw02.FixedClamps", spec := "fixedClamps", inPlace := ["internal/bytealg.IndexByteString", "internal/bytealg.IndexString"], named := ["unicode/utf8.first", "unicode/utf8.acceptRanges", "internal/bytealg.MaxLen"], apart := false, laid := [("unicode/utf8.acceptRanges", laid_unicode_utf8_acceptRanges), ("unicode/utf8.first", laid_unicode_utf8_first)], narrowed := true }
def FixedClampsUptoSaid : Prop := fixedClampsUptoRow.holds Tryd.pinned (OpenSpec.upto fixedClampsSpec)

/-- 'hedgerowlaw02.FixedAdds', WHERE WHAT IT READS IS OF BULK AT MOST 1048576: true; the input reads as it did. -/
def fixedAddsUptoRow : OpenClaim := { program := "ytndbcjgbcplgcaadoor", sum := "3b502c4e5b1bdc93bfa8e0fd66c3d1f6bac9873dd44f6d1f55224e51108756fe", func := "hedgerow/hedgerowlaw02.FixedAdds", spec := "fixedAdds", inPlace := ["internal/bytealg.IndexByteString", "internal/bytealg.IndexString"], named := ["unicode/utf8.first", "unicode/utf8.acceptRanges", "internal/bytealg.MaxLen"], apart := false, laid := [("unicode/utf8.acceptRanges", laid_unicode_utf8_acceptRanges), ("unicode/utf8.first", laid_unicode_utf8_first)], narrowed := true }
def FixedAddsUptoSaid : Prop := fixedAddsUptoRow.holds Tryd.pinned (OpenSpec.upto fixedAddsSpec)

/-- 'hedgerowlaw02.FixedMuls', WHERE WHAT IT READS IS OF BULK AT MOST 1048576: true; the input reads as it did. -/
def fixedMulsUptoRow : OpenClaim := { program := "ytndbcjgbcplgcaadoor", sum := "3b502c4e5b1bdc93bfa8e0fd66c3d1f6bac9873dd44f6d1f55224e51108756fe", func := "hedgerow/hedgerowlaw02.FixedMuls", spec := "fixedMuls", inPlace := ["internal/bytealg.IndexByteString", "internal/bytealg.IndexString"], named := ["unicode/utf8.first", "unicode/utf8.acceptRanges", "internal/bytealg.MaxLen"], apart := false, laid := [("unicode/utf8.acceptRanges", laid_unicode_utf8_acceptRanges), ("unicode/utf8.first", laid_unicode_utf8_first)], narrowed := true }
def FixedMulsUptoSaid : Prop := fixedMulsUptoRow.holds Tryd.pinned (OpenSpec.upto fixedMulsSpec)

/-- 'hedgerowlaw02.FixedDivs', WHERE WHAT IT READS IS OF BULK AT MOST 1048576: true; the input reads as it did. -/
def fixedDivsUptoRow : OpenClaim := { program := "ytndbcjgbcplgcaadoor", sum := "3b502c4e5b1bdc93bfa8e0fd66c3d1f6bac9873dd44f6d1f55224e51108756fe", func := "hedgerow/hedgerowlaw02.FixedDivs", spec := "fixedDivs", inPlace := ["internal/bytealg.IndexByteString", "internal/bytealg.IndexString"], named := ["unicode/utf8.first", "unicode/utf8.acceptRanges", "internal/bytealg.MaxLen"], apart := false, laid := [("unicode/utf8.acceptRanges", laid_unicode_utf8_acceptRanges), ("unicode/utf8.first", laid_unicode_utf8_first)], narrowed := true }
def FixedDivsUptoSaid : Prop := fixedDivsUptoRow.holds Tryd.pinned (OpenSpec.upto fixedDivsSpec)

/-- 'hedgerowlaw02.FixedShows', WHERE WHAT IT READS IS OF BULK AT MOST 1048576: true; the input reads as it did. -/
def fixedShowsUptoRow : OpenClaim := { program := "ytndbcjgbcplgcaadoor", sum := "3b502c4e5b1bdc93bfa8e0fd66c3d1f6bac9873dd44f6d1f55224e51108756fe", func := "hedgerow/hedgerowlaw02.FixedShows", spec := "fixedShows", inPlace := ["internal/bytealg.IndexByteString", "internal/bytealg.IndexString"], recurses := true, named := ["unicode/utf8.first", "unicode/utf8.acceptRanges", "internal/bytealg.MaxLen"], apart := false, laid := [("unicode/utf8.acceptRanges", laid_unicode_utf8_acceptRanges), ("unicode/utf8.first", laid_unicode_utf8_first)], narrowed := true }
def FixedShowsUptoSaid : Prop := fixedShowsUptoRow.holds Tryd.pinned (OpenSpec.upto fixedShowsSpec)

/-- 'hedgerowlaw02.FixedReads', WHERE WHAT IT READS IS OF BULK AT MOST 1048576: true; the input reads as it did. -/
def fixedReadsUptoRow : OpenClaim := { program := "ytndbcjgbcplgcaadoor", sum := "3b502c4e5b1bdc93bfa8e0fd66c3d1f6bac9873dd44f6d1f55224e51108756fe", func := "hedgerow/hedgerowlaw02.FixedReads", spec := "fixedReads", inPlace := ["internal/bytealg.IndexByteString", "internal/bytealg.IndexString"], recurses := true, named := ["unicode/utf8.first", "unicode/utf8.acceptRanges", "internal/bytealg.MaxLen"], apart := false, laid := [("unicode/utf8.acceptRanges", laid_unicode_utf8_acceptRanges), ("unicode/utf8.first", laid_unicode_utf8_first)], narrowed := true }
def FixedReadsUptoSaid : Prop := fixedReadsUptoRow.holds Tryd.pinned (OpenSpec.upto fixedReadsSpec)

/-- 'hedgerowlaw02.FixedBack', WHERE WHAT IT READS IS OF BULK AT MOST 1048576: true; the input reads as it did. -/
def fixedBackUptoRow : OpenClaim := { program := "ytndbcjgbcplgcaadoor", sum := "3b502c4e5b1bdc93bfa8e0fd66c3d1f6bac9873dd44f6d1f55224e51108756fe", func := "hedgerow/hedgerowlaw02.FixedBack", spec := "fixedBack", inPlace := ["internal/bytealg.IndexByteString", "internal/bytealg.IndexString"], named := ["unicode/utf8.first", "unicode/utf8.acceptRanges", "internal/bytealg.MaxLen"], apart := false, laid := [("unicode/utf8.acceptRanges", laid_unicode_utf8_acceptRanges), ("unicode/utf8.first", laid_unicode_utf8_first)], narrowed := true }
def FixedBackUptoSaid : Prop := fixedBackUptoRow.holds Tryd.pinned (OpenSpec.upto fixedBackSpec)

/-- 'hedgerowlaw02.FixedFloors', WHERE WHAT IT READS IS OF BULK AT MOST 1048576: true; the input reads as it did. -/
def fixedFloorsUptoRow : OpenClaim := { program := "ytndbcjgbcplgcaadoor", sum := "3b502c4e5b1bdc93bfa8e0fd66c3d1f6bac9873dd44f6d1f55224e51108756fe", func := "hedgerow/hedgerowlaw02.FixedFloors", spec := "fixedFloors", inPlace := ["internal/bytealg.IndexByteString", "internal/bytealg.IndexString"], named := ["unicode/utf8.first", "unicode/utf8.acceptRanges", "internal/bytealg.MaxLen"], apart := false, laid := [("unicode/utf8.acceptRanges", laid_unicode_utf8_acceptRanges), ("unicode/utf8.first", laid_unicode_utf8_first)], narrowed := true }
def FixedFloorsUptoSaid : Prop := fixedFloorsUptoRow.holds Tryd.pinned (OpenSpec.upto fixedFloorsSpec)

/-- 'hedgerowlaw02.FixedRises', WHERE WHAT IT READS IS OF BULK AT MOST 1048576: true; the input reads as it did. -/
def fixedRisesUptoRow : OpenClaim := { program := "ytndbcjgbcplgcaadoor", sum := "3b502c4e5b1bdc93bfa8e0fd66c3d1f6bac9873dd44f6d1f55224e51108756fe", func := "hedgerow/hedgerowlaw02.FixedRises", spec := "fixedRises", inPlace := ["internal/bytealg.IndexByteString", "internal/bytealg.IndexString"], named := ["unicode/utf8.first", "unicode/utf8.acceptRanges", "internal/bytealg.MaxLen"], apart := false, laid := [("unicode/utf8.acceptRanges", laid_unicode_utf8_acceptRanges), ("unicode/utf8.first", laid_unicode_utf8_first)], narrowed := true }
def FixedRisesUptoSaid : Prop := fixedRisesUptoRow.holds Tryd.pinned (OpenSpec.upto fixedRisesSpec)

/-- 'hedgerowlaw02.FixedUnits', WHERE WHAT IT READS IS OF BULK AT MOST 1048576: true; the input reads as it did. -/
def fixedUnitsUptoRow : OpenClaim := { program := "ytndbcjgbcplgcaadoor", sum := "3b502c4e5b1bdc93bfa8e0fd66c3d1f6bac9873dd44f6d1f55224e51108756fe", func := "hedgerow/hedgerowlaw02.FixedUnits", spec := "fixedUnits", inPlace := ["internal/bytealg.IndexByteString", "internal/bytealg.IndexString"], named := ["unicode/utf8.first", "unicode/utf8.acceptRanges", "internal/bytealg.MaxLen"], apart := false, laid := [("unicode/utf8.acceptRanges", laid_unicode_utf8_acceptRanges), ("unicode/utf8.first", laid_unicode_utf8_first)], narrowed := true }
def FixedUnitsUptoSaid : Prop := fixedUnitsUptoRow.holds Tryd.pinned (OpenSpec.upto fixedUnitsSpec)

end Rows
end Go.Proofs.YtndbcjgbcplgcaaDoor
