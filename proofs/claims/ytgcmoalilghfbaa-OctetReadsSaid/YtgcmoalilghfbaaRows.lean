/-
  No cell of these rows narrows 'for every input' (looked for: loops, veiled, ifaces, maps, wideKeys, modest, calm, conditions, laid).
  DERIVED. THE GIVEN ROWS OF THIS SEAT. 6 by the template 'for every input the law returns true; each argument reads behind the call as it read before'; 0 by the template 'total and deterministic' (their statements: YtgcmoalilghfbaaTotals.lean).
  GIVEN WITH THE SEED: the statements are not yours to turn. If you find one false, say at which input.
  Laid BY PROGRAM, IN A SANDBOX (cutbox-rows.mjs): the forced cells as the released guide's own fill.sh prints them over the translation 551b0e9646fa0d78… (all of the seat's roots in one cut). By AI agents, Wed Nov 11 2026. No macro, syntax, notation, axiom, sorry.
-/
import Derived.Test.YtgcmoalilghfbaaChecked
import GoSem.Claim
import GoSem.ClaimJoined
import GoSem.ClaimMapViews
import Derived.JoinedTies
import Derived.KernelRfl
namespace Go.Proofs.Ytgcmoalilghfbaa
/- THE CELL 'sum', in the pinned program and in every row, IS THE sha256 OF THE DUMP (.gsa) THAT YtgcmoalilghfbaaProg.lean LOADS. Nothing in Lean hashes anything: it is a label: what it is worth is what the hold of that sum in a sandbox is worth. -/
noncomputable def Try.pinned : Pinned := { name := "ytgcmoalilghfbaa", sum := "551b0e9646fa0d78a4cb67cdbf3f99bba396dc7342319589af3c857216e8fdd6", checked := Try.checked }
namespace Rows
def none {H : Type} : Left H := { results := [], args := [] }

/-- 'hedgerowlaw01.OctetLays': WHATEVER THE INPUT: true; the input reads as it did. -/
def octetLaysSpec : ChangeSpec := { name := "octetLays", fn := fun _ => fun
  | [d1, d2] => { results := [.lit (.bool true)], args := [d1, d2] }
  | _ => none }
def octetLaysRow : OpenClaim := { program := "ytgcmoalilghfbaa", sum := "551b0e9646fa0d78a4cb67cdbf3f99bba396dc7342319589af3c857216e8fdd6", func := "hedgerow/hedgerowlaw01.OctetLays", spec := "octetLays", recurses := true, apart := false }
def OctetLaysSaid : Prop := octetLaysRow.holds Try.pinned (OpenSpec.ofChange octetLaysSpec)

/-- ITS FALSE NEIGHBOUR: 'it returns false'. Refute it at one input. -/
def octetLaysWrong : ChangeSpec := { name := "octetLays", fn := fun _ => fun
  | [d1, d2] => { results := [.lit (.bool false)], args := [d1, d2] }
  | _ => none }
def OctetLaysWrongFalsely : Prop := octetLaysRow.holds Try.pinned (OpenSpec.ofChange octetLaysWrong)

/-- 'hedgerowlaw01.OctetBack': WHATEVER THE INPUT: true; the input reads as it did. -/
def octetBackSpec : ChangeSpec := { name := "octetBack", fn := fun _ => fun
  | [d] => { results := [.lit (.bool true)], args := [d] }
  | _ => none }
def octetBackRow : OpenClaim := { program := "ytgcmoalilghfbaa", sum := "551b0e9646fa0d78a4cb67cdbf3f99bba396dc7342319589af3c857216e8fdd6", func := "hedgerow/hedgerowlaw01.OctetBack", spec := "octetBack", apart := false }
def OctetBackSaid : Prop := octetBackRow.holds Try.pinned (OpenSpec.ofChange octetBackSpec)

/-- ITS FALSE NEIGHBOUR: 'it returns false'. Refute it at one input. -/
def octetBackWrong : ChangeSpec := { name := "octetBack", fn := fun _ => fun
  | [d] => { results := [.lit (.bool false)], args := [d] }
  | _ => none }
def OctetBackWrongFalsely : Prop := octetBackRow.holds Try.pinned (OpenSpec.ofChange octetBackWrong)

/-- 'hedgerowlaw01.OctetOnly': WHATEVER THE INPUT: true; the input reads as it did. -/
def octetOnlySpec : ChangeSpec := { name := "octetOnly", fn := fun _ => fun
  | [d1, d2] => { results := [.lit (.bool true)], args := [d1, d2] }
  | _ => none }
def octetOnlyRow : OpenClaim := { program := "ytgcmoalilghfbaa", sum := "551b0e9646fa0d78a4cb67cdbf3f99bba396dc7342319589af3c857216e8fdd6", func := "hedgerow/hedgerowlaw01.OctetOnly", spec := "octetOnly", apart := false }
def OctetOnlySaid : Prop := octetOnlyRow.holds Try.pinned (OpenSpec.ofChange octetOnlySpec)

/-- ITS FALSE NEIGHBOUR: 'it returns false'. Refute it at one input. -/
def octetOnlyWrong : ChangeSpec := { name := "octetOnly", fn := fun _ => fun
  | [d1, d2] => { results := [.lit (.bool false)], args := [d1, d2] }
  | _ => none }
def OctetOnlyWrongFalsely : Prop := octetOnlyRow.holds Try.pinned (OpenSpec.ofChange octetOnlyWrong)

/-- 'hedgerowlaw01.OctetJoins': WHATEVER THE INPUT: true; the input reads as it did. -/
def octetJoinsSpec : ChangeSpec := { name := "octetJoins", fn := fun _ => fun
  | [d1, d2] => { results := [.lit (.bool true)], args := [d1, d2] }
  | _ => none }
def octetJoinsRow : OpenClaim := { program := "ytgcmoalilghfbaa", sum := "551b0e9646fa0d78a4cb67cdbf3f99bba396dc7342319589af3c857216e8fdd6", func := "hedgerow/hedgerowlaw01.OctetJoins", spec := "octetJoins", apart := false }
def OctetJoinsSaid : Prop := octetJoinsRow.holds Try.pinned (OpenSpec.ofChange octetJoinsSpec)

/-- ITS FALSE NEIGHBOUR: 'it returns false'. Refute it at one input. -/
def octetJoinsWrong : ChangeSpec := { name := "octetJoins", fn := fun _ => fun
  | [d1, d2] => { results := [.lit (.bool false)], args := [d1, d2] }
  | _ => none }
def OctetJoinsWrongFalsely : Prop := octetJoinsRow.holds Try.pinned (OpenSpec.ofChange octetJoinsWrong)

/-- 'hedgerowlaw01.OctetReads': WHATEVER THE INPUT: true; the input reads as it did. -/
def octetReadsSpec : ChangeSpec := { name := "octetReads", fn := fun _ => fun
  | [d1, d2] => { results := [.lit (.bool true)], args := [d1, d2] }
  | _ => none }
def octetReadsRow : OpenClaim := { program := "ytgcmoalilghfbaa", sum := "551b0e9646fa0d78a4cb67cdbf3f99bba396dc7342319589af3c857216e8fdd6", func := "hedgerow/hedgerowlaw01.OctetReads", spec := "octetReads", apart := false }
def OctetReadsSaid : Prop := octetReadsRow.holds Try.pinned (OpenSpec.ofChange octetReadsSpec)

/-- ITS FALSE NEIGHBOUR: 'it returns false'. Refute it at one input. -/
def octetReadsWrong : ChangeSpec := { name := "octetReads", fn := fun _ => fun
  | [d1, d2] => { results := [.lit (.bool false)], args := [d1, d2] }
  | _ => none }
def OctetReadsWrongFalsely : Prop := octetReadsRow.holds Try.pinned (OpenSpec.ofChange octetReadsWrong)

/-- 'hedgerowlaw01.OctetNone': WHATEVER THE INPUT: true; the input reads as it did. -/
def octetNoneSpec : ChangeSpec := { name := "octetNone", fn := fun _ => fun
  | [d] => { results := [.lit (.bool true)], args := [d] }
  | _ => none }
def octetNoneRow : OpenClaim := { program := "ytgcmoalilghfbaa", sum := "551b0e9646fa0d78a4cb67cdbf3f99bba396dc7342319589af3c857216e8fdd6", func := "hedgerow/hedgerowlaw01.OctetNone", spec := "octetNone", apart := false }
def OctetNoneSaid : Prop := octetNoneRow.holds Try.pinned (OpenSpec.ofChange octetNoneSpec)

/-- ITS FALSE NEIGHBOUR: 'it returns false'. Refute it at one input. -/
def octetNoneWrong : ChangeSpec := { name := "octetNone", fn := fun _ => fun
  | [d] => { results := [.lit (.bool false)], args := [d] }
  | _ => none }
def OctetNoneWrongFalsely : Prop := octetNoneRow.holds Try.pinned (OpenSpec.ofChange octetNoneWrong)

/- THE SECOND FORM. 'bulk': how many values and letters a reading holds, each counted each time it is reached (what is shared counts as often as it is met; a slice's spare places count too). A statement '..UptoSaid' is the law's where the arguments, and the package variables that the reading takes, are together of bulk at most 1048576: NARROWER than '..Said'. Prove '..Said' where nothing that the law and all that it calls make is longer than what came in: it says more and counts as full. Else prove '..UptoSaid'. A law counts once. -/
mutual
def uptoBulk {H : Type} : DataW H → Nat
  | .lit (.string bytes) => bytes.length + 1
  | .lit _ => 1
  | .nil => 1
  | .ptr d => uptoBulk d + 1
  | .slice elems spare => uptoBulkAll elems + uptoBulkAll spare + 1
  | .agg parts => uptoBulkAll parts + 1
  | .iface _ d => uptoBulk d + 1
  | .map entries => uptoBulkEntries entries + 1
  | .held _ => 1
def uptoBulkAll {H : Type} : List (DataW H) → Nat
  | [] => 0
  | d :: r => uptoBulk d + uptoBulkAll r
def uptoBulkEntries {H : Type} : List (Lit × DataW H) → Nat
  | [] => 0
  | x :: r => uptoBulkEntry x + uptoBulkEntries r
def uptoBulkEntry {H : Type} : Lit × DataW H → Nat
  | (.string bytes, d) => bytes.length + uptoBulk d + 1
  | (_, d) => uptoBulk d + 1
 end
def uptoSmall : (H : Type) → List (DataW H) → Bool := fun _ ds => decide (uptoBulkAll ds ≤ 1048576)
def OpenSpec.upto (s : _root_.Go.ChangeSpec) : _root_.Go.OpenSpec := { _root_.Go.OpenSpec.ofChange s with cond := some uptoSmall }

/-- 'hedgerowlaw01.OctetLays', WHERE WHAT IT READS IS OF BULK AT MOST 1048576: true; the input reads as it did. -/
def octetLaysUptoRow : OpenClaim := { program := "ytgcmoalilghfbaa", sum := "551b0e9646fa0d78a4cb67cdbf3f99bba396dc7342319589af3c857216e8fdd6", func := "hedgerow/hedgerowlaw01.OctetLays", spec := "octetLays", recurses := true, apart := false, narrowed := true }
def OctetLaysUptoSaid : Prop := octetLaysUptoRow.holds Try.pinned (OpenSpec.upto octetLaysSpec)

/-- 'hedgerowlaw01.OctetBack', WHERE WHAT IT READS IS OF BULK AT MOST 1048576: true; the input reads as it did. -/
def octetBackUptoRow : OpenClaim := { program := "ytgcmoalilghfbaa", sum := "551b0e9646fa0d78a4cb67cdbf3f99bba396dc7342319589af3c857216e8fdd6", func := "hedgerow/hedgerowlaw01.OctetBack", spec := "octetBack", apart := false, narrowed := true }
def OctetBackUptoSaid : Prop := octetBackUptoRow.holds Try.pinned (OpenSpec.upto octetBackSpec)

/-- 'hedgerowlaw01.OctetOnly', WHERE WHAT IT READS IS OF BULK AT MOST 1048576: true; the input reads as it did. -/
def octetOnlyUptoRow : OpenClaim := { program := "ytgcmoalilghfbaa", sum := "551b0e9646fa0d78a4cb67cdbf3f99bba396dc7342319589af3c857216e8fdd6", func := "hedgerow/hedgerowlaw01.OctetOnly", spec := "octetOnly", apart := false, narrowed := true }
def OctetOnlyUptoSaid : Prop := octetOnlyUptoRow.holds Try.pinned (OpenSpec.upto octetOnlySpec)

/-- 'hedgerowlaw01.OctetJoins', WHERE WHAT IT READS IS OF BULK AT MOST 1048576: true; the input reads as it did. -/
def octetJoinsUptoRow : OpenClaim := { program := "ytgcmoalilghfbaa", sum := "551b0e9646fa0d78a4cb67cdbf3f99bba396dc7342319589af3c857216e8fdd6", func := "hedgerow/hedgerowlaw01.OctetJoins", spec := "octetJoins", apart := false, narrowed := true }
def OctetJoinsUptoSaid : Prop := octetJoinsUptoRow.holds Try.pinned (OpenSpec.upto octetJoinsSpec)

/-- 'hedgerowlaw01.OctetReads', WHERE WHAT IT READS IS OF BULK AT MOST 1048576: true; the input reads as it did. -/
def octetReadsUptoRow : OpenClaim := { program := "ytgcmoalilghfbaa", sum := "551b0e9646fa0d78a4cb67cdbf3f99bba396dc7342319589af3c857216e8fdd6", func := "hedgerow/hedgerowlaw01.OctetReads", spec := "octetReads", apart := false, narrowed := true }
def OctetReadsUptoSaid : Prop := octetReadsUptoRow.holds Try.pinned (OpenSpec.upto octetReadsSpec)

/-- 'hedgerowlaw01.OctetNone', WHERE WHAT IT READS IS OF BULK AT MOST 1048576: true; the input reads as it did. -/
def octetNoneUptoRow : OpenClaim := { program := "ytgcmoalilghfbaa", sum := "551b0e9646fa0d78a4cb67cdbf3f99bba396dc7342319589af3c857216e8fdd6", func := "hedgerow/hedgerowlaw01.OctetNone", spec := "octetNone", apart := false, narrowed := true }
def OctetNoneUptoSaid : Prop := octetNoneUptoRow.holds Try.pinned (OpenSpec.upto octetNoneSpec)

end Rows
end Go.Proofs.Ytgcmoalilghfbaa
