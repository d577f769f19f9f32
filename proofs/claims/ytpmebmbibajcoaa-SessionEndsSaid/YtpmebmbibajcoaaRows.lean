/-
  No cell of these rows narrows 'for every input' (looked for: loops, veiled, ifaces, maps, wideKeys, modest, calm, conditions, laid).
  DERIVED. THE GIVEN ROWS OF THIS SEAT. 8 by the template 'for every input the law returns true; each argument reads behind the call as it read before'; 0 by the template 'total and deterministic' (their statements: YtpmebmbibajcoaaTotals.lean).
  GIVEN WITH THE SEED: the statements are not yours to turn. If you find one false, say at which input.
  Laid BY PROGRAM, IN A SANDBOX (cutbox-rows.mjs): the forced cells as the released guide's own fill.sh prints them over the translation 6478b868a7e3f41e… (all of the seat's roots in one cut). By AI agents, Wed Nov 11 2026. No macro, syntax, notation, axiom, sorry.
-/
import Derived.Test.YtpmebmbibajcoaaChecked
import GoSem.Claim
import GoSem.ClaimJoined
import GoSem.ClaimMapViews
import Derived.JoinedTies
import Derived.KernelRfl
namespace Go.Proofs.Ytpmebmbibajcoaa
/- THE CELL 'sum', in the pinned program and in every row, IS THE sha256 OF THE DUMP (.gsa) THAT YtpmebmbibajcoaaProg.lean LOADS. Nothing in Lean hashes anything: it is a label: what it is worth is what the hold of that sum in a sandbox is worth. -/
noncomputable def Try.pinned : Pinned := { name := "ytpmebmbibajcoaa", sum := "6478b868a7e3f41ec339255b818b6affee1a61d02af8fda31a48660187030993", checked := Try.checked }
namespace Rows
def none {H : Type} : Left H := { results := [], args := [] }

/-- 'hedgerowlaw19.SessionWindow': WHATEVER THE INPUT: true; the input reads as it did. -/
def sessionWindowSpec : ChangeSpec := { name := "sessionWindow", fn := fun _ => fun
  | [d1, d2] => { results := [.lit (.bool true)], args := [d1, d2] }
  | _ => none }
def sessionWindowRow : OpenClaim := { program := "ytpmebmbibajcoaa", sum := "6478b868a7e3f41ec339255b818b6affee1a61d02af8fda31a48660187030993", func := "hedgerow/hedgerowlaw19.SessionWindow", spec := "sessionWindow", unfollowed := true, recurses := true, apart := false }
def SessionWindowSaid : Prop := sessionWindowRow.holds Try.pinned (OpenSpec.ofChange sessionWindowSpec)

/-- ITS FALSE NEIGHBOUR: 'it returns false'. Refute it at one input. -/
def sessionWindowWrong : ChangeSpec := { name := "sessionWindow", fn := fun _ => fun
  | [d1, d2] => { results := [.lit (.bool false)], args := [d1, d2] }
  | _ => none }
def SessionWindowWrongFalsely : Prop := sessionWindowRow.holds Try.pinned (OpenSpec.ofChange sessionWindowWrong)

/-- 'hedgerowlaw19.SessionAnew': WHATEVER THE INPUT: true; the input reads as it did. -/
def sessionAnewSpec : ChangeSpec := { name := "sessionAnew", fn := fun _ => fun
  | [d1, d2, d3] => { results := [.lit (.bool true)], args := [d1, d2, d3] }
  | _ => none }
def sessionAnewRow : OpenClaim := { program := "ytpmebmbibajcoaa", sum := "6478b868a7e3f41ec339255b818b6affee1a61d02af8fda31a48660187030993", func := "hedgerow/hedgerowlaw19.SessionAnew", spec := "sessionAnew", unfollowed := true, recurses := true, apart := false }
def SessionAnewSaid : Prop := sessionAnewRow.holds Try.pinned (OpenSpec.ofChange sessionAnewSpec)

/-- ITS FALSE NEIGHBOUR: 'it returns false'. Refute it at one input. -/
def sessionAnewWrong : ChangeSpec := { name := "sessionAnew", fn := fun _ => fun
  | [d1, d2, d3] => { results := [.lit (.bool false)], args := [d1, d2, d3] }
  | _ => none }
def SessionAnewWrongFalsely : Prop := sessionAnewRow.holds Try.pinned (OpenSpec.ofChange sessionAnewWrong)

/-- 'hedgerowlaw19.SessionRoom': WHATEVER THE INPUT: true; the input reads as it did. -/
def sessionRoomSpec : ChangeSpec := { name := "sessionRoom", fn := fun _ => fun
  | [d] => { results := [.lit (.bool true)], args := [d] }
  | _ => none }
def sessionRoomRow : OpenClaim := { program := "ytpmebmbibajcoaa", sum := "6478b868a7e3f41ec339255b818b6affee1a61d02af8fda31a48660187030993", func := "hedgerow/hedgerowlaw19.SessionRoom", spec := "sessionRoom", unfollowed := true, recurses := true, apart := false }
def SessionRoomSaid : Prop := sessionRoomRow.holds Try.pinned (OpenSpec.ofChange sessionRoomSpec)

/-- ITS FALSE NEIGHBOUR: 'it returns false'. Refute it at one input. -/
def sessionRoomWrong : ChangeSpec := { name := "sessionRoom", fn := fun _ => fun
  | [d] => { results := [.lit (.bool false)], args := [d] }
  | _ => none }
def SessionRoomWrongFalsely : Prop := sessionRoomRow.holds Try.pinned (OpenSpec.ofChange sessionRoomWrong)

/-- 'hedgerowlaw19.SessionPlays': WHATEVER THE INPUT: true; the input reads as it did. -/
def sessionPlaysSpec : ChangeSpec := { name := "sessionPlays", fn := fun _ => fun
  | [d1, d2] => { results := [.lit (.bool true)], args := [d1, d2] }
  | _ => none }
def sessionPlaysRow : OpenClaim := { program := "ytpmebmbibajcoaa", sum := "6478b868a7e3f41ec339255b818b6affee1a61d02af8fda31a48660187030993", func := "hedgerow/hedgerowlaw19.SessionPlays", spec := "sessionPlays", unfollowed := true, recurses := true, apart := false }
def SessionPlaysSaid : Prop := sessionPlaysRow.holds Try.pinned (OpenSpec.ofChange sessionPlaysSpec)

/-- ITS FALSE NEIGHBOUR: 'it returns false'. Refute it at one input. -/
def sessionPlaysWrong : ChangeSpec := { name := "sessionPlays", fn := fun _ => fun
  | [d1, d2] => { results := [.lit (.bool false)], args := [d1, d2] }
  | _ => none }
def SessionPlaysWrongFalsely : Prop := sessionPlaysRow.holds Try.pinned (OpenSpec.ofChange sessionPlaysWrong)

/-- 'hedgerowlaw19.SessionOnce': WHATEVER THE INPUT: true; the input reads as it did. -/
def sessionOnceSpec : ChangeSpec := { name := "sessionOnce", fn := fun _ => fun
  | [d] => { results := [.lit (.bool true)], args := [d] }
  | _ => none }
def sessionOnceRow : OpenClaim := { program := "ytpmebmbibajcoaa", sum := "6478b868a7e3f41ec339255b818b6affee1a61d02af8fda31a48660187030993", func := "hedgerow/hedgerowlaw19.SessionOnce", spec := "sessionOnce", unfollowed := true, recurses := true, apart := false }
def SessionOnceSaid : Prop := sessionOnceRow.holds Try.pinned (OpenSpec.ofChange sessionOnceSpec)

/-- ITS FALSE NEIGHBOUR: 'it returns false'. Refute it at one input. -/
def sessionOnceWrong : ChangeSpec := { name := "sessionOnce", fn := fun _ => fun
  | [d] => { results := [.lit (.bool false)], args := [d] }
  | _ => none }
def SessionOnceWrongFalsely : Prop := sessionOnceRow.holds Try.pinned (OpenSpec.ofChange sessionOnceWrong)

/-- 'hedgerowlaw19.SessionEnds': WHATEVER THE INPUT: true; the input reads as it did. -/
def sessionEndsSpec : ChangeSpec := { name := "sessionEnds", fn := fun _ => fun
  | [d1, d2, d3] => { results := [.lit (.bool true)], args := [d1, d2, d3] }
  | _ => none }
def sessionEndsRow : OpenClaim := { program := "ytpmebmbibajcoaa", sum := "6478b868a7e3f41ec339255b818b6affee1a61d02af8fda31a48660187030993", func := "hedgerow/hedgerowlaw19.SessionEnds", spec := "sessionEnds", unfollowed := true, recurses := true, apart := false }
def SessionEndsSaid : Prop := sessionEndsRow.holds Try.pinned (OpenSpec.ofChange sessionEndsSpec)

/-- ITS FALSE NEIGHBOUR: 'it returns false'. Refute it at one input. -/
def sessionEndsWrong : ChangeSpec := { name := "sessionEnds", fn := fun _ => fun
  | [d1, d2, d3] => { results := [.lit (.bool false)], args := [d1, d2, d3] }
  | _ => none }
def SessionEndsWrongFalsely : Prop := sessionEndsRow.holds Try.pinned (OpenSpec.ofChange sessionEndsWrong)

/-- 'hedgerowlaw19.SessionNone': WHATEVER THE INPUT: true; the input reads as it did. -/
def sessionNoneSpec : ChangeSpec := { name := "sessionNone", fn := fun _ => fun
  | [d1, d2] => { results := [.lit (.bool true)], args := [d1, d2] }
  | _ => none }
def sessionNoneRow : OpenClaim := { program := "ytpmebmbibajcoaa", sum := "6478b868a7e3f41ec339255b818b6affee1a61d02af8fda31a48660187030993", func := "hedgerow/hedgerowlaw19.SessionNone", spec := "sessionNone", unfollowed := true, recurses := true, apart := false }
def SessionNoneSaid : Prop := sessionNoneRow.holds Try.pinned (OpenSpec.ofChange sessionNoneSpec)

/-- ITS FALSE NEIGHBOUR: 'it returns false'. Refute it at one input. -/
def sessionNoneWrong : ChangeSpec := { name := "sessionNone", fn := fun _ => fun
  | [d1, d2] => { results := [.lit (.bool false)], args := [d1, d2] }
  | _ => none }
def SessionNoneWrongFalsely : Prop := sessionNoneRow.holds Try.pinned (OpenSpec.ofChange sessionNoneWrong)

/-- 'hedgerowlaw19.SessionCodes': WHATEVER THE INPUT: true; the input reads as it did. -/
def sessionCodesSpec : ChangeSpec := { name := "sessionCodes", fn := fun _ => fun
  | [d1, d2] => { results := [.lit (.bool true)], args := [d1, d2] }
  | _ => none }
def sessionCodesRow : OpenClaim := { program := "ytpmebmbibajcoaa", sum := "6478b868a7e3f41ec339255b818b6affee1a61d02af8fda31a48660187030993", func := "hedgerow/hedgerowlaw19.SessionCodes", spec := "sessionCodes", unfollowed := true, recurses := true, apart := false }
def SessionCodesSaid : Prop := sessionCodesRow.holds Try.pinned (OpenSpec.ofChange sessionCodesSpec)

/-- ITS FALSE NEIGHBOUR: 'it returns false'. Refute it at one input. -/
def sessionCodesWrong : ChangeSpec := { name := "sessionCodes", fn := fun _ => fun
  | [d1, d2] => { results := [.lit (.bool false)], args := [d1, d2] }
  | _ => none }
def SessionCodesWrongFalsely : Prop := sessionCodesRow.holds Try.pinned (OpenSpec.ofChange sessionCodesWrong)

/- THE SECOND FORM. 'bulk': how many values and letters a reading holds, each counted each time it is reached (what is shared counts as often as it is met; a slice's spare places count too). A statement '..UptoSaid' is the law's where the arguments, and the package variables that the reading takes, are together of bulk at most 1048576: NARROWER than '..Said'. Prove '..Said' where nothing that the law and all that it calls make is longer than what came in: it says more and counts as full. Else prove '..UptoSaid'. A law counts once. -/
mutual
def uptoBulk {H : Type} : DataW H → Nat
  | .lit (.string bytes) => bytes.length + 1
  | .lit _ => 1
  | .nil => 1
  | .ptr d => uptoBulk d + 1
  | .slice elems spare => uptoBulkAll elems + uptoBulkAll spare + 1
  | .agg parts => uptoBulkAll parts + 1
  | .iface _ d => uptoBulk d + 1
  | .map entries => uptoBulkEntries entries + 1
  | .held _ => 1
def uptoBulkAll {H : Type} : List (DataW H) → Nat
  | [] => 0
  | d :: r => uptoBulk d + uptoBulkAll r
def uptoBulkEntries {H : Type} : List (Lit × DataW H) → Nat
  | [] => 0
  | x :: r => uptoBulkEntry x + uptoBulkEntries r
def uptoBulkEntry {H : Type} : Lit × DataW H → Nat
  | (.string bytes, d) => bytes.length + uptoBulk d + 1
  | (_, d) => uptoBulk d + 1
 end
def uptoSmall : (H : Type) → List (DataW H) → Bool := fun _ ds => decide (uptoBulkAll ds ≤ 1048576)
def OpenSpec.upto (s : _root_.Go.ChangeSpec) : _root_.Go.OpenSpec := { _root_.Go.OpenSpec.ofChange s with cond := some uptoSmall }

/-- 'hedgerowlaw19.SessionWindow', WHERE WHAT IT READS IS OF BULK AT MOST 1048576: true; the input reads as it did. -/
def sessionWindowUptoRow : OpenClaim := { program := "ytpmebmbibajcoaa", sum := "6478b868a7e3f41ec339255b818b6affee1a61d02af8fda31a48660187030993", func := "hedgerow/hedgerowlaw19.SessionWindow", spec := "sessionWindow", unfollowed := true, recurses := true, apart := false, narrowed := true }
def SessionWindowUptoSaid : Prop := sessionWindowUptoRow.holds Try.pinned (OpenSpec.upto sessionWindowSpec)

/-- 'hedgerowlaw19.SessionAnew', WHERE WHAT IT READS IS OF BULK AT MOST 1048576: true; the input reads as it did. -/
def sessionAnewUptoRow : OpenClaim := { program := "ytpmebmbibajcoaa", sum := "6478b868a7e3f41ec339255b818b6affee1a61d02af8fda31a48660187030993", func := "hedgerow/hedgerowlaw19.SessionAnew", spec := "sessionAnew", unfollowed := true, recurses := true, apart := false, narrowed := true }
def SessionAnewUptoSaid : Prop := sessionAnewUptoRow.holds Try.pinned (OpenSpec.upto sessionAnewSpec)

/-- 'hedgerowlaw19.SessionRoom', WHERE WHAT IT READS IS OF BULK AT MOST 1048576: true; the input reads as it did. -/
def sessionRoomUptoRow : OpenClaim := { program := "ytpmebmbibajcoaa", sum := "6478b868a7e3f41ec339255b818b6affee1a61d02af8fda31a48660187030993", func := "hedgerow/hedgerowlaw19.SessionRoom", spec := "sessionRoom", unfollowed := true, recurses := true, apart := false, narrowed := true }
def SessionRoomUptoSaid : Prop := sessionRoomUptoRow.holds Try.pinned (OpenSpec.upto sessionRoomSpec)

/-- 'hedgerowlaw19.SessionPlays', WHERE WHAT IT READS IS OF BULK AT MOST 1048576: true; the input reads as it did. -/
def sessionPlaysUptoRow : OpenClaim := { program := "ytpmebmbibajcoaa", sum := "6478b868a7e3f41ec339255b818b6affee1a61d02af8fda31a48660187030993", func := "hedgerow/hedgerowlaw19.SessionPlays", spec := "sessionPlays", unfollowed := true, recurses := true, apart := false, narrowed := true }
def SessionPlaysUptoSaid : Prop := sessionPlaysUptoRow.holds Try.pinned (OpenSpec.upto sessionPlaysSpec)

/-- 'hedgerowlaw19.SessionOnce', WHERE WHAT IT READS IS OF BULK AT MOST 1048576: true; the input reads as it did. -/
def sessionOnceUptoRow : OpenClaim := { program := "ytpmebmbibajcoaa", sum := "6478b868a7e3f41ec339255b818b6affee1a61d02af8fda31a48660187030993", func := "hedgerow/hedgerowlaw19.SessionOnce", spec := "sessionOnce", unfollowed := true, recurses := true, apart := false, narrowed := true }
def SessionOnceUptoSaid : Prop := sessionOnceUptoRow.holds Try.pinned (OpenSpec.upto sessionOnceSpec)

/-- 'hedgerowlaw19.SessionEnds', WHERE WHAT IT READS IS OF BULK AT MOST 1048576: true; the input reads as it did. -/
def sessionEndsUptoRow : OpenClaim := { program := "ytpmebmbibajcoaa", sum := "6478b868a7e3f41ec339255b818b6affee1a61d02af8fda31a48660187030993", func := "hedgerow/hedgerowlaw19.SessionEnds", spec := "sessionEnds", unfollowed := true, recurses := true, apart := false, narrowed := true }
def SessionEndsUptoSaid : Prop := sessionEndsUptoRow.holds Try.pinned (OpenSpec.upto sessionEndsSpec)

/-- 'hedgerowlaw19.SessionNone', WHERE WHAT IT READS IS OF BULK AT MOST 1048576: true; the input reads as it did. -/
def sessionNoneUptoRow : OpenClaim := { program := "ytpmebmbibajcoaa", sum := "6478b868a7e3f41ec339255b818b6affee1a61d02af8fda31a48660187030993", func := "hedgerow/hedgerowlaw19.SessionNone", spec := "sessionNone", unfollowed := true, recurses := true, apart := false, narrowed := true }
def SessionNoneUptoSaid : Prop := sessionNoneUptoRow.holds Try.pinned (OpenSpec.upto sessionNoneSpec)

/-- 'hedgerowlaw19.SessionCodes', WHERE WHAT IT READS IS OF BULK AT MOST 1048576: true; the input reads as it did. -/
def sessionCodesUptoRow : OpenClaim := { program := "ytpmebmbibajcoaa", sum := "6478b868a7e3f41ec339255b818b6affee1a61d02af8fda31a48660187030993", func := "hedgerow/hedgerowlaw19.SessionCodes", spec := "sessionCodes", unfollowed := true, recurses := true, apart := false, narrowed := true }
def SessionCodesUptoSaid : Prop := sessionCodesUptoRow.holds Try.pinned (OpenSpec.upto sessionCodesSpec)

end Rows
end Go.Proofs.Ytpmebmbibajcoaa
