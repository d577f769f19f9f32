/- arch: the law's Step: walk. -/
import Derived.Test.YtkdagljoiacaaaaArM
import Derived.Test.YtkdagljoiacaaaaArK
set_option linter.unusedSimpArgs false
set_option linter.unusedVariables false
namespace Go.Proofs.Ytkdagljoiacaaaa
open Go.RowKit
/-- a deed -/
structure DeedR where
  k : Int
  b : BdR
  deriving DecidableEq
abbrev DeedR.cs (x : DeedR) : List Value := [nI x.k, nI x.b.id.s, nI x.b.id.i, nI x.b.id.g, nI x.b.mask, nI x.b.x, nI x.b.y, nI x.b.vx, nI x.b.vy, nI x.b.hp, nI x.b.pw, nI x.b.lf]
abbrev DeedR.v (x : DeedR) : Value := .agg #[nI x.k, nI x.b.id.s, nI x.b.id.i, nI x.b.id.g, nI x.b.mask, nI x.b.x, nI x.b.y, nI x.b.vx, nI x.b.vy, nI x.b.hp, nI x.b.pw, nI x.b.lf]
def stepT (T : Tabs) (x : DeedR) : Tabs := if x.k = 0 ∨ x.k = 1 ∨ x.k = 2 then (putS T x.b).1 else if x.k = 3 ∨ x.k = 4 then (writeS T x.b).1 else if x.k = 5 then (removeS T x.b.id).1 else T
def Tells (T T' : Tabs) (v : Bool) : Prop := T = T' → v = true
theorem good_stepT {T : Tabs} (h : GoodT T) (x : DeedR) : GoodT (stepT T x) := by
  unfold stepT
  split
  · exact good_putS h x.b
  · split
    · exact good_writeS h x.b
    · split
      · exact good_removeS h x.b.id
      · exact h
theorem cln_stepT {T : Tabs} (h : Cln T) (x : DeedR) : Cln (stepT T x) := by
  unfold stepT
  split
  · exact cln_putS h x.b
  · split
    · exact cln_writeS h x.b
    · split
      · exact cln_removeS h x.b.id
      · exact h
theorem total_stepT (T : Tabs) (x : DeedR) : total (stepT T x) ≤ total T + 1 := by
  unfold stepT
  split
  · exact total_putS T x.b
  · split
    · rw [total_writeS]; omega
    · split
      · have := total_removeS T x.b.id; omega
      · omega
end Go.Proofs.Ytkdagljoiacaaaa
