/- top: the pair as an assertion. -/
import Derived.Test.YthmfmpkkbgapoaaGq
import Derived.Test.YthmfmpkkbgapoaaGt
import Derived.Test.YthmfmpkkbgapoaaGo
import Derived.Test.YthmfmpkkbgapoaaCodMe
set_option linter.unusedSimpArgs false
set_option linter.unusedVariables false
namespace Go.Proofs.Ythmfmpkkbgapoaa
open Go.RowKit Octs
/-- a message's cells -/
def msC (m : MsgR) (a : MAt) : List Value := [.int .i64 m.kind, .int .i64 m.t, .int .i64 m.n, .slice a.Ac m.cs.length a.cc, .slice a.Ab m.bs.length a.cb, .slice a.Ai m.is.length a.ci]
def hrC (xs : List (MsgR × MAt)) : List Value := xs.flatMap fun x => msC x.1 x.2
def hrL (xs : List (MsgR × MAt)) : List Asn := xs.flatMap fun x => msgA x.1 x.2
/-- what was heard -/
def heardA (v : Value) (ms : List MsgR) : Asn := exA fun ys : List MAt => [factA (ys.length = ms.length), slA 6 v ms.length (hrC (ms.zip ys)), bothA (hrL (ms.zip ys))]
/-- two nodes and the net between them -/
structure Pr where
  c0 : Ses.Ch
  c1 : Ses.Ch
  net : List Pk
  h0 : List MsgR
  h1 : List MsgR
  bad : Bool
structure PAt where
  X : Nat
  v0 : Value
  v1 : Value
def pairL (P N0 N1 : Nat) (s : Pr) (x : PAt) : List Asn :=
  [cellsA P [Ses.chV N0, Ses.chV N1, ptV x.X, x.v0, x.v1, .bool s.bad], Ses.chanA N0 s.c0, Ses.chanA N1 s.c1, netA x.X s.net, heardA x.v0 s.h0, heardA x.v1 s.h1]
def pairA (P N0 N1 : Nat) (s : Pr) : Asn := exA fun x : PAt => pairL P N0 N1 s x
end Go.Proofs.Ythmfmpkkbgapoaa
