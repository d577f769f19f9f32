/- codec: the reference's May: walk. -/
import Derived.Test.YtpdlgflbcgemnaaGreatDoorCodMc
import Derived.Test.YtpdlgflbcgemnaaGreatDoorCodS
set_option linter.unusedSimpArgs false
set_option linter.unusedVariables false
namespace Go.Proofs.YtpdlgflbcgemnaaGreatDoor
open Go.RowKit Octs
set_option maxHeartbeats 2000000
set_option maxRecDepth 100000
def bad1 (k t n : Int) : Bool := !(fK k && numB (fT k) t && numB (fN k) n)
def bad2 (k : Int) (Lc Lb Li : Nat) : Bool := !((fC k || decide (Lc = 0)) && (fB k || decide (Lb = 0)) && (fI k || decide (Li = 0)))
def bad3 (k : Int) (Lc Lb Li : Nat) : Bool := !(decide (Lc ≤ 64) && decide (Lb ≤ 1024) && decide (Li ≤ 1024) && !(decide (k = 7) && decide (Lb ≠ 1)))
theorem okM_split (k t n : Int) (cs : List CmdR) (bs : List BdR) (is : List IdR) : okM ⟨k, t, n, cs, bs, is⟩ = (!bad1 k t n && !bad2 k cs.length bs.length is.length && !bad3 k cs.length bs.length is.length && cs.all okC && bs.all okB && is.all idB) := by
  unfold okM bad1 bad2 bad3 allB
  simp only [Bool.not_not]
  generalize fK k = x1
  generalize numB (fT k) t = x2
  generalize numB (fN k) n = x3
  generalize (fC k || decide (cs.length = 0)) = x4
  generalize (fB k || decide (bs.length = 0)) = x5
  generalize (fI k || decide (is.length = 0)) = x6
  generalize decide (cs.length ≤ 64) = x7
  generalize decide (bs.length ≤ 1024) = x8
  generalize decide (is.length ≤ 1024) = x9
  generalize (!(decide (k = 7) && decide (bs.length ≠ 1))) = x10
  generalize cs.all okC = x11
  generalize bs.all okB = x12
  generalize is.all idB = x13
  cases x1 <;> cases x2 <;> cases x3 <;> cases x4 <;> cases x5 <;> cases x6 <;> simp
  cases x7 <;> cases x8 <;> cases x9 <;> cases x10 <;> cases x11 <;> cases x12 <;> cases x13 <;> rfl
section
variable (k t n : Int) (Lc Lb Li : Nat) (Ac Ab Ai : Option Addr) (cc cb ci : Nat) (W : World)
/-- the frame -/
def MyF (B : Nat) (wx : World) : Prop := Hid (Own W wx (cellsA B [nI k, nI t, nI n, .slice Ac Lc cc, .slice Ab Lb cb, .slice Ai Li ci] :: []))
end
end Go.Proofs.YtpdlgflbcgemnaaGreatDoor
