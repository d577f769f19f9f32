/- codec: bytes of names, entities, commands: plain laws. -/
import Derived.Test.YtjfjecjigakdnaaRdO
import Derived.Test.YtjfjecjigakdnaaBufP
set_option linter.unusedSimpArgs false
set_option linter.unusedVariables false
namespace Go.Proofs.Ytjfjecjigakdnaa
open Go.RowKit
/-- a command -/
structure CmdR where
  kind : Int
  id : IdR
  b : BdR
  mask : Int
  deriving DecidableEq
abbrev CmdR.cs (c : CmdR) : List Value := [nI c.kind, nI c.id.s, nI c.id.i, nI c.id.g, nI c.b.id.s, nI c.b.id.i, nI c.b.id.g, nI c.b.mask, nI c.b.x, nI c.b.y, nI c.b.vx, nI c.b.vy, nI c.b.hp, nI c.b.pw, nI c.b.lf, nI c.mask]
abbrev CmdR.v (c : CmdR) : Value := .agg #[nI c.kind, nI c.id.s, nI c.id.i, nI c.id.g, nI c.b.id.s, nI c.b.id.i, nI c.b.id.g, nI c.b.mask, nI c.b.x, nI c.b.y, nI c.b.vx, nI c.b.vy, nI c.b.hp, nI c.b.pw, nI c.b.lf, nI c.mask]
abbrev idZ : IdR := ⟨0, 0, 0⟩
abbrev bdZ : BdR := ⟨⟨0, 0, 0⟩, 0, 0, 0, 0, 0, 0, 0, 0⟩
abbrev cmZ : CmdR := ⟨0, idZ, bdZ, 0⟩
def takesB (m : Int) : Bool := decide (1 ≤ m) && decide (m ≤ 31) && decide (m % 2 = 0)
/-- may a command be? -/
def okC (c : CmdR) : Bool :=
  if c.kind = 1 then decide (c.id = idZ) && decide (c.mask = 0) && okB c.b
  else if c.kind = 2 then idB c.id && decide (c.mask = 0) && decide (c.b = bdZ)
  else if c.kind = 3 then idB c.id && decide (c.mask = 0) && decide (c.b.id = idZ) && takesB c.b.mask && rightB c.b
  else if c.kind = 4 then idB c.id && decide (c.b = bdZ) && takesB c.mask
  else false
def idInts (a : IdR) : List Int := [a.s, a.i, a.g]
/-- the components that are there -/
def comps (m : Int) (b : BdR) : List Int := (if bitB m 1 then [b.x, b.y] else []) ++ (if bitB m 2 then [b.vx, b.vy] else []) ++ (if bitB m 4 then [b.hp] else []) ++ (if bitB m 8 then [b.pw] else []) ++ (if bitB m 16 then [b.lf] else [])
def restB (b : BdR) : List UInt8 := Octs.encs (b.mask :: comps b.mask b)
def encI (a : IdR) : List UInt8 := if idB a then Octs.encs (idInts a) else []
def encB (b : BdR) : List UInt8 := if okB b then encI b.id ++ restB b else []
def encC (c : CmdR) : List UInt8 :=
  if okC c then Octs.enc c.kind ++ (if c.kind = 1 then encB c.b else if c.kind = 3 then encI c.id ++ restB c.b else if c.kind = 4 then encI c.id ++ Octs.enc c.mask else encI c.id) else []
/-- the numbers are int64's -/
def IdI (a : IdR) : Prop := Octs.In64 a.s ∧ Octs.In64 a.i ∧ Octs.In64 a.g
def BdI (b : BdR) : Prop := IdI b.id ∧ Octs.In64 b.mask ∧ Octs.In64 b.x ∧ Octs.In64 b.y ∧ Octs.In64 b.vx ∧ Octs.In64 b.vy ∧ Octs.In64 b.hp ∧ Octs.In64 b.pw ∧ Octs.In64 b.lf
def CmI (c : CmdR) : Prop := Octs.In64 c.kind ∧ IdI c.id ∧ BdI c.b ∧ Octs.In64 c.mask
theorem encI_le (a : IdR) : (encI a).length ≤ 27 := by
  unfold encI
  split
  · have := Octs.encs_le (idInts a); simpa [idInts] using this
  · simp
theorem comps_le (m : Int) (b : BdR) : (comps m b).length ≤ 7 := by
  unfold comps
  simp only [List.length_append]
  split <;> split <;> split <;> split <;> split <;> simp
theorem restB_le (b : BdR) : (restB b).length ≤ 72 := by
  unfold restB
  have h1 := Octs.encs_le (b.mask :: comps b.mask b)
  have h2 := comps_le b.mask b
  rw [List.length_cons] at h1
  omega
theorem encB_le (b : BdR) : (encB b).length ≤ 99 := by
  unfold encB
  split
  · rw [List.length_append]
    have := encI_le b.id
    have := restB_le b
    omega
  · simp
theorem encC_le (c : CmdR) : (encC c).length ≤ 108 := by
  unfold encC
  split
  · rw [List.length_append]
    have := Octs.enc_le c.kind
    have := encI_le c.id
    have := restB_le c.b
    have := encB_le c.b
    have := Octs.enc_le c.mask
    split
    · omega
    · split
      · rw [List.length_append]; omega
      · split
        · rw [List.length_append]; omega
        · omega
  · simp
end Go.Proofs.Ytjfjecjigakdnaa
