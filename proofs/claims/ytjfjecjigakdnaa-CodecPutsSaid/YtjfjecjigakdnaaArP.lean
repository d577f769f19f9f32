/- arch: names and entities, and which may be: plain laws. -/
import Derived.Test.YtjfjecjigakdnaaTxt
import Derived.Test.YtjfjecjigakdnaaHeap
set_option linter.unusedSimpArgs false
set_option linter.unusedVariables false
namespace Go.Proofs.Ytjfjecjigakdnaa
open Go.RowKit
/-- a name -/
structure IdR where
  s : Int
  i : Int
  g : Int
  deriving DecidableEq
/-- an entity -/
structure BdR where
  id : IdR
  mask : Int
  x : Int
  y : Int
  vx : Int
  vy : Int
  hp : Int
  pw : Int
  lf : Int
  deriving DecidableEq
abbrev nI (n : Int) : Value := .int .i64 n
abbrev IdR.cs (a : IdR) : List Value := [nI a.s, nI a.i, nI a.g]
abbrev IdR.v (a : IdR) : Value := .agg #[nI a.s, nI a.i, nI a.g]
abbrev BdR.cs (b : BdR) : List Value := [nI b.id.s, nI b.id.i, nI b.id.g, nI b.mask, nI b.x, nI b.y, nI b.vx, nI b.vy, nI b.hp, nI b.pw, nI b.lf]
abbrev BdR.v (b : BdR) : Value := .agg #[nI b.id.s, nI b.id.i, nI b.id.g, nI b.mask, nI b.x, nI b.y, nI b.vx, nI b.vy, nI b.hp, nI b.pw, nI b.lf]
abbrev id0 : IdR := ⟨0, 0, 0⟩
abbrev bd0 : BdR := ⟨id0, 0, 0, 0, 0, 0, 0, 0, 0⟩
def withinB (has : Bool) (n lo hi : Int) : Bool := if has then decide (lo ≤ n) && decide (n ≤ hi) else decide (n = 0)
/-- has a mask a component? -/
def bitB (m p : Int) : Bool := decide (m / p % 2 = 1)
structure WR where
  has : Bool
  n : Int
  lo : Int
  hi : Int
abbrev WR.cs (r : WR) : List Value := [.bool r.has, nI r.n, nI r.lo, nI r.hi]
def WR.ok (r : WR) : Bool := withinB r.has r.n r.lo r.hi
abbrev wr0 : WR := ⟨false, 0, 0, 0⟩
/-- an entity's components, with what they may be -/
def rowsB (b : BdR) : List WR := [⟨bitB b.mask 1, b.x, -1073741824, 1073741824⟩, ⟨bitB b.mask 1, b.y, -1073741824, 1073741824⟩, ⟨bitB b.mask 2, b.vx, -1073741824, 1073741824⟩, ⟨bitB b.mask 2, b.vy, -1073741824, 1073741824⟩,
  ⟨bitB b.mask 4, b.hp, 1, 1048576⟩, ⟨bitB b.mask 8, b.pw, 0, 1024⟩, ⟨bitB b.mask 16, b.lf, 1, 1048576⟩]
def maskB (m : Int) : Bool := decide (0 ≤ m) && decide (m ≤ 31)
def rightB (b : BdR) : Bool := maskB b.mask && (rowsB b).all WR.ok
def idB (a : IdR) : Bool := withinB true a.s 0 15 && withinB true a.i 0 15 && withinB true a.g 0 1048575
/-- may an entity be? -/
def okB (b : BdR) : Bool := rightB b && bitB b.mask 1 && idB b.id
theorem maskB_iff (m : Int) : maskB m = true ↔ 0 ≤ m ∧ m ≤ 31 := by unfold maskB; simp
theorem maskB_cases {m : Int} (h0 : 0 ≤ m) (h1 : m ≤ 31) : ∃ k : Fin 32, m = ((k : Nat) : Int) := ⟨⟨m.toNat, by omega⟩, by simp only; omega⟩
theorem and_bit {m p : Int} (h0 : 0 ≤ m) (h1 : m ≤ 31) (hp : p = 1 ∨ p = 2 ∨ p = 4 ∨ p = 8 ∨ p = 16) : (bits .and .i64 m p == p) = bitB m p := by
  obtain ⟨k, rfl⟩ := maskB_cases h0 h1
  rcases hp with rfl | rfl | rfl | rfl | rfl <;> (unfold bitB; revert k; decide +kernel)
theorem bitB_half {m p : Int} (h0 : 0 ≤ m) (hp : p = 2 ∨ p = 4 ∨ p = 8 ∨ p = 16) : bitB (m / 2) (p / 2) = bitB m p := by
  unfold bitB
  have : m / 2 / (p / 2) = m / p := by
    rw [Int.ediv_ediv_of_nonneg (by omega)]
    rcases hp with rfl | rfl | rfl | rfl <;> rfl
  rw [this]
theorem bitB_one {m : Int} : bitB m 1 = decide (m % 2 = 1) := by unfold bitB; rw [Int.ediv_one]
theorem rightB_and (b : BdR) : rightB b = (maskB b.mask && (withinB (bitB b.mask 1) b.x (-1073741824) 1073741824 && (withinB (bitB b.mask 1) b.y (-1073741824) 1073741824 && (withinB (bitB b.mask 2) b.vx (-1073741824) 1073741824 && (withinB (bitB b.mask 2) b.vy (-1073741824) 1073741824 &&
    (withinB (bitB b.mask 4) b.hp 1 1048576 && (withinB (bitB b.mask 8) b.pw 0 1024 && withinB (bitB b.mask 16) b.lf 1 1048576))))))) := by
  unfold rightB rowsB WR.ok
  simp
theorem okB_mask {b : BdR} (h : okB b = true) : 0 ≤ b.mask ∧ b.mask ≤ 31 := by
  unfold okB rightB at h
  simp only [Bool.and_eq_true, maskB_iff] at h
  exact h.1.1.1
end Go.Proofs.Ytjfjecjigakdnaa
