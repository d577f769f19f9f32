/- Plain laws and walks: Txt, ArP, BufP, CodA, CodLP, CodLR. -/
import Derived.Test.YtpdlgflbcgemnaaGreatDoorProg
import Derived.Test.YtpdlgflbcgemnaaGreatDoorGa
import Derived.Lib.Strings
import Derived.Lib.Slices
import Derived.Lib.Small
import Derived.Lib.Walk
import Derived.Lib.Bytealg
import Derived.Laws.BitsLemmas
import Derived.Test.YtpdlgflbcgemnaaGreatDoorGc
-- Txt
/- Bytes and texts: plain laws. -/
set_option linter.unusedSimpArgs false
set_option linter.unusedVariables false
set_option maxRecDepth 100000
namespace Go.Proofs.YtpdlgflbcgemnaaGreatDoor
open Go.RowKit
def bytes (y : ByteArray) : List UInt8 := y.data.toList
def txt (l : List UInt8) : ByteArray := ⟨l.toArray⟩
theorem bytes_txt (l : List UInt8) : bytes (txt l) = l := rfl
theorem txt_bytes (y : ByteArray) : txt (bytes y) = y := rfl
theorem txt_append (l m : List UInt8) : txt l ++ txt m = txt (l ++ m) := by
  apply ByteArray.ext
  simp [txt]
theorem txt_size (l : List UInt8) : (txt l).size = l.length := by simp [txt, ByteArray.size]
theorem bytes_length (y : ByteArray) : (bytes y).length = y.size := by simp [bytes]
theorem txt_inj {l m : List UInt8} : txt l = txt m ↔ l = m := ⟨fun h => by have := congrArg bytes h; simpa [bytes_txt] using this, fun h => by rw [h]⟩
abbrev u8v (b : UInt8) : Value := .int .u8 ((b.toNat : Nat) : Int)
theorem u8_of (m : Nat) : (((UInt8.ofNat m).toNat : Nat) : Int) = (m : Int) % 256 := by simp [UInt8.toNat_ofNat]
theorem wrap_id {n : Int} (h1 : -9223372036854775808 ≤ n) (h2 : n ≤ 9223372036854775807) : IntKind.i64.wrap n = n := by
  unfold IntKind.wrap
  simp only [IntKind.bits, IntKind.signed, Bool.true_and, decide_eq_true_eq, show (2 : Int) ^ (64 - 1) = 9223372036854775808 from rfl, show (2 : Int) ^ 64 = 18446744073709551616 from rfl]
  split <;> omega
theorem w64_id {n : Int} (h1 : -9223372036854775808 ≤ n) (h2 : n ≤ 9223372036854775807) : wrap64 n = n := by
  simp only [wrap64]; omega
theorem byte_get (s : ByteArray) (i : Nat) (h : i < s.size) : (bytes s).getD i 0 = s[i] := by
  have h2 : i < s.data.size := h
  unfold bytes
  rw [List.getD_eq_getElem?_getD, Array.getElem?_toList, Array.getElem?_eq_getElem h2]
  rfl
theorem bytes_take (s : ByteArray) (k : Nat) (h : k < s.size) : (bytes s).take (k + 1) = (bytes s).take k ++ [s[k]] := by
  unfold bytes
  rw [List.take_succ_eq_append_getElem (by simpa using h)]
  rfl
theorem bytes_end (s : ByteArray) : (bytes s).take s.size = bytes s := List.take_of_length_le (by rw [bytes_length]; exact Nat.le_refl _)
theorem extract_txt (s : ByteArray) (a b : Nat) : s.extract a b = txt (((bytes s).take b).drop a) := by
  apply ByteArray.ext
  apply Array.toList_inj.1
  simp [txt, bytes, ByteArray.data_extract, List.drop_take]
theorem size_zero (s : ByteArray) : s.size = 0 ↔ s = ⟨#[]⟩ := by
  constructor
  · intro h
    rw [← txt_bytes s]
    have : bytes s = [] := List.eq_nil_of_length_eq_zero (by rw [bytes_length]; exact h)
    rw [this]; rfl
  · rintro rfl; rfl
theorem eq_bytes (s t : ByteArray) : (s.toList == t.toList) = decide (s = t) := by
  rw [Bool.eq_iff_iff, beq_iff_eq, decide_eq_true_iff, ByteArray.toList_eq, ByteArray.toList_eq]
  exact ⟨fun h => by rw [← txt_bytes s, ← txt_bytes t]; unfold bytes; rw [h], fun h => by rw [h]⟩
end Go.Proofs.YtpdlgflbcgemnaaGreatDoor
-- ArP
/- arch: names and entities, and which may be: plain laws. -/
set_option linter.unusedSimpArgs false
set_option linter.unusedVariables false
namespace Go.Proofs.YtpdlgflbcgemnaaGreatDoor
open Go.RowKit
/-- a name -/
structure IdR where
  s : Int
  i : Int
  g : Int
  deriving DecidableEq
/-- an entity -/
structure BdR where
  id : IdR
  mask : Int
  x : Int
  y : Int
  vx : Int
  vy : Int
  hp : Int
  pw : Int
  lf : Int
  deriving DecidableEq
abbrev nI (n : Int) : Value := .int .i64 n
abbrev IdR.cs (a : IdR) : List Value := [nI a.s, nI a.i, nI a.g]
abbrev IdR.v (a : IdR) : Value := .agg #[nI a.s, nI a.i, nI a.g]
abbrev BdR.cs (b : BdR) : List Value := [nI b.id.s, nI b.id.i, nI b.id.g, nI b.mask, nI b.x, nI b.y, nI b.vx, nI b.vy, nI b.hp, nI b.pw, nI b.lf]
abbrev BdR.v (b : BdR) : Value := .agg #[nI b.id.s, nI b.id.i, nI b.id.g, nI b.mask, nI b.x, nI b.y, nI b.vx, nI b.vy, nI b.hp, nI b.pw, nI b.lf]
abbrev id0 : IdR := ⟨0, 0, 0⟩
abbrev bd0 : BdR := ⟨id0, 0, 0, 0, 0, 0, 0, 0, 0⟩
def withinB (has : Bool) (n lo hi : Int) : Bool := if has then decide (lo ≤ n) && decide (n ≤ hi) else decide (n = 0)
/-- has a mask a component? -/
def bitB (m p : Int) : Bool := decide (m / p % 2 = 1)
structure WR where
  has : Bool
  n : Int
  lo : Int
  hi : Int
abbrev WR.cs (r : WR) : List Value := [.bool r.has, nI r.n, nI r.lo, nI r.hi]
def WR.ok (r : WR) : Bool := withinB r.has r.n r.lo r.hi
abbrev wr0 : WR := ⟨false, 0, 0, 0⟩
/-- an entity's components, with what they may be -/
def rowsB (b : BdR) : List WR := [⟨bitB b.mask 1, b.x, -1073741824, 1073741824⟩, ⟨bitB b.mask 1, b.y, -1073741824, 1073741824⟩, ⟨bitB b.mask 2, b.vx, -1073741824, 1073741824⟩, ⟨bitB b.mask 2, b.vy, -1073741824, 1073741824⟩,
  ⟨bitB b.mask 4, b.hp, 1, 1048576⟩, ⟨bitB b.mask 8, b.pw, 0, 1024⟩, ⟨bitB b.mask 16, b.lf, 1, 1048576⟩]
def maskB (m : Int) : Bool := decide (0 ≤ m) && decide (m ≤ 31)
def rightB (b : BdR) : Bool := maskB b.mask && (rowsB b).all WR.ok
def idB (a : IdR) : Bool := withinB true a.s 0 15 && withinB true a.i 0 15 && withinB true a.g 0 1048575
/-- may an entity be? -/
def okB (b : BdR) : Bool := rightB b && bitB b.mask 1 && idB b.id
theorem maskB_iff (m : Int) : maskB m = true ↔ 0 ≤ m ∧ m ≤ 31 := by unfold maskB; simp
theorem maskB_cases {m : Int} (h0 : 0 ≤ m) (h1 : m ≤ 31) : ∃ k : Fin 32, m = ((k : Nat) : Int) := ⟨⟨m.toNat, by omega⟩, by simp only; omega⟩
theorem and_bit {m p : Int} (h0 : 0 ≤ m) (h1 : m ≤ 31) (hp : p = 1 ∨ p = 2 ∨ p = 4 ∨ p = 8 ∨ p = 16) : (bits .and .i64 m p == p) = bitB m p := by
  obtain ⟨k, rfl⟩ := maskB_cases h0 h1
  rcases hp with rfl | rfl | rfl | rfl | rfl <;> (unfold bitB; revert k; decide +kernel)
theorem bitB_half {m p : Int} (h0 : 0 ≤ m) (hp : p = 2 ∨ p = 4 ∨ p = 8 ∨ p = 16) : bitB (m / 2) (p / 2) = bitB m p := by
  unfold bitB
  have : m / 2 / (p / 2) = m / p := by
    rw [Int.ediv_ediv_of_nonneg (by omega)]
    rcases hp with rfl | rfl | rfl | rfl <;> rfl
  rw [this]
theorem bitB_one {m : Int} : bitB m 1 = decide (m % 2 = 1) := by unfold bitB; rw [Int.ediv_one]
theorem rightB_and (b : BdR) : rightB b = (maskB b.mask && (withinB (bitB b.mask 1) b.x (-1073741824) 1073741824 && (withinB (bitB b.mask 1) b.y (-1073741824) 1073741824 && (withinB (bitB b.mask 2) b.vx (-1073741824) 1073741824 && (withinB (bitB b.mask 2) b.vy (-1073741824) 1073741824 &&
    (withinB (bitB b.mask 4) b.hp 1 1048576 && (withinB (bitB b.mask 8) b.pw 0 1024 && withinB (bitB b.mask 16) b.lf 1 1048576))))))) := by
  unfold rightB rowsB WR.ok
  simp
theorem okB_mask {b : BdR} (h : okB b = true) : 0 ≤ b.mask ∧ b.mask ≤ 31 := by
  unfold okB rightB at h
  simp only [Bool.and_eq_true, maskB_iff] at h
  exact h.1.1.1
end Go.Proofs.YtpdlgflbcgemnaaGreatDoor
-- BufP
/- buffer: masks of any number: plain laws. -/
set_option linter.unusedSimpArgs false
set_option linter.unusedVariables false
namespace Go.Proofs.YtpdlgflbcgemnaaGreatDoor
open Go.RowKit
theorem lsb_ofInt (m : Int) (j : Nat) : (BitVec.ofInt 64 m).getLsbD j = decide ((m % 18446744073709551616).toNat / 2 ^ j % 2 = 1) := by
  unfold BitVec.getLsbD
  rw [Nat.testBit_eq_decide_div_mod_eq, BitVec.toNat_ofInt]
  rfl
theorem and_two (m p : Int) (j : Nat) (hp : p = ((2 ^ j : Nat) : Int)) (hj : j ≤ 4) : bits .and .i64 m p = if (m % 18446744073709551616).toNat / 2 ^ j % 2 = 1 then p else 0 := by
  have e1 : BitVec.ofInt 64 p = BitVec.twoPow 64 j := by
    rw [hp]
    rcases (by omega : j = 0 ∨ j = 1 ∨ j = 2 ∨ j = 3 ∨ j = 4) with rfl | rfl | rfl | rfl | rfl <;> rfl
  have e2 : bits .and .i64 m p = IntKind.i64.wrap ((BitVec.ofInt 64 m &&& BitVec.twoPow 64 j).toNat : Nat) := by
    rw [← e1]
    rfl
  rw [e2, BitVec.and_twoPow, lsb_ofInt]
  by_cases h : (m % 18446744073709551616).toNat / 2 ^ j % 2 = 1
  · rw [if_pos h, if_pos (by simpa using h), hp]
    rcases (by omega : j = 0 ∨ j = 1 ∨ j = 2 ∨ j = 3 ∨ j = 4) with rfl | rfl | rfl | rfl | rfl <;> rfl
  · rw [if_neg h, if_neg (by simpa using h)]
    rfl
theorem and_bitZ (m : Int) {p : Int} (hp : p = 1 ∨ p = 2 ∨ p = 4 ∨ p = 8 ∨ p = 16) : (bits .and .i64 m p == p) = bitB m p := by
  have key : ∀ j : Nat, j ≤ 4 → p = ((2 ^ j : Nat) : Int) → ((m % 18446744073709551616).toNat / 2 ^ j % 2 = 1 ↔ m / p % 2 = 1) → (bits .and .i64 m p == p) = bitB m p := fun j hj he hi => by
    rw [and_two m p j he hj]
    unfold bitB
    by_cases h : (m % 18446744073709551616).toNat / 2 ^ j % 2 = 1
    · rw [if_pos h, decide_eq_true (hi.1 h)]
      simp
    · rw [if_neg h, decide_eq_false (fun x => h (hi.2 x))]
      simp
      omega
  rcases hp with h | h | h | h | h
  · exact key 0 (by omega) h (by subst h; simp only [Nat.pow_zero]; omega)
  · exact key 1 (by omega) h (by subst h; simp only [Nat.pow_one]; omega)
  · exact key 2 (by omega) h (by subst h; rw [show 2 ^ 2 = 4 from rfl]; omega)
  · exact key 3 (by omega) h (by subst h; rw [show 2 ^ 3 = 8 from rfl]; omega)
  · exact key 4 (by omega) h (by subst h; rw [show 2 ^ 4 = 16 from rfl]; omega)
/-- without: as the code and as the reference say it -/
theorem wrap_ofInt (n : Nat) : BitVec.ofInt 64 (IntKind.i64.wrap n) = BitVec.ofNat 64 n := by
  apply BitVec.eq_of_toNat_eq
  rw [BitVec.toNat_ofInt, BitVec.toNat_ofNat]
  rw [IntKind.wrap_i64]
  omega
theorem split_and (X Y : BitVec 64) (h : X.toNat ≤ 31) : ((X ||| Y) &&& ~~~Y).toNat + (X &&& Y).toNat = X.toNat ∧ (X &&& Y).toNat ≤ X.toNat := by
  have e1 : (X ||| Y) &&& ~~~Y = X &&& ~~~Y := by
    apply BitVec.eq_of_getLsbD_eq
    intro i hi
    simp [hi]
    cases X[i] <;> cases Y[i] <;> rfl
  have e2 : (X &&& ~~~Y) &&& (X &&& Y) = 0#64 := by
    apply BitVec.eq_of_getLsbD_eq
    intro i hi
    simp [hi]
    cases X[i] <;> cases Y[i] <;> simp
  have e3 : (X &&& ~~~Y) ||| (X &&& Y) = X := by
    apply BitVec.eq_of_getLsbD_eq
    intro i hi
    simp [hi]
    cases X[i] <;> cases Y[i] <;> rfl
  have e4 : (X &&& ~~~Y) + (X &&& Y) = X := by rw [BitVec.add_eq_or_of_and_eq_zero _ _ e2, e3]
  have l1 : (X &&& Y).toNat ≤ X.toNat := by rw [BitVec.toNat_and]; exact Nat.and_le_left
  have l2 : (X &&& ~~~Y).toNat ≤ X.toNat := by rw [BitVec.toNat_and]; exact Nat.and_le_left
  have e5 := congrArg BitVec.toNat e4
  rw [BitVec.toNat_add] at e5
  rw [e1]
  omega
theorem wrap_small (n : Nat) (h : n ≤ 31) : IntKind.i64.wrap (n : Int) = n := by
  rw [IntKind.wrap_i64]
  omega
theorem without_mask {b : Int} (h0 : 0 ≤ b) (h1 : b ≤ 31) (m : Int) : bits .andNot .i64 (bits .or .i64 b m) m = b - bits .and .i64 b m ∧ 0 ≤ bits .and .i64 b m ∧ bits .and .i64 b m ≤ b := by
  have e1 : bits .andNot .i64 (bits .or .i64 b m) m = IntKind.i64.wrap ((BitVec.ofInt 64 (IntKind.i64.wrap ((BitVec.ofInt 64 b ||| BitVec.ofInt 64 m).toNat : Nat)) &&& ~~~ BitVec.ofInt 64 m).toNat : Nat) := rfl
  rw [wrap_ofInt, BitVec.ofNat_toNat, BitVec.setWidth_eq] at e1
  have e2 : bits .and .i64 b m = IntKind.i64.wrap ((BitVec.ofInt 64 b &&& BitVec.ofInt 64 m).toNat : Nat) := rfl
  have hx : (BitVec.ofInt 64 b).toNat = b.toNat := by rw [BitVec.toNat_ofInt]; omega
  obtain ⟨h2, h3⟩ := split_and (BitVec.ofInt 64 b) (BitVec.ofInt 64 m) (by omega)
  rw [e1, e2, wrap_small _ (by omega), wrap_small _ (by omega)]
  omega
end Go.Proofs.YtpdlgflbcgemnaaGreatDoor
-- CodA
/- codec: bytes of names, entities, commands: plain laws. -/
set_option linter.unusedSimpArgs false
set_option linter.unusedVariables false
namespace Go.Proofs.YtpdlgflbcgemnaaGreatDoor
open Go.RowKit
/-- a command -/
structure CmdR where
  kind : Int
  id : IdR
  b : BdR
  mask : Int
  deriving DecidableEq
abbrev CmdR.cs (c : CmdR) : List Value := [nI c.kind, nI c.id.s, nI c.id.i, nI c.id.g, nI c.b.id.s, nI c.b.id.i, nI c.b.id.g, nI c.b.mask, nI c.b.x, nI c.b.y, nI c.b.vx, nI c.b.vy, nI c.b.hp, nI c.b.pw, nI c.b.lf, nI c.mask]
abbrev CmdR.v (c : CmdR) : Value := .agg #[nI c.kind, nI c.id.s, nI c.id.i, nI c.id.g, nI c.b.id.s, nI c.b.id.i, nI c.b.id.g, nI c.b.mask, nI c.b.x, nI c.b.y, nI c.b.vx, nI c.b.vy, nI c.b.hp, nI c.b.pw, nI c.b.lf, nI c.mask]
abbrev idZ : IdR := ⟨0, 0, 0⟩
abbrev bdZ : BdR := ⟨⟨0, 0, 0⟩, 0, 0, 0, 0, 0, 0, 0, 0⟩
abbrev cmZ : CmdR := ⟨0, idZ, bdZ, 0⟩
def takesB (m : Int) : Bool := decide (1 ≤ m) && decide (m ≤ 31) && decide (m % 2 = 0)
/-- may a command be? -/
def okC (c : CmdR) : Bool :=
  if c.kind = 1 then decide (c.id = idZ) && decide (c.mask = 0) && okB c.b
  else if c.kind = 2 then idB c.id && decide (c.mask = 0) && decide (c.b = bdZ)
  else if c.kind = 3 then idB c.id && decide (c.mask = 0) && decide (c.b.id = idZ) && takesB c.b.mask && rightB c.b
  else if c.kind = 4 then idB c.id && decide (c.b = bdZ) && takesB c.mask
  else false
def idInts (a : IdR) : List Int := [a.s, a.i, a.g]
/-- the components that are there -/
def comps (m : Int) (b : BdR) : List Int := (if bitB m 1 then [b.x, b.y] else []) ++ (if bitB m 2 then [b.vx, b.vy] else []) ++ (if bitB m 4 then [b.hp] else []) ++ (if bitB m 8 then [b.pw] else []) ++ (if bitB m 16 then [b.lf] else [])
def restB (b : BdR) : List UInt8 := Octs.encs (b.mask :: comps b.mask b)
def encI (a : IdR) : List UInt8 := if idB a then Octs.encs (idInts a) else []
def encB (b : BdR) : List UInt8 := if okB b then encI b.id ++ restB b else []
def encC (c : CmdR) : List UInt8 :=
  if okC c then Octs.enc c.kind ++ (if c.kind = 1 then encB c.b else if c.kind = 3 then encI c.id ++ restB c.b else if c.kind = 4 then encI c.id ++ Octs.enc c.mask else encI c.id) else []
/-- the numbers are int64's -/
def IdI (a : IdR) : Prop := Octs.In64 a.s ∧ Octs.In64 a.i ∧ Octs.In64 a.g
def BdI (b : BdR) : Prop := IdI b.id ∧ Octs.In64 b.mask ∧ Octs.In64 b.x ∧ Octs.In64 b.y ∧ Octs.In64 b.vx ∧ Octs.In64 b.vy ∧ Octs.In64 b.hp ∧ Octs.In64 b.pw ∧ Octs.In64 b.lf
def CmI (c : CmdR) : Prop := Octs.In64 c.kind ∧ IdI c.id ∧ BdI c.b ∧ Octs.In64 c.mask
theorem encI_le (a : IdR) : (encI a).length ≤ 27 := by
  unfold encI
  split
  · have := Octs.encs_le (idInts a); simpa [idInts] using this
  · simp
theorem comps_le (m : Int) (b : BdR) : (comps m b).length ≤ 7 := by
  unfold comps
  simp only [List.length_append]
  split <;> split <;> split <;> split <;> split <;> simp
theorem restB_le (b : BdR) : (restB b).length ≤ 72 := by
  unfold restB
  have h1 := Octs.encs_le (b.mask :: comps b.mask b)
  have h2 := comps_le b.mask b
  rw [List.length_cons] at h1
  omega
theorem encB_le (b : BdR) : (encB b).length ≤ 99 := by
  unfold encB
  split
  · rw [List.length_append]
    have := encI_le b.id
    have := restB_le b
    omega
  · simp
theorem encC_le (c : CmdR) : (encC c).length ≤ 108 := by
  unfold encC
  split
  · rw [List.length_append]
    have := Octs.enc_le c.kind
    have := encI_le c.id
    have := restB_le c.b
    have := encB_le c.b
    have := Octs.enc_le c.mask
    split
    · omega
    · split
      · rw [List.length_append]; omega
      · split
        · rw [List.length_append]; omega
        · omega
  · simp
end Go.Proofs.YtpdlgflbcgemnaaGreatDoor
-- CodLP
/- codec: lists' bytes: plain laws. -/
set_option linter.unusedSimpArgs false
set_option linter.unusedVariables false
namespace Go.Proofs.YtpdlgflbcgemnaaGreatDoor
open Go.RowKit
/-- a list's bytes -/
def encLs {α : Type} (enc : α → List UInt8) (xs : List α) : List UInt8 := xs.flatMap enc
def encL {α : Type} (enc : α → List UInt8) (xs : List α) : List UInt8 := Octs.enc xs.length ++ encLs enc xs
theorem encLs_take {α : Type} (enc : α → List UInt8) (xs : List α) (k : Nat) (x : α) (h : xs[k]? = some x) : encLs enc (xs.take (k + 1)) = encLs enc (xs.take k) ++ enc x := by
  unfold encLs
  rw [List.take_add_one, h]
  simp
theorem encLs_le {α : Type} (enc : α → List UInt8) (m : Nat) (h : ∀ x, (enc x).length ≤ m) (xs : List α) : (encLs enc xs).length ≤ xs.length * m := by
  unfold encLs
  induction xs with
  | nil => simp
  | cons x r ih =>
    rw [List.flatMap_cons, List.length_append, List.length_cons, Nat.add_mul]
    have := h x
    omega
end Go.Proofs.YtpdlgflbcgemnaaGreatDoor
-- CodLR
/- codec: lists' rows. -/
set_option linter.unusedSimpArgs false
set_option linter.unusedVariables false
namespace Go.Proofs.YtpdlgflbcgemnaaGreatDoor
open Go.RowKit
structure RowI (w : World) (g p : Nat) (x : IdR) : Prop where
  c0 : w.cell? ⟨g, p, none⟩ = some (nI x.s)
  c1 : w.cell? ⟨g, p + 1, none⟩ = some (nI x.i)
  c2 : w.cell? ⟨g, p + 2, none⟩ = some (nI x.g)
def rowFI (xs : List IdR) (i j : Nat) : Value := ((xs.getD i idZ).cs).getD j (nI 0)
theorem rowI {w : World} {A : Option Addr} {xs : List IdR} (h : RowsAt w A 3 xs.length (rowFI xs)) (i : Nat) (x : IdR) (hx : xs[i]? = some x) (hi : i < xs.length) : ∃ g o, A = some ⟨g, o, none⟩ ∧ InW g w ∧ RowI w g (o + i * 3) x := by
  obtain ⟨g, o, hA, hg, hc⟩ := h (by omega)
  have key : ∀ k, k < 3 → w.cell? ⟨g, o + i * 3 + k, none⟩ = some (x.cs.getD k (nI 0)) := fun k hk => by
    rw [Nat.add_assoc, hc i k hi hk]
    have hq : xs.getD i idZ = x := by rw [List.getD_eq_getElem?_getD, hx]; rfl
    unfold rowFI
    rw [hq]
  exact ⟨g, o, hA, ⟨hg⟩, key 0 (by omega), key 1 (by omega), key 2 (by omega)⟩
structure RowB (w : World) (g p : Nat) (x : BdR) : Prop where
  c0 : w.cell? ⟨g, p, none⟩ = some (nI x.id.s)
  c1 : w.cell? ⟨g, p + 1, none⟩ = some (nI x.id.i)
  c2 : w.cell? ⟨g, p + 2, none⟩ = some (nI x.id.g)
  c3 : w.cell? ⟨g, p + 3, none⟩ = some (nI x.mask)
  c4 : w.cell? ⟨g, p + 4, none⟩ = some (nI x.x)
  c5 : w.cell? ⟨g, p + 5, none⟩ = some (nI x.y)
  c6 : w.cell? ⟨g, p + 6, none⟩ = some (nI x.vx)
  c7 : w.cell? ⟨g, p + 7, none⟩ = some (nI x.vy)
  c8 : w.cell? ⟨g, p + 8, none⟩ = some (nI x.hp)
  c9 : w.cell? ⟨g, p + 9, none⟩ = some (nI x.pw)
  c10 : w.cell? ⟨g, p + 10, none⟩ = some (nI x.lf)
def rowFB (xs : List BdR) (i j : Nat) : Value := ((xs.getD i bdZ).cs).getD j (nI 0)
theorem rowB {w : World} {A : Option Addr} {xs : List BdR} (h : RowsAt w A 11 xs.length (rowFB xs)) (i : Nat) (x : BdR) (hx : xs[i]? = some x) (hi : i < xs.length) : ∃ g o, A = some ⟨g, o, none⟩ ∧ InW g w ∧ RowB w g (o + i * 11) x := by
  obtain ⟨g, o, hA, hg, hc⟩ := h (by omega)
  have key : ∀ k, k < 11 → w.cell? ⟨g, o + i * 11 + k, none⟩ = some (x.cs.getD k (nI 0)) := fun k hk => by
    rw [Nat.add_assoc, hc i k hi hk]
    have hq : xs.getD i bdZ = x := by rw [List.getD_eq_getElem?_getD, hx]; rfl
    unfold rowFB
    rw [hq]
  exact ⟨g, o, hA, ⟨hg⟩, key 0 (by omega), key 1 (by omega), key 2 (by omega), key 3 (by omega), key 4 (by omega), key 5 (by omega), key 6 (by omega), key 7 (by omega), key 8 (by omega), key 9 (by omega), key 10 (by omega)⟩
structure RowC (w : World) (g p : Nat) (x : CmdR) : Prop where
  c0 : w.cell? ⟨g, p, none⟩ = some (nI x.kind)
  c1 : w.cell? ⟨g, p + 1, none⟩ = some (nI x.id.s)
  c2 : w.cell? ⟨g, p + 2, none⟩ = some (nI x.id.i)
  c3 : w.cell? ⟨g, p + 3, none⟩ = some (nI x.id.g)
  c4 : w.cell? ⟨g, p + 4, none⟩ = some (nI x.b.id.s)
  c5 : w.cell? ⟨g, p + 5, none⟩ = some (nI x.b.id.i)
  c6 : w.cell? ⟨g, p + 6, none⟩ = some (nI x.b.id.g)
  c7 : w.cell? ⟨g, p + 7, none⟩ = some (nI x.b.mask)
  c8 : w.cell? ⟨g, p + 8, none⟩ = some (nI x.b.x)
  c9 : w.cell? ⟨g, p + 9, none⟩ = some (nI x.b.y)
  c10 : w.cell? ⟨g, p + 10, none⟩ = some (nI x.b.vx)
  c11 : w.cell? ⟨g, p + 11, none⟩ = some (nI x.b.vy)
  c12 : w.cell? ⟨g, p + 12, none⟩ = some (nI x.b.hp)
  c13 : w.cell? ⟨g, p + 13, none⟩ = some (nI x.b.pw)
  c14 : w.cell? ⟨g, p + 14, none⟩ = some (nI x.b.lf)
  c15 : w.cell? ⟨g, p + 15, none⟩ = some (nI x.mask)
def rowFC (xs : List CmdR) (i j : Nat) : Value := ((xs.getD i cmZ).cs).getD j (nI 0)
theorem rowC {w : World} {A : Option Addr} {xs : List CmdR} (h : RowsAt w A 16 xs.length (rowFC xs)) (i : Nat) (x : CmdR) (hx : xs[i]? = some x) (hi : i < xs.length) : ∃ g o, A = some ⟨g, o, none⟩ ∧ InW g w ∧ RowC w g (o + i * 16) x := by
  obtain ⟨g, o, hA, hg, hc⟩ := h (by omega)
  have key : ∀ k, k < 16 → w.cell? ⟨g, o + i * 16 + k, none⟩ = some (x.cs.getD k (nI 0)) := fun k hk => by
    rw [Nat.add_assoc, hc i k hi hk]
    have hq : xs.getD i cmZ = x := by rw [List.getD_eq_getElem?_getD, hx]; rfl
    unfold rowFC
    rw [hq]
  exact ⟨g, o, hA, ⟨hg⟩, key 0 (by omega), key 1 (by omega), key 2 (by omega), key 3 (by omega), key 4 (by omega), key 5 (by omega), key 6 (by omega), key 7 (by omega), key 8 (by omega), key 9 (by omega), key 10 (by omega), key 11 (by omega), key 12 (by omega), key 13 (by omega), key 14 (by omega), key 15 (by omega)⟩
end Go.Proofs.YtpdlgflbcgemnaaGreatDoor
