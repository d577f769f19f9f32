/- octet: numbers' bytes: plain laws. -/
import Derived.Test.YtjfjecjigakdnaaProg
import Derived.Test.YtjfjecjigakdnaaGrow
import Derived.Test.YtjfjecjigakdnaaOwn
import Derived.Lib.Strings
import Derived.Lib.Slices
import Derived.Lib.Small
import Derived.Lib.Walk
import Derived.Lib.BitFns
set_option linter.unusedSimpArgs false
set_option linter.unusedVariables false
namespace Go.Proofs.Ytjfjecjigakdnaa.Octs
open Go.RowKit
def bytes (y : ByteArray) : List UInt8 := y.data.toList
def txt (l : List UInt8) : ByteArray := ⟨l.toArray⟩
theorem bytes_txt (l : List UInt8) : bytes (txt l) = l := rfl
theorem txt_bytes (y : ByteArray) : txt (bytes y) = y := rfl
theorem txt_append (l m : List UInt8) : txt l ++ txt m = txt (l ++ m) := by
  apply ByteArray.ext
  simp [txt]
theorem txt_size (l : List UInt8) : (txt l).size = l.length := by simp [txt, ByteArray.size]
theorem bytes_length (y : ByteArray) : (bytes y).length = y.size := by simp [bytes]
theorem txt_inj {l m : List UInt8} : txt l = txt m ↔ l = m := ⟨fun h => by have := congrArg bytes h; simpa [bytes_txt] using this, fun h => by rw [h]⟩
/-- k bytes, the highest one first -/
def big : Nat → Nat → List UInt8
  | _, 0 => []
  | n, k + 1 => big (n / 256) k ++ [UInt8.ofNat n]
theorem big_length : ∀ (k n : Nat), (big n k).length = k
  | 0, _ => rfl
  | k + 1, n => by simp [big, big_length k]
/-- in how many bytes a number can be written -/
def bsz (m : Nat) : Nat :=
  if m < 1 then 0 else if m < 256 then 1 else if m < 65536 then 2 else if m < 16777216 then 3 else if m < 4294967296 then 4
  else if m < 1099511627776 then 5 else if m < 281474976710656 then 6 else if m < 72057594037927936 then 7 else 8
theorem bsz_le (m : Nat) : bsz m ≤ 8 := by
  unfold bsz
  repeat' split
  all_goals omega
theorem bsz_zero : bsz 0 = 0 := rfl
theorem bsz1 {m : Nat} (h1 : 1 ≤ m) (h2 : m < 256) : bsz m = 1 := by
  unfold bsz
  rw [if_neg (by omega), if_pos (by omega)]
theorem bsz2 {m : Nat} (h1 : 256 ≤ m) (h2 : m < 65536) : bsz m = 2 := by
  unfold bsz
  rw [if_neg (by omega), if_neg (by omega), if_pos (by omega)]
theorem bsz3 {m : Nat} (h1 : 65536 ≤ m) (h2 : m < 16777216) : bsz m = 3 := by
  unfold bsz
  rw [if_neg (by omega), if_neg (by omega), if_neg (by omega), if_pos (by omega)]
theorem bsz4 {m : Nat} (h1 : 16777216 ≤ m) (h2 : m < 4294967296) : bsz m = 4 := by
  unfold bsz
  rw [if_neg (by omega), if_neg (by omega), if_neg (by omega), if_neg (by omega), if_pos (by omega)]
theorem bsz5 {m : Nat} (h1 : 4294967296 ≤ m) (h2 : m < 1099511627776) : bsz m = 5 := by
  unfold bsz
  rw [if_neg (by omega), if_neg (by omega), if_neg (by omega), if_neg (by omega), if_neg (by omega), if_pos (by omega)]
theorem bsz6 {m : Nat} (h1 : 1099511627776 ≤ m) (h2 : m < 281474976710656) : bsz m = 6 := by
  unfold bsz
  rw [if_neg (by omega), if_neg (by omega), if_neg (by omega), if_neg (by omega), if_neg (by omega), if_neg (by omega), if_pos (by omega)]
theorem bsz7 {m : Nat} (h1 : 281474976710656 ≤ m) (h2 : m < 72057594037927936) : bsz m = 7 := by
  unfold bsz
  rw [if_neg (by omega), if_neg (by omega), if_neg (by omega), if_neg (by omega), if_neg (by omega), if_neg (by omega), if_neg (by omega), if_pos (by omega)]
theorem bsz8 {m : Nat} (h1 : 72057594037927936 ≤ m) (h2 : m < 18446744073709551616) : bsz m = 8 := by
  unfold bsz
  rw [if_neg (by omega), if_neg (by omega), if_neg (by omega), if_neg (by omega), if_neg (by omega), if_neg (by omega), if_neg (by omega), if_neg (by omega)]
theorem bsz_step (m : Nat) (h0 : 0 < m) (h : m < 18446744073709551616) : bsz m = bsz (m / 256) + 1 := by
  rcases Nat.lt_or_ge m 256 with h1 | h1
  · rw [bsz1 (by omega) h1, Nat.div_eq_of_lt h1, bsz_zero]
  rcases Nat.lt_or_ge m 65536 with h2 | h2
  · rw [bsz2 (by omega) h2, bsz1 (by omega) (by omega)]
  clear h1
  have h1 := h2
  clear h2
  rcases Nat.lt_or_ge m 16777216 with h2 | h2
  · rw [bsz3 (by omega) h2, bsz2 (by omega) (by omega)]
  clear h1
  have h1 := h2
  clear h2
  rcases Nat.lt_or_ge m 4294967296 with h2 | h2
  · rw [bsz4 (by omega) h2, bsz3 (by omega) (by omega)]
  clear h1
  have h1 := h2
  clear h2
  rcases Nat.lt_or_ge m 1099511627776 with h2 | h2
  · rw [bsz5 (by omega) h2, bsz4 (by omega) (by omega)]
  clear h1
  have h1 := h2
  clear h2
  rcases Nat.lt_or_ge m 281474976710656 with h2 | h2
  · rw [bsz6 (by omega) h2, bsz5 (by omega) (by omega)]
  clear h1
  have h1 := h2
  clear h2
  rcases Nat.lt_or_ge m 72057594037927936 with h2 | h2
  · rw [bsz7 (by omega) h2, bsz6 (by omega) (by omega)]
  clear h1
  have h1 := h2
  clear h2
  rw [bsz8 (by omega) h, bsz7 (by omega) (by omega)]
theorem bsz_len : ∀ (m : Nat), m < 18446744073709551616 → (Lib.bitLen m + 7) / 8 = bsz m := by
  intro m
  induction m using Nat.strongRecOn with
  | _ m ih =>
    intro h
    by_cases h0 : m = 0
    · subst h0; rfl
    · by_cases h1 : m < 256
      · have e1 := Lib.bitLen_le8 ⟨m, h1⟩
        have e2 := Lib.bitLen_half m h0 (by omega)
        simp only at e1
        rw [bsz_step m (by omega) h, Nat.div_eq_of_lt h1, bsz_zero]
        omega
      · rw [Lib.bitLen_shift8 m (by omega) h, bsz_step m (by omega) h, ← ih (m / 256) (by omega) (by omega)]
        omega
/-- what a number's bytes say: the number from 0 on -/
def mag (n : Int) : Nat := if n < 0 then (-(n + 1)).toNat else n.toNat
def sgn (n : Int) : Nat := if n < 0 then 128 else 0
/-- a number's bytes -/
def enc (n : Int) : List UInt8 := UInt8.ofNat (sgn n + bsz (mag n)) :: big (mag n) (bsz (mag n))
theorem enc_length (n : Int) : (enc n).length = 1 + bsz (mag n) := by simp [enc, big_length]; omega
theorem enc_le (n : Int) : (enc n).length ≤ 9 := by rw [enc_length]; have := bsz_le (mag n); omega
abbrev u8v (b : UInt8) : Value := .int .u8 ((b.toNat : Nat) : Int)
theorem u8_of (m : Nat) : (((UInt8.ofNat m).toNat : Nat) : Int) = (m : Int) % 256 := by simp [UInt8.toNat_ofNat]
def encs (l : List Int) : List UInt8 := l.flatMap enc
theorem encs_append (l m : List Int) : encs (l ++ m) = encs l ++ encs m := by simp [encs]
theorem encs_le (l : List Int) : (encs l).length ≤ 9 * l.length := by
  induction l with
  | nil => simp [encs]
  | cons n l ih =>
    have := enc_le n
    simp only [encs, List.flatMap_cons, List.length_append, List.length_cons] at *
    omega
/-- a text's bytes -/
def encT (s : ByteArray) : List UInt8 := enc (s.size : Int) ++ bytes s
def encTs (l : List ByteArray) : List UInt8 := l.flatMap encT
theorem wrap_id {n : Int} (h1 : -9223372036854775808 ≤ n) (h2 : n ≤ 9223372036854775807) : IntKind.i64.wrap n = n := by
  unfold IntKind.wrap
  simp only [IntKind.bits, IntKind.signed, Bool.true_and, decide_eq_true_eq, show (2 : Int) ^ (64 - 1) = 9223372036854775808 from rfl, show (2 : Int) ^ 64 = 18446744073709551616 from rfl]
  split <;> omega
theorem w64_id {n : Int} (h1 : -9223372036854775808 ≤ n) (h2 : n ≤ 9223372036854775807) : wrap64 n = n := by
  simp only [wrap64]; omega
end Go.Proofs.Ytjfjecjigakdnaa.Octs
