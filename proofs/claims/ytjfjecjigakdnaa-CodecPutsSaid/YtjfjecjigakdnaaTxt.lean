/- Bytes and texts: plain laws. -/
import Derived.Test.YtjfjecjigakdnaaProg
import Derived.Test.YtjfjecjigakdnaaGrow
import Derived.Lib.Strings
import Derived.Lib.Slices
import Derived.Lib.Small
import Derived.Lib.Walk
import Derived.Lib.Bytealg
set_option linter.unusedSimpArgs false
set_option linter.unusedVariables false
namespace Go.Proofs.Ytjfjecjigakdnaa
open Go.RowKit
def bytes (y : ByteArray) : List UInt8 := y.data.toList
def txt (l : List UInt8) : ByteArray := ⟨l.toArray⟩
theorem bytes_txt (l : List UInt8) : bytes (txt l) = l := rfl
theorem txt_bytes (y : ByteArray) : txt (bytes y) = y := rfl
theorem txt_append (l m : List UInt8) : txt l ++ txt m = txt (l ++ m) := by
  apply ByteArray.ext
  simp [txt]
theorem txt_size (l : List UInt8) : (txt l).size = l.length := by simp [txt, ByteArray.size]
theorem bytes_length (y : ByteArray) : (bytes y).length = y.size := by simp [bytes]
theorem txt_inj {l m : List UInt8} : txt l = txt m ↔ l = m := ⟨fun h => by have := congrArg bytes h; simpa [bytes_txt] using this, fun h => by rw [h]⟩
abbrev u8v (b : UInt8) : Value := .int .u8 ((b.toNat : Nat) : Int)
theorem u8_of (m : Nat) : (((UInt8.ofNat m).toNat : Nat) : Int) = (m : Int) % 256 := by simp [UInt8.toNat_ofNat]
theorem wrap_id {n : Int} (h1 : -9223372036854775808 ≤ n) (h2 : n ≤ 9223372036854775807) : IntKind.i64.wrap n = n := by
  unfold IntKind.wrap
  simp only [IntKind.bits, IntKind.signed, Bool.true_and, decide_eq_true_eq, show (2 : Int) ^ (64 - 1) = 9223372036854775808 from rfl, show (2 : Int) ^ 64 = 18446744073709551616 from rfl]
  split <;> omega
theorem w64_id {n : Int} (h1 : -9223372036854775808 ≤ n) (h2 : n ≤ 9223372036854775807) : wrap64 n = n := by
  simp only [wrap64]; omega
theorem byte_get (s : ByteArray) (i : Nat) (h : i < s.size) : (bytes s).getD i 0 = s[i] := by
  have h2 : i < s.data.size := h
  unfold bytes
  rw [List.getD_eq_getElem?_getD, Array.getElem?_toList, Array.getElem?_eq_getElem h2]
  rfl
theorem bytes_take (s : ByteArray) (k : Nat) (h : k < s.size) : (bytes s).take (k + 1) = (bytes s).take k ++ [s[k]] := by
  unfold bytes
  rw [List.take_succ_eq_append_getElem (by simpa using h)]
  rfl
theorem bytes_end (s : ByteArray) : (bytes s).take s.size = bytes s := List.take_of_length_le (by rw [bytes_length]; exact Nat.le_refl _)
theorem extract_txt (s : ByteArray) (a b : Nat) : s.extract a b = txt (((bytes s).take b).drop a) := by
  apply ByteArray.ext
  apply Array.toList_inj.1
  simp [txt, bytes, ByteArray.data_extract, List.drop_take]
theorem size_zero (s : ByteArray) : s.size = 0 ↔ s = ⟨#[]⟩ := by
  constructor
  · intro h
    rw [← txt_bytes s]
    have : bytes s = [] := List.eq_nil_of_length_eq_zero (by rw [bytes_length]; exact h)
    rw [this]; rfl
  · rintro rfl; rfl
theorem eq_bytes (s t : ByteArray) : (s.toList == t.toList) = decide (s = t) := by
  rw [Bool.eq_iff_iff, beq_iff_eq, decide_eq_true_iff, ByteArray.toList_eq, ByteArray.toList_eq]
  exact ⟨fun h => by rw [← txt_bytes s, ← txt_bytes t]; unfold bytes; rw [h], fun h => by rw [h]⟩
end Go.Proofs.Ytjfjecjigakdnaa
