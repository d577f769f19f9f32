/- reading a frame: plain laws. -/
import Derived.Test.YtgckipebgcmhlaaDoorFrame
set_option linter.unusedSimpArgs false
set_option linter.unusedVariables false
namespace Go.Proofs.YtgckipebgcmhlaaDoor
open Go.Crc hiding step
def at8 (s : ByteArray) (i : Nat) : Nat := ((bytes s).getD i 0).toNat
theorem at8_eq (s : ByteArray) (i : Nat) (h : i < s.size) : s[i].toNat = at8 s i := by
  have h2 : i < (bytes s).length := by simpa [bytes] using h
  unfold at8
  rw [List.getD_eq_getElem?_getD, List.getElem?_eq_getElem h2]
  rfl
theorem at8_lt (s : ByteArray) (i : Nat) : at8 s i < 256 := ((bytes s).getD i 0).toNat_lt
def num (s : ByteArray) (a : Nat) : Nat := 65536 * at8 s a + 256 * at8 s (a + 1) + at8 s (a + 2)
def part (s : ByteArray) (i n : Nat) : List UInt8 := ((bytes s).drop i).take n
theorem part_length (s : ByteArray) (i n : Nat) (h : i + n ≤ s.size) : (part s i n).length = n := by
  unfold part
  rw [List.length_take, List.length_drop, bytes_length]
  omega
theorem bytes_extract (s : ByteArray) (i j : Nat) : bytes (s.extract i j) = part s i (j - i) := by
  unfold bytes part
  rw [ByteArray.data_extract, Array.toList_extract]
  rfl
theorem extract_eq (s : ByteArray) (i j : Nat) : s.extract i j = txt (part s i (j - i)) := by
  rw [← bytes_extract, txt_bytes]
theorem part_rest (s : ByteArray) (a i n : Nat) : part (txt (part s a (s.size - a))) i n = part s (a + i) n := by
  unfold part
  rw [bytes_txt]
  have : (bytes s).drop a = ((bytes s).drop a).take (s.size - a) := (List.take_of_length_le (by rw [List.length_drop, bytes_length]; exact Nat.le_refl _)).symm
  rw [← this, List.drop_drop]
theorem txt_inj {l m : List UInt8} : txt l = txt m ↔ l = m := ⟨fun h => by have := congrArg bytes h; simpa [bytes_txt] using this, fun h => by rw [h]⟩
theorem at8_rest (s : ByteArray) (a i : Nat) : at8 (s.extract a s.size) i = at8 s (a + i) := by
  unfold at8
  rw [bytes_extract]
  unfold part
  have : ((bytes s).drop a).take (s.size - a) = (bytes s).drop a := (List.take_of_length_le (by rw [List.length_drop, bytes_length]; exact Nat.le_refl _))
  rw [this]
  simp [List.getD_eq_getElem?_getD]
/-- what a reading answers: 0 or the error's number -/
def code (s : ByteArray) (a : Nat) : Nat :=
  if s.size - a < 3 then 4 else if 65536 < num s a then 2 else if s.size - a < 7 + num s a then 4
  else if big (sum (part s a (3 + num s a))) 4 = part s (a + 3 + num s a) 4 then 0 else 3
def firstV (s : ByteArray) (a : Nat) : Value :=
  if code s a = 0 then .tuple #[.string (txt (part s (a + 3) (num s a))), .int .i64 ((a + 7 + num s a : Nat) : Int), .int .i64 0]
  else .tuple #[.string (txt []), .int .i64 0, .int .i64 ((code s a : Nat) : Int)]
theorem part_split (s : ByteArray) (a m n : Nat) : part s a (m + n) = part s a m ++ part s (a + m) n := by
  unfold part
  rw [List.take_add, List.drop_drop]
theorem part_three (s : ByteArray) (a : Nat) (h : a + 3 ≤ s.size) : part s a 3 = big (num s a) 3 := by
  have h0 : a < (bytes s).length := by rw [bytes_length]; omega
  have h1 : a + 1 < (bytes s).length := by rw [bytes_length]; omega
  have h2 : a + 2 < (bytes s).length := by rw [bytes_length]; omega
  have e : part s a 3 = [(bytes s)[a], (bytes s)[a + 1], (bytes s)[a + 2]] := by
    unfold part
    rw [List.drop_eq_getElem_cons h0, List.drop_eq_getElem_cons h1, List.drop_eq_getElem_cons h2]
    rfl
  have g0 : at8 s a = (bytes s)[a].toNat := by unfold at8; rw [List.getD_eq_getElem?_getD, List.getElem?_eq_getElem h0]; rfl
  have g1 : at8 s (a + 1) = (bytes s)[a + 1].toNat := by unfold at8; rw [List.getD_eq_getElem?_getD, List.getElem?_eq_getElem h1]; rfl
  have g2 : at8 s (a + 2) = (bytes s)[a + 2].toNat := by unfold at8; rw [List.getD_eq_getElem?_getD, List.getElem?_eq_getElem h2]; rfl
  have b0 := at8_lt s a
  have b1 := at8_lt s (a + 1)
  have b2 := at8_lt s (a + 2)
  have e2 : big (num s a) 3 = [UInt8.ofNat (num s a / 256 / 256), UInt8.ofNat (num s a / 256), UInt8.ofNat (num s a)] := rfl
  have m0 : num s a / 256 / 256 = at8 s a := by unfold num; omega
  have m1 : num s a / 256 % 256 = at8 s (a + 1) := by unfold num; omega
  have m2 : num s a % 256 = at8 s (a + 2) := by unfold num; omega
  have of_mod : ∀ n : Nat, UInt8.ofNat n = UInt8.ofNat (n % 256) := fun n => by
    apply UInt8.toNat_inj.1
    simp
  rw [e, e2, m0, of_mod (num s a / 256), m1, of_mod (num s a), m2, g0, g1, g2]
  simp
/-- the reference's question is the same -/
theorem code_same (s : ByteArray) (a : Nat) (h : a + (7 + num s a) ≤ s.size) :
    framed (part s (a + 3) (num s a)) = part s a (7 + num s a) ↔ big (sum (part s a (3 + num s a))) 4 = part s (a + 3 + num s a) 4 := by
  have hh : headed (part s (a + 3) (num s a)) = part s a (3 + num s a) := by
    unfold headed
    rw [part_length s _ _ (by omega), part_split, part_three s a (by omega)]
  unfold framed
  rw [hh, show 7 + num s a = (3 + num s a) + 4 by omega, part_split s a (3 + num s a) 4, List.append_cancel_left_eq, show a + (3 + num s a) = a + 3 + num s a by omega]
end Go.Proofs.YtgckipebgcmhlaaDoor
