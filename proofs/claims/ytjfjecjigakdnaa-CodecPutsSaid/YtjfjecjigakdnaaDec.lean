/- octet: what was laid is read again: plain laws. -/
import Derived.Test.YtjfjecjigakdnaaReader2
set_option linter.unusedSimpArgs false
set_option linter.unusedVariables false
namespace Go.Proofs.Ytjfjecjigakdnaa.Octs
open Go.RowKit
theorem u8n (m : Nat) : (UInt8.ofNat m).toNat = m % 256 := by simp
theorem num_big : ∀ (k n : Nat), num (big n k) = n % 256 ^ k
  | 0, n => by simp [big, num, Nat.mod_one]
  | k + 1, n => by
    rw [big, num_snoc, num_big k (n / 256), u8n, Nat.pow_succ, Nat.mul_comm (256 ^ k) 256, Nat.mod_mul, Nat.add_comm]
theorem lt_bsz (m : Nat) (h : m < 18446744073709551616) : m < 256 ^ bsz m := by
  unfold bsz
  repeat' split
  all_goals (simp only [Nat.reducePow]; omega)
theorem bsz_ge (m : Nat) (h : 0 < bsz m) : 256 ^ (bsz m - 1) ≤ m := by
  revert h
  unfold bsz
  repeat' split
  all_goals (simp only [Nat.reducePow, Nat.reduceSub]; omega)
theorem mag_lt (n : Int) (h : In64 n) : mag n < 9223372036854775808 := by
  unfold In64 at h
  unfold mag
  split <;> omega
theorem sgn_cases (n : Int) : (n < 0 ∧ sgn n = 128) ∨ (0 ≤ n ∧ sgn n = 0) := by
  unfold sgn
  split <;> omega
theorem num_cons0 (l : List UInt8) (b : UInt8) (h : b.toNat = 0) : num (b :: l) = num l := by
  show List.foldl _ (256 * 0 + b.toNat) l = _
  rw [h]; rfl
/-- what was laid, read -/
theorem dec_enc (n : Int) (h : In64 n) (r : List UInt8) : headOk (txt (enc n ++ r)) ∧ headN (txt (enc n ++ r)) = n ∧ headK (txt (enc n ++ r)) = bsz (mag n) := by
  have hm := mag_lt n h
  have h8 := bsz_le (mag n)
  have hb0 : (bytes (txt (enc n ++ r))).getD 0 0 = UInt8.ofNat (sgn n + bsz (mag n)) := rfl
  have hbv : (UInt8.ofNat (sgn n + bsz (mag n))).toNat = sgn n + bsz (mag n) := by
    rw [u8n]
    rcases sgn_cases n with ⟨_, h1⟩ | ⟨_, h1⟩ <;> rw [h1] <;> omega
  have hK : headK (txt (enc n ++ r)) = bsz (mag n) := by
    unfold headK
    rw [show (txt (enc n ++ r)).data.toList.getD 0 0 = UInt8.ofNat (sgn n + bsz (mag n)) from rfl, hbv]
    rcases sgn_cases n with ⟨_, h1⟩ | ⟨_, h1⟩ <;> rw [h1] <;> omega
  have hdrop : (bytes (txt (enc n ++ r))).drop 1 = big (mag n) (bsz (mag n)) ++ r := rfl
  have htake : (big (mag n) (bsz (mag n)) ++ r).take (bsz (mag n)) = big (mag n) (bsz (mag n)) := by
    rw [List.take_append_of_le_length (by rw [big_length]; exact Nat.le_refl _), List.take_of_length_le (by rw [big_length]; exact Nat.le_refl _)]
  have hnum : num (big (mag n) (bsz (mag n))) = mag n := by
    rw [num_big, Nat.mod_eq_of_lt (lt_bsz _ (by omega))]
  have hD : headD (txt (enc n ++ r)) = mag n := by
    unfold headD
    rw [hK, hdrop, htake, hnum]
  have hsz : (txt (enc n ++ r)).size = 1 + bsz (mag n) + r.length := by rw [txt_size, List.length_append, enc_length]
  refine ⟨⟨by omega, by omega, by omega, ?_, by omega⟩, ?_, hK⟩
  · rw [hK]
    rintro ⟨hpos, hz⟩
    have hg := bsz_ge (mag n) hpos
    have hl := big_length (bsz (mag n)) (mag n)
    have hb1 : (bytes (txt (enc n ++ r))).getD 1 0 = (big (mag n) (bsz (mag n)) ++ r).getD 0 0 := rfl
    rw [hb1] at hz
    generalize bsz (mag n) = k at *
    generalize hB : big (mag n) k = B at *
    cases B with
    | nil => simp at hl; omega
    | cons b t =>
      have h1 : b.toNat = 0 := hz
      rw [num_cons0 t b h1] at hnum
      have h2 := num_lt t
      have h3 : t.length = k - 1 := by simp at hl; omega
      rw [h3] at h2
      omega
  · unfold headN
    rw [hb0, hbv, hD]
    generalize bsz (mag n) = k at h8 ⊢
    unfold mag
    rcases sgn_cases n with ⟨h0, h1⟩ | ⟨h0, h1⟩
    · rw [h1, if_pos (by omega), if_pos h0]; omega
    · rw [h1, if_neg (by omega), if_neg (by omega)]; omega
theorem txt_extract (m : List UInt8) (a b : Nat) : (txt m).extract a b = txt ((m.drop a).take (b - a)) := Lib.extract_eq (txt m) a b
theorem extract_txt (l r : List UInt8) (k z : Nat) (hk : l.length = k) (hz : (txt (l ++ r)).size = z) : (txt (l ++ r)).extract k z = txt r := by
  subst hk hz
  rw [txt_extract, List.drop_left, txt_size, List.length_append, List.take_of_length_le (by omega)]
theorem extract_fore (l r : List UInt8) (k : Nat) (hk : l.length = k) : (txt (l ++ r)).extract 0 k = txt l := by
  subst hk
  rw [txt_extract, List.drop_zero, Nat.sub_zero, List.take_left]
theorem rInt_enc (n : Int) (h : In64 n) (r : List UInt8) : rInt (txt (enc n ++ r)) false = (n, txt r, false) := by
  obtain ⟨h1, h2, h3⟩ := dec_enc n h r
  unfold rInt
  rw [if_neg (by simp), if_pos h1, h2, h3, extract_txt (enc n) r (1 + bsz (mag n)) _ (enc_length n) rfl]
theorem rText_enc (s : ByteArray) (h : s.size ≤ 65536) (r : List UInt8) : rText (txt (encT s ++ r)) false = (s, txt r, false) := by
  have h1 := rInt_enc (s.size : Int) (by unfold In64; omega) (bytes s ++ r)
  rw [← List.append_assoc] at h1
  unfold rText
  unfold encT
  rw [h1]
  simp only
  have hz : (txt (bytes s ++ r)).size = s.size + r.length := by rw [txt_size, List.length_append, bytes_length]
  rw [if_neg (by simp), if_neg (by rw [hz]; omega)]
  rw [show ((s.size : Int)).toNat = s.size from rfl]
  rw [extract_txt (bytes s) r s.size _ (bytes_length s) rfl]
  rw [extract_fore (bytes s) r s.size (bytes_length s), txt_bytes]
/-- no number's bytes begin another's -/
theorem enc_prefix {a b : Int} (ha : In64 a) (hb : In64 b) {u v : List UInt8} (h : enc a ++ u = enc b ++ v) : a = b := by
  have h1 := rInt_enc a ha u
  rw [h, rInt_enc b hb v] at h1
  exact (congrArg Prod.fst h1).symm
theorem encT_prefix {s t : ByteArray} (hs : s.size ≤ 9223372036854775807) (ht : t.size ≤ 9223372036854775807) {u v : List UInt8} (h : encT s ++ u = encT t ++ v) : s = t := by
  unfold encT at h
  rw [List.append_assoc, List.append_assoc] at h
  have h1 := enc_prefix (by unfold In64; omega) (by unfold In64; omega) h
  have h2 : s.size = t.size := by omega
  rw [h2] at h
  have h3 := List.append_cancel_left h
  have h4 : bytes s = bytes t := List.append_inj_left h3 (by rw [bytes_length, bytes_length, h2])
  rw [← txt_bytes s, ← txt_bytes t, h4]
/-- is one text the other's beginning? -/
def beg (s t : ByteArray) : Bool := decide (s.extract 0 (min s.size t.size) = t.extract 0 (min s.size t.size))
theorem beg_iff (l m : List UInt8) : beg (txt l) (txt m) = true ↔ ∃ u v, l ++ u = m ++ v := by
  unfold beg
  rw [decide_eq_true_iff, txt_extract, txt_extract, txt_inj, txt_size, txt_size]
  simp only [List.drop_zero, Nat.sub_zero]
  constructor
  · intro h
    rcases Nat.le_total l.length m.length with hl | hl
    · rw [Nat.min_eq_left hl, List.take_length] at h
      exact ⟨m.drop l.length, [], by have h2 := List.take_append_drop l.length m; rw [← h] at h2; rw [List.append_nil]; exact h2⟩
    · rw [Nat.min_eq_right hl, List.take_length] at h
      exact ⟨[], l.drop m.length, by have h2 := List.take_append_drop m.length l; rw [h] at h2; rw [List.append_nil]; exact h2.symm⟩
  · rintro ⟨u, v, h⟩
    have h1 := congrArg (List.take (min l.length m.length)) h
    rw [List.take_append_of_le_length (Nat.min_le_left _ _), List.take_append_of_le_length (Nat.min_le_right _ _)] at h1
    exact h1
theorem beg_int {a b : Int} (ha : In64 a) (hb : In64 b) : beg (txt (enc a)) (txt (enc b)) = decide (a = b) := by
  rw [Bool.eq_iff_iff, beg_iff, decide_eq_true_iff]
  constructor
  · rintro ⟨u, v, h⟩
    exact enc_prefix ha hb h
  · rintro rfl
    exact ⟨[], [], rfl⟩
theorem beg_text {s t : ByteArray} (hs : s.size ≤ 9223372036854775807) (ht : t.size ≤ 9223372036854775807) : beg (txt (encT s)) (txt (encT t)) = decide (s = t) := by
  rw [Bool.eq_iff_iff, beg_iff, decide_eq_true_iff]
  constructor
  · rintro ⟨u, v, h⟩
    exact encT_prefix hs ht h
  · rintro rfl
    exact ⟨[], [], rfl⟩
end Go.Proofs.Ytjfjecjigakdnaa.Octs
