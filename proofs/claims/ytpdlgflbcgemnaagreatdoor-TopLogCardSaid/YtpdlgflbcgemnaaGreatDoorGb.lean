/- Plain laws and walks: Oct, Lay, Lays, RefLay. -/
import Derived.Test.YtpdlgflbcgemnaaGreatDoorProg
import Derived.Test.YtpdlgflbcgemnaaGreatDoorGa
import Derived.Lib.Strings
import Derived.Lib.Slices
import Derived.Lib.Small
import Derived.Lib.Walk
import Derived.Lib.BitFns
import Derived.Test.YtpdlgflbcgemnaaGreatDoorLen
import Derived.Laws.IdiomStrings
import Derived.Lib.Zigzag
import Derived.Deep.RegionHeld3
import Derived.Deep.RegionLaw
import Derived.Deep.DeepCutAuto
import Derived.Lib.AppendStr
-- Oct
/- octet: numbers' bytes: plain laws. -/
set_option linter.unusedSimpArgs false
set_option linter.unusedVariables false
set_option maxRecDepth 100000
namespace Go.Proofs.YtpdlgflbcgemnaaGreatDoor.Octs
open Go.RowKit
def bytes (y : ByteArray) : List UInt8 := y.data.toList
def txt (l : List UInt8) : ByteArray := ⟨l.toArray⟩
theorem bytes_txt (l : List UInt8) : bytes (txt l) = l := rfl
theorem txt_bytes (y : ByteArray) : txt (bytes y) = y := rfl
theorem txt_append (l m : List UInt8) : txt l ++ txt m = txt (l ++ m) := by
  apply ByteArray.ext
  simp [txt]
theorem txt_size (l : List UInt8) : (txt l).size = l.length := by simp [txt, ByteArray.size]
theorem bytes_length (y : ByteArray) : (bytes y).length = y.size := by simp [bytes]
theorem txt_inj {l m : List UInt8} : txt l = txt m ↔ l = m := ⟨fun h => by have := congrArg bytes h; simpa [bytes_txt] using this, fun h => by rw [h]⟩
/-- k bytes, the highest one first -/
def big : Nat → Nat → List UInt8
  | _, 0 => []
  | n, k + 1 => big (n / 256) k ++ [UInt8.ofNat n]
theorem big_length : ∀ (k n : Nat), (big n k).length = k
  | 0, _ => rfl
  | k + 1, n => by simp [big, big_length k]
/-- in how many bytes a number can be written -/
def bsz (m : Nat) : Nat :=
  if m < 1 then 0 else if m < 256 then 1 else if m < 65536 then 2 else if m < 16777216 then 3 else if m < 4294967296 then 4
  else if m < 1099511627776 then 5 else if m < 281474976710656 then 6 else if m < 72057594037927936 then 7 else 8
theorem bsz_le (m : Nat) : bsz m ≤ 8 := by
  unfold bsz
  repeat' split
  all_goals omega
theorem bsz_zero : bsz 0 = 0 := rfl
theorem bsz1 {m : Nat} (h1 : 1 ≤ m) (h2 : m < 256) : bsz m = 1 := by
  unfold bsz
  rw [if_neg (by omega), if_pos (by omega)]
theorem bsz2 {m : Nat} (h1 : 256 ≤ m) (h2 : m < 65536) : bsz m = 2 := by
  unfold bsz
  rw [if_neg (by omega), if_neg (by omega), if_pos (by omega)]
theorem bsz3 {m : Nat} (h1 : 65536 ≤ m) (h2 : m < 16777216) : bsz m = 3 := by
  unfold bsz
  rw [if_neg (by omega), if_neg (by omega), if_neg (by omega), if_pos (by omega)]
theorem bsz4 {m : Nat} (h1 : 16777216 ≤ m) (h2 : m < 4294967296) : bsz m = 4 := by
  unfold bsz
  rw [if_neg (by omega), if_neg (by omega), if_neg (by omega), if_neg (by omega), if_pos (by omega)]
theorem bsz5 {m : Nat} (h1 : 4294967296 ≤ m) (h2 : m < 1099511627776) : bsz m = 5 := by
  unfold bsz
  rw [if_neg (by omega), if_neg (by omega), if_neg (by omega), if_neg (by omega), if_neg (by omega), if_pos (by omega)]
theorem bsz6 {m : Nat} (h1 : 1099511627776 ≤ m) (h2 : m < 281474976710656) : bsz m = 6 := by
  unfold bsz
  rw [if_neg (by omega), if_neg (by omega), if_neg (by omega), if_neg (by omega), if_neg (by omega), if_neg (by omega), if_pos (by omega)]
theorem bsz7 {m : Nat} (h1 : 281474976710656 ≤ m) (h2 : m < 72057594037927936) : bsz m = 7 := by
  unfold bsz
  rw [if_neg (by omega), if_neg (by omega), if_neg (by omega), if_neg (by omega), if_neg (by omega), if_neg (by omega), if_neg (by omega), if_pos (by omega)]
theorem bsz8 {m : Nat} (h1 : 72057594037927936 ≤ m) (h2 : m < 18446744073709551616) : bsz m = 8 := by
  unfold bsz
  rw [if_neg (by omega), if_neg (by omega), if_neg (by omega), if_neg (by omega), if_neg (by omega), if_neg (by omega), if_neg (by omega), if_neg (by omega)]
theorem bsz_step (m : Nat) (h0 : 0 < m) (h : m < 18446744073709551616) : bsz m = bsz (m / 256) + 1 := by
  rcases Nat.lt_or_ge m 256 with h1 | h1
  · rw [bsz1 (by omega) h1, Nat.div_eq_of_lt h1, bsz_zero]
  rcases Nat.lt_or_ge m 65536 with h2 | h2
  · rw [bsz2 (by omega) h2, bsz1 (by omega) (by omega)]
  clear h1
  have h1 := h2
  clear h2
  rcases Nat.lt_or_ge m 16777216 with h2 | h2
  · rw [bsz3 (by omega) h2, bsz2 (by omega) (by omega)]
  clear h1
  have h1 := h2
  clear h2
  rcases Nat.lt_or_ge m 4294967296 with h2 | h2
  · rw [bsz4 (by omega) h2, bsz3 (by omega) (by omega)]
  clear h1
  have h1 := h2
  clear h2
  rcases Nat.lt_or_ge m 1099511627776 with h2 | h2
  · rw [bsz5 (by omega) h2, bsz4 (by omega) (by omega)]
  clear h1
  have h1 := h2
  clear h2
  rcases Nat.lt_or_ge m 281474976710656 with h2 | h2
  · rw [bsz6 (by omega) h2, bsz5 (by omega) (by omega)]
  clear h1
  have h1 := h2
  clear h2
  rcases Nat.lt_or_ge m 72057594037927936 with h2 | h2
  · rw [bsz7 (by omega) h2, bsz6 (by omega) (by omega)]
  clear h1
  have h1 := h2
  clear h2
  rw [bsz8 (by omega) h, bsz7 (by omega) (by omega)]
theorem bsz_len : ∀ (m : Nat), m < 18446744073709551616 → (Lib.bitLen m + 7) / 8 = bsz m := by
  intro m
  induction m using Nat.strongRecOn with
  | _ m ih =>
    intro h
    by_cases h0 : m = 0
    · subst h0; rfl
    · by_cases h1 : m < 256
      · have e1 := Lib.bitLen_le8 ⟨m, h1⟩
        have e2 := Lib.bitLen_half m h0 (by omega)
        simp only at e1
        rw [bsz_step m (by omega) h, Nat.div_eq_of_lt h1, bsz_zero]
        omega
      · rw [Lib.bitLen_shift8 m (by omega) h, bsz_step m (by omega) h, ← ih (m / 256) (by omega) (by omega)]
        omega
/-- what a number's bytes say: the number from 0 on -/
def mag (n : Int) : Nat := if n < 0 then (-(n + 1)).toNat else n.toNat
def sgn (n : Int) : Nat := if n < 0 then 128 else 0
/-- a number's bytes -/
def enc (n : Int) : List UInt8 := UInt8.ofNat (sgn n + bsz (mag n)) :: big (mag n) (bsz (mag n))
theorem enc_length (n : Int) : (enc n).length = 1 + bsz (mag n) := by simp [enc, big_length]; omega
theorem enc_le (n : Int) : (enc n).length ≤ 9 := by rw [enc_length]; have := bsz_le (mag n); omega
abbrev u8v (b : UInt8) : Value := .int .u8 ((b.toNat : Nat) : Int)
theorem u8_of (m : Nat) : (((UInt8.ofNat m).toNat : Nat) : Int) = (m : Int) % 256 := by simp [UInt8.toNat_ofNat]
def encs (l : List Int) : List UInt8 := l.flatMap enc
theorem encs_append (l m : List Int) : encs (l ++ m) = encs l ++ encs m := by simp [encs]
theorem encs_le (l : List Int) : (encs l).length ≤ 9 * l.length := by
  induction l with
  | nil => simp [encs]
  | cons n l ih =>
    have := enc_le n
    simp only [encs, List.flatMap_cons, List.length_append, List.length_cons] at *
    omega
/-- a text's bytes -/
def encT (s : ByteArray) : List UInt8 := enc (s.size : Int) ++ bytes s
def encTs (l : List ByteArray) : List UInt8 := l.flatMap encT
theorem wrap_id {n : Int} (h1 : -9223372036854775808 ≤ n) (h2 : n ≤ 9223372036854775807) : IntKind.i64.wrap n = n := by
  unfold IntKind.wrap
  simp only [IntKind.bits, IntKind.signed, Bool.true_and, decide_eq_true_eq, show (2 : Int) ^ (64 - 1) = 9223372036854775808 from rfl, show (2 : Int) ^ 64 = 18446744073709551616 from rfl]
  split <;> omega
theorem w64_id {n : Int} (h1 : -9223372036854775808 ≤ n) (h2 : n ≤ 9223372036854775807) : wrap64 n = n := by
  simp only [wrap64]; omega
end Go.Proofs.YtpdlgflbcgemnaaGreatDoor.Octs
-- Lay
/- octet.lay, Int, Text: walks. -/
set_option linter.unusedSimpArgs false
set_option linter.unusedVariables false
namespace Go.Proofs.YtpdlgflbcgemnaaGreatDoor.Octs
open Go.RowKit
theorem infoU8 : (Tryz.prog.info? 5).map (fun i => (i.zero, i.size, i.bytes)) = some (some (.int .u8 0), 1, 1) := by kernel_rfl
theorem underU8s : Tryz.prog.underlying 99 = some (.slice 5) := by kernel_rfl
theorem one_new {w : World} {g : Nat} {u : Value} (h : w.cell? ⟨g, 0, none⟩ = some u) : ∀ j v, [u][j]? = some v → w.cell? ((⟨g, 0, none⟩ : Addr).add j) = some v := by
  intro j v hj
  match j, hj with
  | 0, hj => simp at hj; subst hj; simpa [Addr.add] using h
theorem big_next (m k s : Nat) (h : k < s) : big (m / 256 ^ k) (s - k) = big (m / 256 ^ (k + 1)) (s - (k + 1)) ++ [UInt8.ofNat (m / 256 ^ k)] := by
  obtain ⟨d, hd⟩ : ∃ d, s - k = d + 1 := ⟨s - k - 1, by omega⟩
  rw [hd, show s - (k + 1) = d by omega]
  show big (m / 256 ^ k / 256) d ++ _ = _
  rw [Nat.div_div_eq_div_mul, ← Nat.pow_succ]
theorem pow_shift (k : Nat) : (2 : Int) ^ (8 * (k : Int)).toNat = ((256 ^ k : Nat) : Int) := by
  have : (8 * (k : Int)).toNat = 8 * k := by omega
  rw [this, Int.pow_mul]
  simp
theorem not_neg (m : Nat) (hm : m < 9223372036854775808) : bits .xor .i64 (-1) (-(m : Int) - 1) = (m : Int) := by
  show IntKind.i64.wrap ((BitVec.ofInt 64 (-1) ^^^ BitVec.ofInt 64 (-(m : Int) - 1)).toNat : Int) = _
  have h1 : (BitVec.ofInt 64 (-1)).toNat = 2 ^ 64 - 1 := by decide
  have h2 : (BitVec.ofInt 64 (-(m : Int) - 1)).toNat = 18446744073709551615 - m := by
    rw [BitVec.toNat_ofInt]
    simp only [show ((2 ^ 64 : Nat) : Int) = 18446744073709551616 from rfl]
    omega
  rw [BitVec.toNat_xor, h1, h2, Lib.xor_ones64 _ (by omega), IntKind.wrap_i64]
  omega
theorem not_pos (m : Nat) (hm : m < 9223372036854775808) : bits .xor .i64 (-1) (m : Int) = -(m : Int) - 1 := Lib.i64_not m hm
set_option maxHeartbeats 1000000 in
set_option maxRecDepth 100000 in
theorem lay_any (W0 w : World) (l : List UInt8) (v : Value) (n : Int) (hl : l.length ≤ 1000000000) (hp : W0.Plus w) (hown : w.ownsRow W0.heap.size 5 1 v l.length (l.map u8v)) (hn : -9223372036854775808 ≤ n ∧ n ≤ 9223372036854775807) :
    Calls Tryz.prog 67 #[v, .int .i64 n] w fun e w' => ∃ v', e = .returned v' ∧ w'.ownsRow W0.heap.size 5 1 v' (l ++ enc n).length ((l ++ enc n).map u8v) ∧ W0.Plus w' := by
  obtain ⟨i0, hi0, hz0, hz1, hz2⟩ := info_parts infoU8
  have hm : mag n < 9223372036854775808 := by unfold mag; split <;> omega
  have hL := bsz_len (mag n) (by omega)
  have hs8 := bsz_le (mag n)
  have henc : enc n = UInt8.ofNat (sgn n + bsz (mag n)) :: big (mag n) (bsz (mag n)) := rfl
  by_cases h0 : n < 0
  · have hsg : sgn n = 128 := if_pos h0
    have hmg : ((mag n : Nat) : Int) = -n - 1 := by unfold mag; rw [if_pos h0]; omega
    rw [hsg] at henc
    generalize enc n = E at *
    generalize mag n = m at *
    obtain rfl : n = -(m : Int) - 1 := by omega
    clear hmg h0 hn
    have hnot := not_neg m hm
    have hn0 : -(m : Int) - 1 < 0 := by omega
    obtain ⟨z, hz⟩ : ∃ z, z = bsz m := ⟨_, rfl⟩
    rw [← hz] at hL hs8 henc
    have hLi : ((Lib.bitLen m : Nat) + 7 : Int) / 8 = z := by omega
    have hLb : Lib.bitLen m ≤ 64 := by omega
    have hLen : ∀ (x : Int) (w : World), x = m → Calls Tryz.prog 104 #[.int .u64 x] w fun e w' => e = .returned (.int .i64 (Lib.bitLen m)) ∧ w' = w := fun x w hx => by
      subst hx
      exact bits_Len64 m w (by omega) (by omega)
    generalize Lib.bitLen m = Lb at *
    have hmod : (128 + (z : Int)) % 256 = 128 + (z : Int) := by omega
    have hu : IntKind.u64.wrap (m : Int) = m := by rw [IntKind.wrap_u64]; omega
    replace hLen := Lib.hid hLen
    replace henc := Lib.hid henc
    replace hsg := Lib.hid hsg
    replace hz := Lib.hid hz
    clear hL
    go_enter Tryz.func67, Tryz.ntmps67
    go_wp2_with (first | (go_at_call 104; (with_reducible refine (hLen.out _ _ (by omega)).mono ?_); rintro e w' ⟨rfl, rfl⟩) | (at_builtin; refine wpList_append_own _ rfl _ _ 99 rfl W0.heap.size 5 i0 (.int .u8 0) 1 1 underU8s hi0 hz0 hz1 hz2 rfl (by decide) _ _ _ rfl (hown.alloc _) _ 1 1 [.int .u8 (128 + (z : Int))] rfl rfl (one_new (by simp [go_sem])) (by intro u hu; simp at hu; subst hu; rfl) (by unfold maxLen; omega) (by omega) (by have := (Plus.below hp).size; simp [go_sem]; omega) ?_; intro v1 w1 hown1 hgrow1 _))
    have hp1 := World.grownBy.toPlus (Plus.alloc hp _) hgrow1 (fun g hg => (hown.lt g hg).1)
    have hown2 : w1.ownsRow W0.heap.size 5 1 v1 (l ++ [UInt8.ofNat (128 + z)]).length ((l ++ [UInt8.ofNat (128 + z)]).map u8v) := by
      simpa [u8v, hmod] using hown1
    clear hown1 hgrow1 hown
    go_loopw [0, 7] (fun v i wr => ∃ k : Nat, k ≤ z ∧ i = .int .i64 ((k : Int) - 1) ∧ wr.ownsRow W0.heap.size 5 1 v (l ++ UInt8.ofNat (128 + z) :: big (m / 256 ^ k) (z - k)).length ((l ++ UInt8.ofNat (128 + z) :: big (m / 256 ^ k) (z - k)).map u8v) ∧ W0.Plus wr) (fun _ i _ => (intOf i + 1).toNat)
    case atStart => exact ⟨z, Nat.le_refl _, by simp, by simpa [big] using hown2, hp1⟩
    case round =>
      obtain ⟨k, hk, rfl, hown, hp⟩ := hrel
      clear hown2 hp1
      cases k with
      | zero =>
        have hE : E = UInt8.ofNat (128 + z) :: big (m / 256 ^ 0) (z - 0) := by rw [henc.out]; simp
        replace hE := Lib.hid hE
        go_wp2_with fail
        go_ret
        exact ⟨_, rfl, by rw [hE.out]; exact hown, hp⟩
      | succ k =>
        have hnx := big_next m k z hk
        have hsh : (m : Int) / 2 ^ (8 * (k : Int)).toNat = ((m / 256 ^ k : Nat) : Int) := by rw [pow_shift]; simp
        have hle : m / 256 ^ k ≤ m := Nat.div_le_self _ _
        generalize hy : m / 256 ^ k = y at *
        replace hy := Lib.hid hy
        have hb : (((UInt8.ofNat y).toNat : Nat) : Int) = (y : Int) % 256 := u8_of y
        have hbl := big_length (z - (k + 1)) (m / 256 ^ (k + 1))
        generalize hB : big (m / 256 ^ (k + 1)) (z - (k + 1)) = B at *
        replace hB := Lib.hid hB
        replace hb := Lib.hid hb
        replace hnx := Lib.hid hnx
        have hk1 : (((k + 1 : Nat) : Int) - 1) = k := by omega
        have hwy : IntKind.u8.wrap (y : Int) = (y : Int) % 256 := by rw [IntKind.wrap_u8]
        go_wp2_with (first | (at_builtin; refine wpList_append_own _ rfl _ _ 99 rfl W0.heap.size 5 i0 (.int .u8 0) 1 1 underU8s hi0 hz0 hz1 hz2 rfl (by decide) _ _ _ rfl (hown.alloc _) _ 1 1 [.int .u8 ((y : Int) % 256)] rfl rfl (one_new (by simp [go_sem])) (by intro u hu; simp at hu; subst hu; rfl) (by unfold maxLen; simp; omega) (by simp; omega) (by have := (Plus.below hp).size; simp [go_sem]; omega) ?_; intro v1 w1 hown1 hgrow1 _))
        refine ⟨⟨k, by omega, by simp, by rw [hy.out, hnx.out]; simpa [u8v, hb.out, Nat.add_assoc] using hown1, World.grownBy.toPlus (Plus.alloc hp _) hgrow1 (fun g hg => (hown.lt g hg).1)⟩, ?_⟩
        first | (simp [intOf]; done) | (simp [intOf]; omega)
  · have hsg : sgn n = 0 := if_neg h0
    have hmg : ((mag n : Nat) : Int) = n := by unfold mag; rw [if_neg h0]; omega
    rw [hsg] at henc
    generalize enc n = E at *
    generalize mag n = m at *
    obtain rfl : n = (m : Int) := by omega
    clear hmg h0 hn
    obtain ⟨z, hz⟩ : ∃ z, z = bsz m := ⟨_, rfl⟩
    rw [← hz] at hL hs8 henc
    have hLi : ((Lib.bitLen m : Nat) + 7 : Int) / 8 = z := by omega
    have hLb : Lib.bitLen m ≤ 64 := by omega
    have hLen : ∀ (x : Int) (w : World), x = m → Calls Tryz.prog 104 #[.int .u64 x] w fun e w' => e = .returned (.int .i64 (Lib.bitLen m)) ∧ w' = w := fun x w hx => by
      subst hx
      exact bits_Len64 m w (by omega) (by omega)
    generalize Lib.bitLen m = Lb at *
    have hmod : (z : Int) % 256 = (z : Int) := by omega
    have hu : IntKind.u64.wrap (m : Int) = m := by rw [IntKind.wrap_u64]; omega
    replace hLen := Lib.hid hLen
    replace henc := Lib.hid henc
    replace hsg := Lib.hid hsg
    replace hz := Lib.hid hz
    clear hL
    go_enter Tryz.func67, Tryz.ntmps67
    go_wp2_with (first | (go_at_call 104; (with_reducible refine (hLen.out _ _ (by omega)).mono ?_); rintro e w' ⟨rfl, rfl⟩) | (at_builtin; refine wpList_append_own _ rfl _ _ 99 rfl W0.heap.size 5 i0 (.int .u8 0) 1 1 underU8s hi0 hz0 hz1 hz2 rfl (by decide) _ _ _ rfl (hown.alloc _) _ 1 1 [.int .u8 ((z : Int))] rfl rfl (one_new (by simp [go_sem])) (by intro u hu; simp at hu; subst hu; rfl) (by unfold maxLen; omega) (by omega) (by have := (Plus.below hp).size; simp [go_sem]; omega) ?_; intro v1 w1 hown1 hgrow1 _))
    have hp1 := World.grownBy.toPlus (Plus.alloc hp _) hgrow1 (fun g hg => (hown.lt g hg).1)
    have hown2 : w1.ownsRow W0.heap.size 5 1 v1 (l ++ [UInt8.ofNat (0 + z)]).length ((l ++ [UInt8.ofNat (0 + z)]).map u8v) := by
      simpa [u8v, hmod] using hown1
    clear hown1 hgrow1 hown
    go_loopw [0, 7] (fun v i wr => ∃ k : Nat, k ≤ z ∧ i = .int .i64 ((k : Int) - 1) ∧ wr.ownsRow W0.heap.size 5 1 v (l ++ UInt8.ofNat (0 + z) :: big (m / 256 ^ k) (z - k)).length ((l ++ UInt8.ofNat (0 + z) :: big (m / 256 ^ k) (z - k)).map u8v) ∧ W0.Plus wr) (fun _ i _ => (intOf i + 1).toNat)
    case atStart => exact ⟨z, Nat.le_refl _, by simp, by simpa [big] using hown2, hp1⟩
    case round =>
      obtain ⟨k, hk, rfl, hown, hp⟩ := hrel
      clear hown2 hp1
      cases k with
      | zero =>
        have hE : E = UInt8.ofNat (0 + z) :: big (m / 256 ^ 0) (z - 0) := by rw [henc.out]; simp
        replace hE := Lib.hid hE
        go_wp2_with fail
        go_ret
        exact ⟨_, rfl, by rw [hE.out]; exact hown, hp⟩
      | succ k =>
        have hnx := big_next m k z hk
        have hsh : (m : Int) / 2 ^ (8 * (k : Int)).toNat = ((m / 256 ^ k : Nat) : Int) := by rw [pow_shift]; simp
        have hle : m / 256 ^ k ≤ m := Nat.div_le_self _ _
        generalize hy : m / 256 ^ k = y at *
        replace hy := Lib.hid hy
        have hb : (((UInt8.ofNat y).toNat : Nat) : Int) = (y : Int) % 256 := u8_of y
        have hbl := big_length (z - (k + 1)) (m / 256 ^ (k + 1))
        generalize hB : big (m / 256 ^ (k + 1)) (z - (k + 1)) = B at *
        replace hB := Lib.hid hB
        replace hb := Lib.hid hb
        replace hnx := Lib.hid hnx
        have hk1 : (((k + 1 : Nat) : Int) - 1) = k := by omega
        have hwy : IntKind.u8.wrap (y : Int) = (y : Int) % 256 := by rw [IntKind.wrap_u8]
        go_wp2_with (first | (at_builtin; refine wpList_append_own _ rfl _ _ 99 rfl W0.heap.size 5 i0 (.int .u8 0) 1 1 underU8s hi0 hz0 hz1 hz2 rfl (by decide) _ _ _ rfl (hown.alloc _) _ 1 1 [.int .u8 ((y : Int) % 256)] rfl rfl (one_new (by simp [go_sem])) (by intro u hu; simp at hu; subst hu; rfl) (by unfold maxLen; simp; omega) (by simp; omega) (by have := (Plus.below hp).size; simp [go_sem]; omega) ?_; intro v1 w1 hown1 hgrow1 _))
        refine ⟨⟨k, by omega, by simp, by rw [hy.out, hnx.out]; simpa [u8v, hb.out, Nat.add_assoc] using hown1, World.grownBy.toPlus (Plus.alloc hp _) hgrow1 (fun g hg => (hown.lt g hg).1)⟩, ?_⟩
        first | (simp [intOf]; done) | (simp [intOf]; omega)
theorem conv_all (l : List UInt8) (w : World) (base : Nat) (v : Value) (hown : w.ownsRow base 5 1 v l.length (l.map u8v)) :
    (convert 99 9 v).run Tryz.prog w = .ok (.string (txt l)) w := by
  have hcells : ∀ g, v.ownBlock = some g → ∀ j u, (l.map u8v)[j]? = some u → w.cell? ((⟨g, 0, none⟩ : Addr).add j) = some u := fun g hg => hown.cells hg
  rcases hown with ⟨hl, ⟨rfl, h0⟩ | ⟨g, cap, cur, rfl, hb, hc, hr⟩⟩
  · have hl0 : l = [] := by simpa using h0
    subst hl0
    rw [run_convert_bytes_string (P := Tryz.prog) w 99 9 5 none 0 0 (by kernel_rfl) (by kernel_rfl) (by kernel_rfl)]
    first | rfl | (simp [go_sem]; done) | (simp [go_sem, loadCells]; rfl)
  · exact run_convert_bytes_back (P := Tryz.prog) w 99 9 5 ⟨g, 0, none⟩ cap l (by kernel_rfl) (by kernel_rfl) (by kernel_rfl)
      (fun j hj => hcells g rfl j _ (by simp [hj]))
end Go.Proofs.YtpdlgflbcgemnaaGreatDoor.Octs
-- Lays
/- octet.Int, octet.Text: walks. -/
set_option linter.unusedSimpArgs false
set_option linter.unusedVariables false
namespace Go.Proofs.YtpdlgflbcgemnaaGreatDoor.Octs
open Go.RowKit
abbrev intAt (xs : List Int) : Nat → Nat → Value := fun i _ => .int .i64 (xs.getD i 0)
abbrev strAt (xs : List ByteArray) : Nat → Nat → Value := fun i _ => .string (xs.getD i ByteArray.empty)
def In64 (n : Int) : Prop := -9223372036854775808 ≤ n ∧ n ≤ 9223372036854775807
theorem take_getD {α : Type} (d : α) (xs : List α) (k : Nat) (h : k < xs.length) : xs.take (k + 1) = xs.take k ++ [xs.getD k d] := by
  rw [List.take_succ_eq_append_getElem h]
  simp [List.getD, h]
theorem getD_in {xs : List Int} (h : ∀ n ∈ xs, In64 n) (k : Nat) : In64 (xs.getD k 0) := by
  rw [List.getD_eq_getElem?_getD]
  cases hk : xs[k]? with
  | none => simp [In64]
  | some y => exact h y (List.mem_of_getElem? hk)
set_option maxHeartbeats 1000000 in
theorem int_any (xs : List Int) (A : Option Addr) (c : Nat) (w : World) (hn : xs.length ≤ 1000) (hb : ∀ n ∈ xs, In64 n) (hr : RowsAt w A 1 xs.length (intAt xs)) :
    Calls Tryz.prog 28 #[.slice A xs.length c] w fun e w' => e = .returned (.string (txt (encs xs))) ∧ w.Plus w' := by
  have hb' := Lib.hid (getD_in hb)
  clear hb
  go_enter Tryz.func28, Tryz.ntmps28
  go_wp2_with fail
  go_loopw [3, 8] (fun v i wr => ∃ k : Nat, k ≤ xs.length ∧ i = .int .i64 k ∧ wr.ownsRow w.heap.size 5 1 v (encs (xs.take k)).length ((encs (xs.take k)).map u8v) ∧ w.Plus wr) (fun _ i _ => xs.length - (intOf i).toNat)
  case atStart => exact ⟨0, Nat.zero_le _, rfl, World.ownsRow_nil _ _ _ _, by (repeat (first | exact Plus.refl _ | apply Plus.plus | apply Plus.alloc | apply Plus.drew))⟩
  case round =>
    obtain ⟨k, hk, rfl, hown, hp⟩ := hrel
    by_cases hlt : k < xs.length
    · obtain ⟨b1, o1, rfl, hb1, hc1⟩ := (hr.plus hp) (by omega)
      haveI : InW b1 wr := ⟨hb1⟩
      have c1 := hc1 k 0 hlt (by omega)
      clear hc1
      unfold intAt at c1
      simp only [Nat.add_zero, Nat.mul_one] at c1
      have hin := hb'.out k
      have htk := take_getD 0 xs k hlt
      have hle := encs_le (xs.take k)
      rw [List.length_take] at hle
      generalize xs.getD k 0 = y at c1 hin htk
      have hL := lay_any w wr (encs (xs.take k)) u3 y (by omega) hp hown hin
      have hen : encs (xs.take (k + 1)) = encs (xs.take k) ++ enc y := by rw [htk, encs_append]; simp [encs]
      replace hL := Lib.hid hL
      replace hen := Lib.hid hen
      clear htk hle
      go_wp2_with (first | (go_at_call 67; (with_reducible refine hL.out.mono ?_); rintro e w' ⟨v1, rfl, hown1, hp1⟩))
      refine ⟨⟨k + 1, hlt, by simp, by rw [hen.out]; exact hown1, hp1⟩, ?_⟩
      simp [intOf]; omega
    · have hke : k = xs.length := by omega
      subst hke
      rw [List.take_length] at hown
      have hconv := conv_all _ _ _ _ hown
      go_wp2_with fail
      go_ret
      exact ⟨rfl, hp⟩
theorem int_none (w : World) : Calls Tryz.prog 28 #[.slice none 0 0] w fun e w' => e = .returned (.string (txt [])) ∧ w.Plus w' :=
  int_any [] none 0 w (by simp) (by simp) (RowsAt.zero _ _ _ _)
theorem strCells_eq (s : ByteArray) : Lib.strCells s = (bytes s).map u8v := rfl
theorem encTs_append (l m : List ByteArray) : encTs (l ++ m) = encTs l ++ encTs m := by simp [encTs]
theorem encT_length (s : ByteArray) : (encT s).length ≤ 9 + s.size := by
  have := enc_le (s.size : Int)
  simp only [encT, List.length_append, bytes_length]
  omega
theorem encTs_le (l : List ByteArray) (h : ∀ s ∈ l, s.size ≤ 200000) : (encTs l).length ≤ 200009 * l.length := by
  induction l with
  | nil => simp [encTs]
  | cons s l ih =>
    have h1 := encT_length s
    have h2 := h s (by simp)
    have h3 := ih (fun t ht => h t (by simp [ht]))
    simp only [encTs, List.flatMap_cons, List.length_append, List.length_cons] at *
    omega
end Go.Proofs.YtpdlgflbcgemnaaGreatDoor.Octs
-- RefLay
/- the reference's Int, Ints, Text: walks. -/
set_option linter.unusedSimpArgs false
set_option linter.unusedVariables false
namespace Go.Proofs.YtpdlgflbcgemnaaGreatDoor.Octs
open Go.RowKit
theorem conv_one (n : Nat) (m : Nat) (w : World) (h : w.cell? ⟨m, 0, none⟩ = some (.int .u8 ((n : Int) % 256))) :
    (convert 99 9 (.slice (some ⟨m, 0, none⟩) 1 1)).run Tryz.prog w = .ok (.string (txt [UInt8.ofNat n])) w :=
  run_convert_bytes_back (P := Tryz.prog) w 99 9 5 ⟨m, 0, none⟩ 1 [UInt8.ofNat n] (by kernel_rfl) (by kernel_rfl) (by kernel_rfl)
    (fun j hj => by
      have : j = 0 := by simpa using hj
      subst this
      simpa [u8_of, Addr.add] using h)
end Go.Proofs.YtpdlgflbcgemnaaGreatDoor.Octs
