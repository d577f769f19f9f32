/- Plain laws and walks: Crc, Sum, SumR, Head, Frame, Read, First, All, Back. -/
import Derived.Below
import Derived.Test.YtpdlgflbcgemnaaGreatDoorProg
import Derived.Test.YtpdlgflbcgemnaaGreatDoorGa
import Derived.Laws.BitsAllLaws
import Derived.Laws.BitsLemmas
import Derived.Outline
import Derived.Laws.IdiomStrings
import Derived.Deep.RegionHeld3
import Derived.Deep.RegionLaw
import Derived.Deep.DeepCutAuto
-- Crc
/- The sum of bytes by half bytes and by bits: plain laws, no program in sight. -/
set_option linter.unusedSimpArgs false
set_option linter.unusedVariables false
namespace Go.Crc
def table : List Nat := [0, 498536548, 997073096, 651767980, 1994146192, 1802195444, 1303535960, 1342533948, 3988292384, 4027552580, 3604390888, 3412177804, 2607071920, 2262029012, 2685067896, 3183342108]
def nib (n : Nat) : Nat := table.getD n 0
def half (c : Nat) : Nat := (c / 16) ^^^ nib (c % 16)
def step (c b : Nat) : Nat := half (half (c ^^^ b))
def run (c : Nat) (l : List UInt8) : Nat := l.foldl (fun c b => step c b.toNat) c
def sum (l : List UInt8) : Nat := 4294967295 - run 4294967295 l
def bit (c : Nat) : Nat := if c % 2 = 1 then (c / 2) ^^^ 3988292384 else c / 2

theorem xor_lt {a b : Nat} (ha : a < 4294967296) (hb : b < 4294967296) : a ^^^ b < 4294967296 := Nat.xor_lt_two_pow (n := 32) ha hb
theorem nib_lt {n : Nat} (h : n < 16) : nib n < 4294967296 := by
  have : ∀ n : Fin 16, nib n.val < 4294967296 := by decide
  exact this ⟨n, h⟩
theorem half_lt {c : Nat} (h : c < 4294967296) : half c < 4294967296 := xor_lt (by omega) (nib_lt (Nat.mod_lt _ (by omega)))
theorem step_lt {c b : Nat} (h : c < 4294967296) (hb : b < 4294967296) : step c b < 4294967296 := half_lt (half_lt (xor_lt h hb))
theorem u8_lt (b : UInt8) : b.toNat < 4294967296 := by have := b.toNat_lt; omega
theorem run_lt : ∀ (l : List UInt8) {c : Nat}, c < 4294967296 → run c l < 4294967296
  | [], _, h => h
  | b :: l, _, h => run_lt l (step_lt h (u8_lt b))
theorem run_append (c : Nat) (l m : List UInt8) : run c (l ++ m) = run (run c l) m := List.foldl_append
theorem run_snoc (c : Nat) (l : List UInt8) (b : UInt8) : run c (l ++ [b]) = step (run c l) b.toNat := by rw [run_append]; rfl
theorem sum_lt (l : List UInt8) : sum l < 4294967296 := by unfold sum; omega

theorem bit_xor (a b : Nat) : bit (a ^^^ b) = bit a ^^^ bit b := by
  unfold bit
  have hd : (a ^^^ b) / 2 = (a / 2) ^^^ (b / 2) := by simpa using Nat.xor_div_two_pow (a := a) (b := b) (n := 1)
  have hm : (a ^^^ b) % 2 = (a % 2) ^^^ (b % 2) := by simpa using Nat.xor_mod_two_pow (a := a) (b := b) (n := 1)
  rw [hd, hm]
  rcases Nat.mod_two_eq_zero_or_one a with ha | ha <;> rcases Nat.mod_two_eq_zero_or_one b with hb | hb
  · simp [ha, hb]
  · simp [ha, hb, Nat.xor_assoc]
  · simp only [ha, hb]; simp [Nat.xor_assoc]; rw [Nat.xor_comm (b / 2)]
  · simp only [ha, hb]; simp
    rw [Nat.xor_assoc, ← Nat.xor_assoc 3988292384, Nat.xor_comm 3988292384 (b / 2), Nat.xor_assoc (b / 2), Nat.xor_self, Nat.xor_zero]
theorem split16 (c : Nat) : (16 * (c / 16)) ^^^ (c % 16) = c := by
  apply Nat.eq_of_testBit_eq
  intro i
  rw [Nat.testBit_xor, show (16 : Nat) = 2 ^ 4 from rfl, Nat.testBit_two_pow_mul, Nat.testBit_mod_two_pow, Nat.testBit_div_two_pow]
  by_cases h : i < 4
  · simp [h, show ¬ 4 ≤ i by omega]
  · simp [h, show 4 ≤ i by omega, show i - 4 + 4 = i by omega, show 4 + (i - 4) = i by omega]
theorem bit_even (q : Nat) : bit (2 * q) = q := by unfold bit; rw [if_neg (by omega)]; omega
theorem bit4_small {r : Nat} (h : r < 16) : bit (bit (bit (bit r))) = nib r := by
  have : ∀ n : Fin 16, bit (bit (bit (bit n.val))) = nib n.val := by decide
  exact this ⟨r, h⟩
theorem half_bits (c : Nat) : half c = bit (bit (bit (bit c))) := by
  conv => rhs; rw [← split16 c]
  simp only [bit_xor]
  rw [show 16 * (c / 16) = 2 * (2 * (2 * (2 * (c / 16)))) by omega, bit_even, bit_even, bit_even, bit_even, bit4_small (Nat.mod_lt _ (by omega))]
  rfl
/-- n bits -/
def bitn : Nat → Nat → Nat
  | 0, c => c
  | n + 1, c => bit (bitn n c)
theorem step_bits (c b : Nat) : step c b = bitn 8 (c ^^^ b) := by
  unfold step
  rw [half_bits, half_bits]
  rfl
theorem bit_lt {c : Nat} (h : c < 4294967296) : bit c < 4294967296 := by
  unfold bit
  split
  · exact xor_lt (by omega) (by omega)
  · omega
theorem bitn_lt (n : Nat) {c : Nat} (h : c < 4294967296) : bitn n c < 4294967296 := by
  induction n with
  | zero => exact h
  | succ n ih => exact bit_lt ih

/-! ### turned bytes are told -/
theorem bit_zero {c : Nat} (hc : c < 4294967296) (h : bit c = 0) : c = 0 := by
  unfold bit at h
  split at h
  · have h2 : c / 2 = 3988292384 := by
      have := congrArg (· ^^^ 3988292384) h
      simpa [Nat.xor_assoc] using this
    omega
  · omega
theorem half_zero {c : Nat} (hc : c < 4294967296) (h : half c = 0) : c = 0 := by
  rw [half_bits] at h
  exact bit_zero hc (bit_zero (bit_lt hc) (bit_zero (bit_lt (bit_lt hc)) (bit_zero (bit_lt (bit_lt (bit_lt hc))) h)))
theorem half_xor (a b : Nat) : half (a ^^^ b) = half a ^^^ half b := by simp only [half_bits, bit_xor]
theorem xor_zero_eq {a b : Nat} (h : a ^^^ b = 0) : a = b := by
  have := congrArg (· ^^^ b) h
  simpa [Nat.xor_assoc] using this
theorem half_inj {a b : Nat} (ha : a < 4294967296) (hb : b < 4294967296) (h : half a = half b) : a = b :=
  xor_zero_eq (half_zero (xor_lt ha hb) (by rw [half_xor, h, Nat.xor_self]))
theorem step_inj {a b x : Nat} (ha : a < 4294967296) (hb : b < 4294967296) (hx : x < 4294967296) (h : step a x = step b x) : a = b := by
  have h1 := half_inj (xor_lt ha hx) (xor_lt hb hx) (half_inj (half_lt (xor_lt ha hx)) (half_lt (xor_lt hb hx)) h)
  have := congrArg (· ^^^ x) h1
  simpa [Nat.xor_assoc] using this
theorem run_inj : ∀ (l : List UInt8) {a b : Nat}, a < 4294967296 → b < 4294967296 → run a l = run b l → a = b
  | [], _, _, _, _, h => h
  | x :: l, _, _, ha, hb, h => step_inj ha hb (u8_lt x) (run_inj l (step_lt ha (u8_lt x)) (step_lt hb (u8_lt x)) h)
/-- the difference of two registers behind one byte more -/
def dstep (d e : Nat) : Nat := half (half (d ^^^ e))
theorem step_diff (a b x y : Nat) : step a x ^^^ step b y = dstep (a ^^^ b) (x ^^^ y) := by
  unfold step dstep
  rw [← half_xor, ← half_xor]
  congr 2
  rw [Nat.xor_assoc, Nat.xor_assoc]
  congr 1
  rw [← Nat.xor_assoc, ← Nat.xor_assoc, Nat.xor_comm x b]
theorem half_shift {x : Nat} : half (16 * x) = x := by
  rw [half_bits, show 16 * x = 2 * (2 * (2 * (2 * x))) by omega, bit_even, bit_even, bit_even, bit_even]
theorem half2_eq {y v : Nat} (hy : y < 4294967296) (hv : v < 16777216) (h : half (half y) = v) : y = 256 * v := by
  have h1 : half (half (256 * v)) = v := by rw [show 256 * v = 16 * (16 * v) by omega, half_shift, half_shift]
  exact half_inj hy (by omega) (half_inj (half_lt hy) (half_lt (by omega)) (h.trans h1.symm))
theorem xor_byte {d e v : Nat} (he : e < 256) (h : d ^^^ e = 256 * v) : d = 256 * v + e := by
  have h1 : d = (256 * v) ^^^ e := by
    have := congrArg (· ^^^ e) h
    simpa [Nat.xor_assoc] using this
  rw [h1]
  have h2 := split256 v e he
  exact h2
where
  split256 (v e : Nat) (he : e < 256) : (256 * v) ^^^ e = 256 * v + e := by
    apply Nat.eq_of_testBit_eq
    intro i
    rw [Nat.testBit_xor, show (256 : Nat) = 2 ^ 8 from rfl, Nat.testBit_two_pow_mul, Nat.testBit_two_pow_mul_add _ he]
    by_cases h : i < 8
    · simp [h, show ¬ 8 ≤ i by omega]
    · rw [if_neg h]
      simp [show 8 ≤ i by omega, Nat.testBit_lt_two_pow (show e < 2 ^ i from Nat.lt_of_lt_of_le he (Nat.pow_le_pow_right (n := 2) (by omega) (show 8 ≤ i by omega)))]
/-- up to four neighbouring bytes that differ from the same register on leave the same register only if none differs -/
theorem four {e0 e1 e2 e3 : Nat} (h0 : e0 < 256) (h1 : e1 < 256) (h2 : e2 < 256) (h3 : e3 < 256)
    (h : dstep (dstep (dstep (dstep 0 e0) e1) e2) e3 = 0) : e0 = 0 ∧ e1 = 0 ∧ e2 = 0 ∧ e3 = 0 := by
  unfold dstep at h
  rw [Nat.zero_xor] at h
  have b0 : half (half e0) < 4294967296 := half_lt (half_lt (by omega))
  have b1 : half (half (half (half e0) ^^^ e1)) < 4294967296 := half_lt (half_lt (xor_lt b0 (by omega)))
  have b2 : half (half (half (half (half (half e0) ^^^ e1)) ^^^ e2)) < 4294967296 := half_lt (half_lt (xor_lt b1 (by omega)))
  have k3 := half2_eq (xor_lt b2 (by omega)) (by omega) h
  have k3' := xor_byte h3 k3
  have k2 := half2_eq (xor_lt b1 (by omega)) (by omega) k3'
  have k2' := xor_byte h2 k2
  have k1 := half2_eq (xor_lt b0 (by omega)) (by omega) k2'
  have k1' := xor_byte h1 k1
  have k0 := half2_eq (by omega) (by omega) k1'
  omega
end Go.Crc
-- Sum
/- frame.Sum and the reference's sum: walks. -/
set_option linter.unusedSimpArgs false
set_option linter.unusedVariables false
namespace Go.Proofs.YtpdlgflbcgemnaaGreatDoor.Frm
open Go.RowKit
open Go.Crc hiding step
theorem ofInt_u32 (a : Nat) (ha : a < 4294967296) : (BitVec.ofInt 32 (a : Int)).toNat = a := by
  rw [BitVec.ofInt_natCast, BitVec.toNat_ofNat]; exact Nat.mod_eq_of_lt (by omega)
theorem wrap_u32_nat (a : Nat) (ha : a < 4294967296) : IntKind.u32.wrap (a : Int) = (a : Int) := by
  rw [IntKind.wrap_u32]; omega
theorem u32_xor_nat (a b : Nat) (ha : a < 4294967296) (hb : b < 4294967296) : bits .xor .u32 (a : Int) (b : Int) = ((a ^^^ b : Nat) : Int) := by
  have hx : a ^^^ b < 2 ^ 32 := Nat.xor_lt_two_pow (by omega) (by omega)
  show IntKind.u32.wrap ((BitVec.ofInt 32 (a : Int) ^^^ BitVec.ofInt 32 (b : Int)).toNat : Int) = _
  rw [BitVec.toNat_xor, ofInt_u32 a ha, ofInt_u32 b hb, wrap_u32_nat _ (by omega)]
theorem u32_and_nat (a b : Nat) (ha : a < 4294967296) (hb : b < 4294967296) : bits .and .u32 (a : Int) (b : Int) = ((a &&& b : Nat) : Int) := by
  have hx : a &&& b < 2 ^ 32 := Nat.and_lt_two_pow _ (by omega)
  show IntKind.u32.wrap ((BitVec.ofInt 32 (a : Int) &&& BitVec.ofInt 32 (b : Int)).toNat : Int) = _
  rw [BitVec.toNat_and, ofInt_u32 a ha, ofInt_u32 b hb, wrap_u32_nat _ (by omega)]
theorem u32_low (a : Nat) (ha : a < 4294967296) : bits .and .u32 (a : Int) 15 = ((a % 16 : Nat) : Int) := by
  have := u32_and_nat a 15 ha (by omega)
  rwa [show a &&& 15 = a % 16 from Nat.and_two_pow_sub_one_eq_mod a 4] at this
theorem xor_full (c : Nat) (hc : c < 4294967296) : c ^^^ 4294967295 = 4294967295 - c := by
  apply Nat.eq_of_testBit_eq
  intro i
  rw [Nat.testBit_xor, show (4294967295 : Nat) = 2 ^ 32 - 1 from rfl, Nat.testBit_two_pow_sub_one, show 2 ^ 32 - 1 - c = 2 ^ 32 - (c + 1) by omega, Nat.testBit_two_pow_sub_succ hc]
  by_cases hi : i < 32
  · simp [hi]
  · simp [hi, Nat.testBit_lt_two_pow (show c < 2 ^ i from Nat.lt_of_lt_of_le hc (Nat.pow_le_pow_right (n := 2) (by omega) (show 32 ≤ i by omega)))]

def strAt (xs : List ByteArray) (i _j : Nat) : Value := .string (xs.getD i ByteArray.empty)
/-- the table lies in block 0 -/
structure Nib (w : World) : Prop where
  inw : 0 < w.heap.size
  cell : ∀ n, n < 16 → w.cell? ⟨0, n, none⟩ = some (.int .u32 (nib n))
theorem Nib.plus {w w' : World} (h : Nib w) (hp : w.Plus w') : Nib w' := by
  obtain ⟨e, rfl⟩ := hp
  haveI : InW 0 w := ⟨h.inw⟩
  exact ⟨(InW.plus w e 0).lt, fun n hn => by rw [World.cell?_plus]; exact h.cell n hn⟩
theorem Nib.alloc {w : World} (h : Nib w) (o : Obj) : Nib (w.alloc o) := h.plus (by (repeat (first | exact Plus.refl _ | apply Plus.plus | apply Plus.alloc | apply Plus.drew)))

def bytes (y : ByteArray) : List UInt8 := y.data.toList
theorem bytes_take (y : ByteArray) (i : Nat) (h : i < y.size) : (bytes y).take (i + 1) = (bytes y).take i ++ [y[i]] := by
  have h2 : i < (bytes y).length := by simpa [bytes] using h
  rw [List.take_add_one, List.getElem?_eq_getElem h2]
  rfl
/-- all bytes of the strings -/
def allBytes (xs : List ByteArray) : List UInt8 := xs.flatMap bytes
theorem allBytes_take (xs : List ByteArray) (k : Nat) (h : k < xs.length) : allBytes (xs.take (k + 1)) = allBytes (xs.take k) ++ bytes (xs.getD k ByteArray.empty) := by
  unfold allBytes
  rw [List.take_add_one, List.getElem?_eq_getElem h, List.flatMap_append]
  simp [List.getD, h]
theorem bytes_end (y : ByteArray) : (bytes y).take y.size = bytes y := List.take_of_length_le (Nat.le_of_eq (by simp [bytes]))

theorem sum_any (xs : List ByteArray) (A : Option Addr) (c : Nat) (w : World) (hx : xs.length ≤ 1000) (hr : RowsAt w A 1 xs.length (strAt xs)) (hT : Nib w)
    (hs : ∀ k, (xs.getD k ByteArray.empty).size ≤ 140737488351232) :
    Calls Tryz.prog 99 #[.slice A xs.length c] w fun e w' => e = .returned (.int .u32 ((sum (allBytes xs) : Nat) : Int)) ∧ w.Plus w' := by
  go_enter Tryz.func99, Tryz.ntmps99
  haveI : InW 0 w := ⟨hT.inw⟩
  go_wp2
  go_loopw [3, 5, 6, 9] (fun s x j i wr => ∃ k : Nat, k ≤ xs.length ∧ i = .int .i64 k ∧ s = .int .u32 ((run 4294967295 (allBytes (xs.take k)) : Nat) : Int) ∧ w.Plus wr) (fun _ _ _ i _ => xs.length - (intOf i).toNat)
  case atStart => exact ⟨0, Nat.zero_le _, rfl, rfl, by (repeat (first | exact Plus.refl _ | apply Plus.plus | apply Plus.alloc | apply Plus.drew))⟩
  case round =>
    obtain ⟨k, hk, rfl, rfl, e, rfl⟩ := hrel
    have hrk : run 4294967295 (allBytes (xs.take k)) < 4294967296 := run_lt _ (by omega)
    by_cases hlt : k < xs.length
    · obtain ⟨b, off, rfl, hb, hc⟩ := hr (by omega)
      haveI : InW b w := ⟨hb⟩
      have c0 := hc k 0 hlt (by omega)
      clear hc hr
      unfold strAt at c0
      simp only [Nat.add_zero, Nat.mul_one] at c0
      have hsz := hs k
      have hnext := Lib.hid (allBytes_take xs k hlt)
      generalize xs.getD k ByteArray.empty = y at c0 hsz hnext
      generalize hR : run 4294967295 (allBytes (xs.take k)) = R at hrk
      go_wp2
      obtain ⟨wo, hwo⟩ : ∃ wo : World, wo = w.plus e := ⟨_, rfl⟩
      have hTo : Nib wo := hwo ▸ hT.plus ⟨e, rfl⟩
      rw [← hwo]
      have hPo : w.Plus wo := by rw [hwo]; (repeat (first | exact Plus.refl _ | apply Plus.plus | apply Plus.alloc | apply Plus.drew))
      clear hwo c0
      go_loop [3, 6] (fun s j => ∃ i : Nat, i ≤ y.size ∧ j = .int .i64 i ∧ s = .int .u32 ((run R ((bytes y).take i) : Nat) : Int)) (fun _ j => y.size - (intOf j).toNat)
      case atStart => exact ⟨0, Nat.zero_le _, rfl, rfl⟩
      case round =>
        obtain ⟨i, hi, rfl, rfl⟩ := hrel
        have hri : run R ((bytes y).take i) < 4294967296 := run_lt _ hrk
        by_cases hlt2 : i < y.size
        · have hstep := Lib.hid (bytes_take y i hlt2)
          have hsnoc := Lib.hid (run_snoc R ((bytes y).take i) y[i])
          generalize hS : run R ((bytes y).take i) = S at hri
          have hy := u8_lt y[i]
          have hy2 := y[i].toNat_lt
          have e0 : ((y[i].toNat : Nat) : Int) % 4294967296 = ((y[i].toNat : Nat) : Int) := by omega
          have e1 := u32_xor_nat S y[i].toNat hri hy
          have l1 := xor_lt hri hy
          generalize hc1 : S ^^^ y[i].toNat = c1 at e1 l1
          have e2 := u32_low c1 l1
          have t1 := hTo.cell (c1 % 16) (Nat.mod_lt _ (by omega))
          have n1 := nib_lt (Nat.mod_lt c1 (show 0 < 16 by omega))
          have m1 : c1 % 16 < 16 := Nat.mod_lt _ (by omega)
          have d1 : ((c1 : Nat) : Int) / 16 = ((c1 / 16 : Nat) : Int) := by omega
          have hf1 : half c1 = (c1 / 16) ^^^ nib (c1 % 16) := rfl
          generalize hd : c1 % 16 = g1 at e2 t1 n1 m1 hf1
          have e3 := u32_xor_nat (c1 / 16) (nib g1) (by omega) n1
          rw [← hf1] at e3
          have l2 := half_lt l1
          have hh2 : half (half c1) = Crc.step S y[i].toNat := by rw [← hc1]; rfl
          have hl3 := half_lt l2
          generalize hc2 : half c1 = c2 at e3 l2 hh2 hl3
          have e4 := u32_low c2 l2
          have t2 := hTo.cell (c2 % 16) (Nat.mod_lt _ (by omega))
          have n2 := nib_lt (Nat.mod_lt c2 (show 0 < 16 by omega))
          have m2 : c2 % 16 < 16 := Nat.mod_lt _ (by omega)
          have d2 : ((c2 : Nat) : Int) / 16 = ((c2 / 16 : Nat) : Int) := by omega
          have hf2 : half c2 = (c2 / 16) ^^^ nib (c2 % 16) := rfl
          generalize hd2 : c2 % 16 = g2 at e4 t2 n2 m2 hf2
          have e5 := u32_xor_nat (c2 / 16) (nib g2) (by omega) n2
          rw [← hf2, hh2] at e5
          generalize nib g1 = v1 at t1 e3 n1
          generalize nib g2 = v2 at t2 e5 n2
          generalize hc3 : Crc.step S y[i].toNat = c3 at e5
          clear hf1 hf2
          generalize c1 / 16 = q1 at d1 e3
          generalize c2 / 16 = q2 at d2 e5
          clear hh2 hl3 hTo hrk hri
          replace hS := Lib.hid hS
          replace hc3 := Lib.hid hc3
          replace hc1 := Lib.hid hc1
          replace hc2 := Lib.hid hc2
          replace hd := Lib.hid hd
          replace hd2 := Lib.hid hd2
          go_wp2
          go_round
          · refine ⟨i + 1, hlt2, by simp, ?_⟩
            rw [hstep.out, hsnoc.out, hS.out, hc3.out]
          · simp [intOf]; omega
        · have hie : i = y.size := by omega
          subst hie
          rw [bytes_end] at hri ⊢
          go_wp2
          go_roundw
          case rel => exact ⟨k + 1, hlt, by simp, by rw [hnext.out, run_append, hR], hPo⟩
          case measure => simp [intOf]; omega
    · have hke : k = xs.length := by omega
      subst hke
      rw [List.take_length] at hrk ⊢
      have e9 := u32_xor_nat 4294967295 _ (by omega) hrk
      rw [Nat.xor_comm, xor_full _ hrk] at e9
      replace e9 : bits BinOp.xor IntKind.u32 IntKind.u32.max _ = _ := e9
      go_wp2
      go_ret
      exact ⟨rfl, by (repeat (first | exact Plus.refl _ | apply Plus.plus | apply Plus.alloc | apply Plus.drew))⟩
end Go.Proofs.YtpdlgflbcgemnaaGreatDoor.Frm
-- SumR
/- the reference's sum: walk. -/
set_option linter.unusedSimpArgs false
set_option linter.unusedVariables false
namespace Go.Proofs.YtpdlgflbcgemnaaGreatDoor.Frm
open Go.RowKit
open Go.Crc hiding step
end Go.Proofs.YtpdlgflbcgemnaaGreatDoor.Frm
-- Head
/- big-endian bytes: head, tail, high. -/
set_option linter.unusedSimpArgs false
set_option linter.unusedVariables false
namespace Go.Proofs.YtpdlgflbcgemnaaGreatDoor.Frm
open Go.RowKit
open Go.Crc hiding step
def big : Nat → Nat → List UInt8
  | _, 0 => []
  | n, k + 1 => big (n / 256) k ++ [UInt8.ofNat n]
def txt (l : List UInt8) : ByteArray := ⟨l.toArray⟩
theorem big_length : ∀ (k n : Nat), (big n k).length = k
  | 0, _ => rfl
  | k + 1, n => by simp [big, big_length k]
theorem bytes_txt (l : List UInt8) : bytes (txt l) = l := rfl
theorem txt_bytes (y : ByteArray) : txt (bytes y) = y := rfl
theorem txt_append (l m : List UInt8) : txt l ++ txt m = txt (l ++ m) := by
  apply ByteArray.ext
  simp [txt]
theorem txt_size (l : List UInt8) : (txt l).size = l.length := by simp [txt, ByteArray.size]
theorem conv_new (l : List UInt8) (w : World) (cs : Array Value) (h : ∀ j (hj : j < l.length), cs[j]? = some (.int .u8 ((l[j].toNat : Nat) : Int))) :
    (convert 99 9 (.slice (some ⟨w.heap.size, 0, none⟩) l.length l.length)).run Tryz.prog (w.alloc (.cells cs 5)) = .ok (.string (txt l)) (w.alloc (.cells cs 5)) :=
  run_convert_bytes_back (P := Tryz.prog) (w.alloc (.cells cs 5)) 99 9 5 ⟨w.heap.size, 0, none⟩ l.length l (by kernel_rfl) (by kernel_rfl) (by kernel_rfl)
    (fun j hj => by
      have := h j hj
      by_cases h0 : j = 0
      · subst h0
        simpa [go_sem, Addr.add] using this
      · simpa [go_sem, Addr.add, h0] using this)
theorem u8_of (m : Nat) : (((UInt8.ofNat m).toNat : Nat) : Int) = (m : Int) % 256 := by
  simp [UInt8.toNat_ofNat]
theorem conv_one (n m : Nat) (w : World) (h : w.cell? ⟨m, 0, none⟩ = some (.int .u8 ((n : Int) % 256))) :
    (convert 99 9 (.slice (some ⟨m, 0, none⟩) 1 1)).run Tryz.prog w = .ok (.string (txt [UInt8.ofNat n])) w :=
  run_convert_bytes_back (P := Tryz.prog) w 99 9 5 ⟨m, 0, none⟩ 1 [UInt8.ofNat n] (by kernel_rfl) (by kernel_rfl) (by kernel_rfl)
    (fun j hj => by
      have : j = 0 := by simpa using hj
      subst this
      simpa [u8_of, Addr.add] using h)
theorem head_any (n : Nat) (w : World) (hn : n < 16777216) :
    Calls Tryz.prog 107 #[.int .i64 n] w fun e w' => e = .returned (.string (txt (big n 3))) ∧ w.Plus w' := by
  go_enter Tryz.func107, Tryz.ntmps107
  have hconv := conv_new (big n 3) w #[.int .u8 ((n : Int) / 65536), .int .u8 ((n : Int) / 256 % 256), .int .u8 ((n : Int) % 256)] (fun j hj => by
    rw [big_length] at hj
    have e : big n 3 = [UInt8.ofNat (n / 256 / 256), UInt8.ofNat (n / 256), UInt8.ofNat n] := rfl
    simp only [e]
    match j, hj with
    | 0, _ => simp [u8_of]; omega
    | 1, _ => simp [u8_of]
    | 2, _ => simp [u8_of])
  rw [big_length] at hconv
  go_wp2
  all_goals go_ret
  exact ⟨rfl, by (repeat (first | exact Plus.refl _ | apply Plus.plus | apply Plus.alloc | apply Plus.drew))⟩
theorem tail_any (n : Nat) (w : World) (hn : n < 4294967296) :
    Calls Tryz.prog 98 #[.int .u32 n] w fun e w' => e = .returned (.string (txt (big n 4))) ∧ w.Plus w' := by
  go_enter Tryz.func98, Tryz.ntmps98
  have hconv := conv_new (big n 4) w #[.int .u8 ((n : Int) / 16777216), .int .u8 ((n : Int) / 65536 % 256), .int .u8 ((n : Int) / 256 % 256), .int .u8 ((n : Int) % 256)] (fun j hj => by
    rw [big_length] at hj
    have e : big n 4 = [UInt8.ofNat (n / 256 / 256 / 256), UInt8.ofNat (n / 256 / 256), UInt8.ofNat (n / 256), UInt8.ofNat n] := rfl
    simp only [e]
    match j, hj with
    | 0, _ => simp [u8_of]; omega
    | 1, _ => simp [u8_of]; omega
    | 2, _ => simp [u8_of]
    | 3, _ => simp [u8_of])
  rw [big_length] at hconv
  go_wp2
  all_goals go_ret
  exact ⟨rfl, by (repeat (first | exact Plus.refl _ | apply Plus.plus | apply Plus.alloc | apply Plus.drew))⟩
end Go.Proofs.YtpdlgflbcgemnaaGreatDoor.Frm
-- Frame
/- frame.Frame and the reference's: walks. -/
set_option linter.unusedSimpArgs false
set_option linter.unusedVariables false
namespace Go.Proofs.YtpdlgflbcgemnaaGreatDoor.Frm
open Go.RowKit
open Go.Crc hiding step
/-- what is read in a frame's head and text -/
def headed (l : List UInt8) : List UInt8 := big l.length 3 ++ l
def framed (l : List UInt8) : List UInt8 := headed l ++ big (sum (headed l)) 4
theorem two_rows {w : World} {b : Nat} {x y : ByteArray} (hb : b < w.heap.size) (h0 : w.cell? ⟨b, 0, none⟩ = some (.string x)) (h1 : w.cell? ⟨b, 1, none⟩ = some (.string y)) :
    RowsAt w (some ⟨b, 0, none⟩) 1 [x, y].length (strAt [x, y]) := fun _ => ⟨b, 0, rfl, hb, fun i j hi hj => by
  obtain rfl : j = 0 := by omega
  match i, hi with
  | 0, _ => simpa [strAt] using h0
  | 1, _ => simpa [strAt] using h1⟩
theorem one_row {w : World} {b : Nat} {x : ByteArray} (hb : b < w.heap.size) (h0 : w.cell? ⟨b, 0, none⟩ = some (.string x)) :
    RowsAt w (some ⟨b, 0, none⟩) 1 [x].length (strAt [x]) := fun _ => ⟨b, 0, rfl, hb, fun i j hi hj => by
  obtain rfl : j = 0 := by omega
  match i, hi with
  | 0, _ => simpa [strAt] using h0⟩
theorem bytes_length (y : ByteArray) : (bytes y).length = y.size := by simp [bytes]
theorem sum_two (x y : ByteArray) (b c : Nat) (w : World) (hT : Nib w) (hx : x.size ≤ 1000000) (hy : y.size ≤ 1000000) (hb : b < w.heap.size)
    (h0 : w.cell? ⟨b, 0, none⟩ = some (.string x)) (h1 : w.cell? ⟨b, 1, none⟩ = some (.string y)) :
    Calls Tryz.prog 99 #[.slice (some ⟨b, 0, none⟩) 2 c] w fun e w' => e = .returned (.int .u32 ((sum (bytes x ++ bytes y) : Nat) : Int)) ∧ w.Plus w' := by
  have := sum_any [x, y] (some ⟨b, 0, none⟩) c w (by simp) (two_rows hb h0 h1) hT (fun k => by
    match k with
    | 0 => simp; omega
    | 1 => simp; omega
    | k + 2 => simp)
  simpa [allBytes] using this
theorem sum_one (x : ByteArray) (b c : Nat) (w : World) (hT : Nib w) (hx : x.size ≤ 1000000) (hb : b < w.heap.size)
    (h0 : w.cell? ⟨b, 0, none⟩ = some (.string x)) :
    Calls Tryz.prog 99 #[.slice (some ⟨b, 0, none⟩) 1 c] w fun e w' => e = .returned (.int .u32 ((sum (bytes x) : Nat) : Int)) ∧ w.Plus w' := by
  have := sum_any [x] (some ⟨b, 0, none⟩) c w (by simp) (one_row hb h0) hT (fun k => by
    match k with
    | 0 => simp; omega
    | k + 1 => simp)
  simpa [allBytes] using this
theorem frame_short (s : ByteArray) (w : World) (hT : Nib w) (hs : s.size ≤ 65536) :
    Calls Tryz.prog 72 #[.string s] w fun e w' => e = .returned (.tuple #[.string (txt (framed (bytes s))), .int .i64 0]) ∧ w.Plus w' := by
  go_enter Tryz.func72, Tryz.ntmps72
  have hh : (txt (big s.size 3)).size = 3 := by rw [txt_size, big_length]
  have hf : framed (bytes s) = big s.size 3 ++ bytes s ++ big (sum (big s.size 3 ++ bytes s)) 4 := by rw [framed, headed, bytes_length]
  have ht : ∀ n, (txt (big n 4)).size = 4 := fun n => by rw [txt_size, big_length]
  have hhs : (txt (big s.size 3) ++ s).size = s.size + 3 := by rw [ByteArray.size_append, hh]; omega
  have key : txt (big s.size 3) ++ s ++ txt (big (sum (bytes (txt (big s.size 3)) ++ bytes s)) 4) = txt (framed (bytes s)) := by
    rw [hf, ← txt_append, ← txt_append]; rfl
  go_wp2_with (first | (go_at_call 107; (with_reducible refine (head_any _ _ (by omega)).mono ?_); rintro e w' ⟨rfl, ey, rfl⟩) | (go_at_call 98; (with_reducible refine (tail_any _ _ (sum_lt _)).mono ?_); rintro e w' ⟨rfl, ey, rfl⟩) | (go_at_call 99; (with_reducible refine (sum_two (txt (big s.size 3)) s _ _ _ (hT.plus (by (repeat (first | exact Plus.refl _ | apply Plus.plus | apply Plus.alloc | apply Plus.drew)))) (by omega) (by omega) (by simp [go_sem]) (by simp [go_sem]) (by simp [go_sem])).mono ?_); rintro e w' ⟨rfl, ey, rfl⟩))
  exact bodyPost_ret (v := .tuple #[.string (txt (framed (bytes s))), .int .i64 0]) (by simp [results, Tryz.results72, go_sem, key]; rw [hf, List.append_assoc]) rfl ⟨rfl, by (repeat (first | exact Plus.refl _ | apply Plus.plus | apply Plus.alloc | apply Plus.drew))⟩
theorem frame_long (s : ByteArray) (w : World) (hm : s.size ≤ 140737488351232) (hs : 65536 < s.size) :
    Calls Tryz.prog 72 #[.string s] w fun e w' => e = .returned (.tuple #[.string (txt []), .int .i64 1]) ∧ w.Plus w' := by
  go_enter Tryz.func72, Tryz.ntmps72
  go_wp2_with (first | (go_at_call 107; (with_reducible refine (head_any _ _ (by omega)).mono ?_); rintro e w' ⟨rfl, ey, rfl⟩) | (go_at_call 98; (with_reducible refine (tail_any _ _ (sum_lt _)).mono ?_); rintro e w' ⟨rfl, ey, rfl⟩) | (go_at_call 99; (with_reducible refine (sum_two (txt (big s.size 3)) s _ _ _ (hT.plus (by (repeat (first | exact Plus.refl _ | apply Plus.plus | apply Plus.alloc | apply Plus.drew)))) (by omega) (by omega) (by simp [go_sem]) (by simp [go_sem]) (by simp [go_sem])).mono ?_); rintro e w' ⟨rfl, ey, rfl⟩))
  exact bodyPost_ret (v := .tuple #[.string (txt []), .int .i64 1]) (by simp [results, Tryz.results72, go_sem]; rfl) rfl ⟨rfl, by (repeat (first | exact Plus.refl _ | apply Plus.plus | apply Plus.alloc | apply Plus.drew))⟩
end Go.Proofs.YtpdlgflbcgemnaaGreatDoor.Frm
-- Read
/- reading a frame: plain laws. -/
set_option linter.unusedSimpArgs false
set_option linter.unusedVariables false
namespace Go.Proofs.YtpdlgflbcgemnaaGreatDoor.Frm
open Go.Crc hiding step
def at8 (s : ByteArray) (i : Nat) : Nat := ((bytes s).getD i 0).toNat
theorem at8_eq (s : ByteArray) (i : Nat) (h : i < s.size) : s[i].toNat = at8 s i := by
  have h2 : i < (bytes s).length := by simpa [bytes] using h
  unfold at8
  rw [List.getD_eq_getElem?_getD, List.getElem?_eq_getElem h2]
  rfl
theorem at8_lt (s : ByteArray) (i : Nat) : at8 s i < 256 := ((bytes s).getD i 0).toNat_lt
def num (s : ByteArray) (a : Nat) : Nat := 65536 * at8 s a + 256 * at8 s (a + 1) + at8 s (a + 2)
def part (s : ByteArray) (i n : Nat) : List UInt8 := ((bytes s).drop i).take n
theorem part_length (s : ByteArray) (i n : Nat) (h : i + n ≤ s.size) : (part s i n).length = n := by
  unfold part
  rw [List.length_take, List.length_drop, bytes_length]
  omega
theorem bytes_extract (s : ByteArray) (i j : Nat) : bytes (s.extract i j) = part s i (j - i) := by
  unfold bytes part
  rw [ByteArray.data_extract, Array.toList_extract]
  rfl
theorem extract_eq (s : ByteArray) (i j : Nat) : s.extract i j = txt (part s i (j - i)) := by
  rw [← bytes_extract, txt_bytes]
theorem part_rest (s : ByteArray) (a i n : Nat) : part (txt (part s a (s.size - a))) i n = part s (a + i) n := by
  unfold part
  rw [bytes_txt]
  have : (bytes s).drop a = ((bytes s).drop a).take (s.size - a) := (List.take_of_length_le (by rw [List.length_drop, bytes_length]; exact Nat.le_refl _)).symm
  rw [← this, List.drop_drop]
theorem txt_inj {l m : List UInt8} : txt l = txt m ↔ l = m := ⟨fun h => by have := congrArg bytes h; simpa [bytes_txt] using this, fun h => by rw [h]⟩
theorem at8_rest (s : ByteArray) (a i : Nat) : at8 (s.extract a s.size) i = at8 s (a + i) := by
  unfold at8
  rw [bytes_extract]
  unfold part
  have : ((bytes s).drop a).take (s.size - a) = (bytes s).drop a := (List.take_of_length_le (by rw [List.length_drop, bytes_length]; exact Nat.le_refl _))
  rw [this]
  simp [List.getD_eq_getElem?_getD]
/-- what a reading answers: 0 or the error's number -/
def code (s : ByteArray) (a : Nat) : Nat :=
  if s.size - a < 3 then 4 else if 65536 < num s a then 2 else if s.size - a < 7 + num s a then 4
  else if big (sum (part s a (3 + num s a))) 4 = part s (a + 3 + num s a) 4 then 0 else 3
def firstV (s : ByteArray) (a : Nat) : Value :=
  if code s a = 0 then .tuple #[.string (txt (part s (a + 3) (num s a))), .int .i64 ((a + 7 + num s a : Nat) : Int), .int .i64 0]
  else .tuple #[.string (txt []), .int .i64 0, .int .i64 ((code s a : Nat) : Int)]
theorem part_split (s : ByteArray) (a m n : Nat) : part s a (m + n) = part s a m ++ part s (a + m) n := by
  unfold part
  rw [List.take_add, List.drop_drop]
theorem part_three (s : ByteArray) (a : Nat) (h : a + 3 ≤ s.size) : part s a 3 = big (num s a) 3 := by
  have h0 : a < (bytes s).length := by rw [bytes_length]; omega
  have h1 : a + 1 < (bytes s).length := by rw [bytes_length]; omega
  have h2 : a + 2 < (bytes s).length := by rw [bytes_length]; omega
  have e : part s a 3 = [(bytes s)[a], (bytes s)[a + 1], (bytes s)[a + 2]] := by
    unfold part
    rw [List.drop_eq_getElem_cons h0, List.drop_eq_getElem_cons h1, List.drop_eq_getElem_cons h2]
    rfl
  have g0 : at8 s a = (bytes s)[a].toNat := by unfold at8; rw [List.getD_eq_getElem?_getD, List.getElem?_eq_getElem h0]; rfl
  have g1 : at8 s (a + 1) = (bytes s)[a + 1].toNat := by unfold at8; rw [List.getD_eq_getElem?_getD, List.getElem?_eq_getElem h1]; rfl
  have g2 : at8 s (a + 2) = (bytes s)[a + 2].toNat := by unfold at8; rw [List.getD_eq_getElem?_getD, List.getElem?_eq_getElem h2]; rfl
  have b0 := at8_lt s a
  have b1 := at8_lt s (a + 1)
  have b2 := at8_lt s (a + 2)
  have e2 : big (num s a) 3 = [UInt8.ofNat (num s a / 256 / 256), UInt8.ofNat (num s a / 256), UInt8.ofNat (num s a)] := rfl
  have m0 : num s a / 256 / 256 = at8 s a := by unfold num; omega
  have m1 : num s a / 256 % 256 = at8 s (a + 1) := by unfold num; omega
  have m2 : num s a % 256 = at8 s (a + 2) := by unfold num; omega
  have of_mod : ∀ n : Nat, UInt8.ofNat n = UInt8.ofNat (n % 256) := fun n => by
    apply UInt8.toNat_inj.1
    simp
  rw [e, e2, m0, of_mod (num s a / 256), m1, of_mod (num s a), m2, g0, g1, g2]
  simp
/-- the reference's question is the same -/
theorem code_same (s : ByteArray) (a : Nat) (h : a + (7 + num s a) ≤ s.size) :
    framed (part s (a + 3) (num s a)) = part s a (7 + num s a) ↔ big (sum (part s a (3 + num s a))) 4 = part s (a + 3 + num s a) 4 := by
  have hh : headed (part s (a + 3) (num s a)) = part s a (3 + num s a) := by
    unfold headed
    rw [part_length s _ _ (by omega), part_split, part_three s a (by omega)]
  unfold framed
  rw [hh, show 7 + num s a = (3 + num s a) + 4 by omega, part_split s a (3 + num s a) 4, List.append_cancel_left_eq, show a + (3 + num s a) = a + 3 + num s a by omega]
end Go.Proofs.YtpdlgflbcgemnaaGreatDoor.Frm
-- First
/- frame.First and the reference's: walks. -/
set_option linter.unusedSimpArgs false
set_option linter.unusedVariables false
namespace Go.Proofs.YtpdlgflbcgemnaaGreatDoor.Frm
open Go.RowKit
open Go.Crc hiding step
theorem or_add (x y i : Nat) (h : y < 2 ^ i) : (x * 2 ^ i) ||| y = x * 2 ^ i + y := by
  have := Nat.two_pow_add_eq_or_of_lt h x
  rw [Nat.mul_comm]; exact this.symm
theorem ofInt_i64 (a : Nat) (ha : a < 9223372036854775808) : (BitVec.ofInt 64 (a : Int)).toNat = a := by
  rw [BitVec.ofInt_natCast, BitVec.toNat_ofNat]; exact Nat.mod_eq_of_lt (by omega)
theorem i64_or_nat (a b : Nat) (ha : a < 9223372036854775808) (hb : b < 9223372036854775808) : bits .or .i64 (a : Int) (b : Int) = ((a ||| b : Nat) : Int) := by
  have hx : a ||| b < 2 ^ 63 := Nat.or_lt_two_pow (by omega) (by omega)
  show IntKind.i64.wrap ((BitVec.ofInt 64 (a : Int) ||| BitVec.ofInt 64 (b : Int)).toNat : Int) = _
  rw [BitVec.toNat_or, ofInt_i64 a ha, ofInt_i64 b hb, IntKind.wrap_i64]
  omega
theorem first_far (s : ByteArray) (a : Nat) (w : World) (hT : Nib w) (hs : s.size ≤ 1000000) (ha : a ≤ s.size) (h3 : ¬ s.size - a < 3) :
    Calls Tryz.prog 58 #[.string s, .int .i64 a] w fun e w' => e = .returned (firstV s a) ∧ w.Plus w' := by
  go_enter Tryz.func58, Tryz.ntmps58
  go_wp2_with fail
  have hts : (s.extract a s.size).size = s.size - a := by simp
  have t0 : ∀ h : 0 < (s.extract a s.size).size, (s.extract a s.size)[0].toNat = at8 s a := fun h => by rw [at8_eq _ 0 h, at8_rest]; rfl
  have t1 : ∀ h : 1 < (s.extract a s.size).size, (s.extract a s.size)[1].toNat = at8 s (a + 1) := fun h => by rw [at8_eq _ 1 h, at8_rest]
  have t2 : ∀ h : 2 < (s.extract a s.size).size, (s.extract a s.size)[2].toNat = at8 s (a + 2) := fun h => by rw [at8_eq _ 2 h, at8_rest]
  have htx := Lib.hid (extract_eq s a s.size)
  have l0 := at8_lt s a
  have l1 := at8_lt s (a + 1)
  have l2 := at8_lt s (a + 2)
  have hnum := Lib.hid (show num s a = 65536 * at8 s a + 256 * at8 s (a + 1) + at8 s (a + 2) from rfl)
  generalize at8 s a = x at t0 l0 hnum
  generalize at8 s (a + 1) = y at t1 l1 hnum
  generalize at8 s (a + 2) = z at t2 l2 hnum
  generalize s.extract a s.size = t at *
  have i0 : 0 < t.size := by omega
  have i1 : 1 < (t.size : Int) := by omega
  have i2 : 2 < (t.size : Int) := by omega
  replace hts := Lib.hid hts
  replace t0 := t0 i0
  replace t1 := t1 (by omega)
  replace t2 := t2 (by omega)
  go_region
  have hN : bits .or .i64 (bits .or .i64 ((x : Int) * 65536) ((y : Int) * 256)) (z : Int) = ((num s a : Nat) : Int) := by
    have e1 := i64_or_nat (x * 65536) (y * 256) (by omega) (by omega)
    rw [or_add x (y * 256) 16 (by omega)] at e1
    have e2 := i64_or_nat (x * 65536 + y * 256) z (by omega) (by omega)
    rw [show x * 65536 + y * 256 = (x * 256 + y) * 2 ^ 8 by omega, or_add _ z 8 (by omega)] at e2
    rw [show ((x : Int) * 65536) = ((x * 65536 : Nat) : Int) by omega, show ((y : Int) * 256) = ((y * 256 : Nat) : Int) by omega]
    rw [show (65536 : Nat) = 2 ^ 16 from rfl, e1, show x * 2 ^ 16 + y * 256 = (x * 256 + y) * 2 ^ 8 by omega, e2, hnum.out]
    congr 1; omega
  have hnl : num s a < 16777216 := by rw [hnum.out]; omega
  simp only [hN]
  clear hN t0 t1 t2 hnum
  generalize hn : num s a = n at hnl
  by_cases c1 : 65536 < n
  · have hV : firstV s a = .tuple #[.string (txt []), .int .i64 0, .int .i64 2] := by simp [firstV, code, h3, hn, c1]
    replace hV := Lib.hid hV
    replace hn := Lib.hid hn
    have c2 : (65536 : Int) < n := by omega
    go_wp2_with fail
    exact bodyPost_ret (v := .tuple #[.string (txt []), .int .i64 0, .int .i64 2]) (by simp [results, Tryz.results58, go_sem]; rfl) rfl ⟨by rw [hV.out], by (repeat (first | exact Plus.refl _ | apply Plus.plus | apply Plus.alloc | apply Plus.drew))⟩
  · by_cases c3 : s.size - a < 7 + n
    · have hV : firstV s a = .tuple #[.string (txt []), .int .i64 0, .int .i64 4] := by simp [firstV, code, h3, hn, c1, c3]
      replace hV := Lib.hid hV
      replace hn := Lib.hid hn
      have hts2 := hts.out
      have c2 : ¬ (65536 : Int) < n := by omega
      have c4 : (t.size : Int) < 7 + (n : Int) := by omega
      clear hts2
      go_wp2_with fail
      exact bodyPost_ret (v := .tuple #[.string (txt []), .int .i64 0, .int .i64 4]) (by simp [results, Tryz.results58, go_sem]; rfl) rfl ⟨by rw [hV.out], by (repeat (first | exact Plus.refl _ | apply Plus.plus | apply Plus.alloc | apply Plus.drew))⟩
    · have hts2 := hts.out
      have c2 : ¬ (65536 : Int) < n := by omega
      have c4 : ¬ (t.size : Int) < 7 + (n : Int) := by omega
      have b3 : (3 : Int) + n ≤ t.size := by omega
      have b7 : (7 : Int) + n ≤ t.size := by omega
      have b37 : (3 : Int) + n ≤ 7 + n := by omega
      have b0 : (0 : Int) ≤ 3 + n := by omega
      have w3 : IntKind.i64.wrap ((3 : Int) + n) = 3 + n := by rw [IntKind.wrap_i64]; omega
      have w7 : IntKind.i64.wrap ((7 : Int) + n) = 7 + n := by rw [IntKind.wrap_i64]; omega
      clear hts2
      replace hn := Lib.hid hn
      have q3 : ((3 : Int) + n).toNat = 3 + n := by omega
      have q7 : ((7 : Int) + n).toNat = 7 + n := by omega
      have htx2 := htx.out
      have p1 : bytes (t.extract 0 (3 + n)) = part s a (3 + n) := by rw [bytes_extract, htx2, part_rest]; rfl
      have p2 : bytes (t.extract (3 + n) (7 + n)) = part s (a + 3 + n) 4 := by
        rw [bytes_extract, htx2, part_rest, show 7 + n - (3 + n) = 4 by omega, show a + (3 + n) = a + 3 + n by omega]
      have p3 : t.extract 3 (3 + n) = txt (part s (a + 3) n) := by rw [extract_eq, htx2, part_rest, show 3 + n - 3 = n by omega]
      replace p1 := Lib.hid p1
      replace p2 := Lib.hid p2
      replace p3 := Lib.hid p3
      clear htx2
      have hx : (t.extract 0 (3 + n)).size ≤ 1000000 := by rw [ByteArray.size_extract]; omega
      go_wp2_with fail
      go_region_held3 (fun _ => True) (trivial) (first | (go_at_call 99; refine (sum_one (t.extract 0 (3 + n)) _ _ _ (hT.plus (by (repeat (first | exact Plus.refl _ | apply Plus.plus | apply Plus.alloc | apply Plus.drew)))) hx (by simp [go_sem]) (by simp [go_sem])).mono ?_; rintro e w' ⟨rfl, ey, rfl⟩) | (go_at_call 98; refine (tail_any _ _ (sum_lt _)).mono ?_; rintro e w' ⟨rfl, ey, rfl⟩))
      all_goals go_wp2
      · rename_i h
        rw [ByteArray.toList_eq, ByteArray.toList_eq] at h
        have hne : ¬ big (sum (part s a (3 + n))) 4 = part s (a + 3 + n) 4 := by
          have h2 : ¬ bytes (txt (big (sum (bytes (t.extract 0 (3 + n)))) 4)) = bytes (t.extract (3 + n) (7 + n)) := by simpa [bytes] using h
          rwa [bytes_txt, p1.out, p2.out] at h2
        have hV : firstV s a = .tuple #[.string (txt []), .int .i64 0, .int .i64 3] := by simp [firstV, code, h3, hn.out, c1, c3, hne]
        exact bodyPost_ret (v := .tuple #[.string (txt []), .int .i64 0, .int .i64 3]) (by simp [results, Tryz.results58, go_sem]; rfl) rfl ⟨by rw [hV], by (repeat (first | exact Plus.refl _ | apply Plus.plus | apply Plus.alloc | apply Plus.drew))⟩
      · rename_i h
        rw [ByteArray.toList_eq, ByteArray.toList_eq] at h
        have he : big (sum (part s a (3 + n))) 4 = part s (a + 3 + n) 4 := by
          have h2 : bytes (txt (big (sum (bytes (t.extract 0 (3 + n)))) 4)) = bytes (t.extract (3 + n) (7 + n)) := by simpa [bytes] using h
          rwa [bytes_txt, p1.out, p2.out] at h2
        have hV : firstV s a = .tuple #[.string (txt (part s (a + 3) n)), .int .i64 ((a + 7 + n : Nat) : Int), .int .i64 0] := by simp [firstV, code, h3, hn.out, c1, c3, he]
        exact bodyPost_ret (v := .tuple #[.string (txt (part s (a + 3) n)), .int .i64 ((a + 7 + n : Nat) : Int), .int .i64 0]) (by simp [results, Tryz.results58, go_sem, p3.out]) rfl ⟨by rw [hV], by (repeat (first | exact Plus.refl _ | apply Plus.plus | apply Plus.alloc | apply Plus.drew))⟩
theorem first_any (s : ByteArray) (a : Nat) (w : World) (hT : Nib w) (hs : s.size ≤ 1000000) (ha : a ≤ s.size) :
    Calls Tryz.prog 58 #[.string s, .int .i64 a] w fun e w' => e = .returned (firstV s a) ∧ w.Plus w' := by
  by_cases h3 : s.size - a < 3
  · have hV : firstV s a = .tuple #[.string (txt []), .int .i64 0, .int .i64 4] := by simp [firstV, code, h3]
    go_enter Tryz.func58, Tryz.ntmps58
    have e0 : ((s.size - a : Nat) : Int) = (s.size : Int) - a := by omega
    have c4 : (s.size : Int) - a < 3 := by omega
    replace hV := Lib.hid hV
    go_wp2_with fail
    exact bodyPost_ret (v := .tuple #[.string (txt []), .int .i64 0, .int .i64 4]) (by simp [results, Tryz.results58, go_sem]; rfl) rfl ⟨by rw [hV.out], by (repeat (first | exact Plus.refl _ | apply Plus.plus | apply Plus.alloc | apply Plus.drew))⟩
  · exact first_far s a w hT hs ha h3
theorem first_out (s : ByteArray) (i : Int) (w : World) (hs : s.size ≤ 1000000) (hi : i < 0 ∨ (s.size : Int) < i) :
    Calls Tryz.prog 58 #[.string s, .int .i64 i] w fun e w' => e = .returned (.tuple #[.string (txt []), .int .i64 0, .int .i64 1]) ∧ w.Plus w' := by
  rcases hi with h | h
  · go_enter Tryz.func58, Tryz.ntmps58
    go_wp2_with fail
    exact bodyPost_ret (v := .tuple #[.string (txt []), .int .i64 0, .int .i64 1]) (by simp [results, Tryz.results58, go_sem]; rfl) rfl ⟨rfl, by (repeat (first | exact Plus.refl _ | apply Plus.plus | apply Plus.alloc | apply Plus.drew))⟩
  · go_enter Tryz.func58, Tryz.ntmps58
    have h0 : ¬ i < 0 := by omega
    go_wp2_with fail
    exact bodyPost_ret (v := .tuple #[.string (txt []), .int .i64 0, .int .i64 1]) (by simp [results, Tryz.results58, go_sem]; rfl) rfl ⟨rfl, by (repeat (first | exact Plus.refl _ | apply Plus.plus | apply Plus.alloc | apply Plus.drew))⟩
end Go.Proofs.YtpdlgflbcgemnaaGreatDoor.Frm
-- All
/- frame.All and the reference's: walks. -/
set_option linter.unusedSimpArgs false
set_option linter.unusedVariables false
namespace Go.Proofs.YtpdlgflbcgemnaaGreatDoor.Frm
open Go.RowKit
open Go.Crc hiding step
def allFrom (s : ByteArray) : Nat → Nat → List ByteArray × Nat
  | 0, a => ([], a)
  | f + 1, a => if code s a = 0 then (txt (part s (a + 3) (num s a)) :: (allFrom s f (a + 7 + num s a)).1, (allFrom s f (a + 7 + num s a)).2) else ([], a)
theorem code_zero {s : ByteArray} {a : Nat} (h : code s a = 0) : a + (7 + num s a) ≤ s.size := by
  unfold code at h
  split at h
  · omega
  · split at h
    · omega
    · split at h
      · omega
      · omega
theorem allFrom_fuel (s : ByteArray) : ∀ (f g a : Nat), s.size - a ≤ f → s.size - a ≤ g → allFrom s f a = allFrom s g a
  | 0, 0, _, _, _ => rfl
  | 0, g + 1, a, hf, hg => by
    have : ¬ code s a = 0 := fun h => by have := code_zero h; omega
    simp [allFrom, this]
  | f + 1, 0, a, hf, hg => by
    have : ¬ code s a = 0 := fun h => by have := code_zero h; omega
    simp [allFrom, this]
  | f + 1, g + 1, a, hf, hg => by
    by_cases h : code s a = 0
    · have := code_zero h
      simp only [allFrom, if_pos h]
      rw [allFrom_fuel s f g (a + 7 + num s a) (by omega) (by omega)]
    · simp [allFrom, h]
def allOf (s : ByteArray) (a : Nat) : List ByteArray × Nat := allFrom s (s.size + 1) a
theorem allOf_stop {s : ByteArray} {a : Nat} (h : ¬ code s a = 0) : allOf s a = ([], a) := by simp [allOf, allFrom, h]
theorem allOf_step {s : ByteArray} {a : Nat} (h : code s a = 0) : allOf s a = (txt (part s (a + 3) (num s a)) :: (allOf s (a + 7 + num s a)).1, (allOf s (a + 7 + num s a)).2) := by
  have := code_zero h
  have e : allOf s (a + 7 + num s a) = allFrom s s.size (a + 7 + num s a) := allFrom_fuel s _ _ _ (by omega) (by omega)
  rw [e]
  simp [allOf, allFrom, h]
/-- how far a list has come -/
structure AllRel (s : ByteArray) (l : List ByteArray) (a : Nat) : Prop where
  list : l ++ (allOf s a).1 = (allOf s 0).1
  at' : (allOf s a).2 = (allOf s 0).2
  le : a ≤ s.size
  len : l.length ≤ a
theorem AllRel.start (s : ByteArray) : AllRel s [] 0 := ⟨rfl, rfl, Nat.zero_le _, Nat.le_refl _⟩
theorem AllRel.next {s : ByteArray} {l : List ByteArray} {a : Nat} (h : AllRel s l a) (hc : code s a = 0) : AllRel s (l ++ [txt (part s (a + 3) (num s a))]) (a + 7 + num s a) := by
  have h1 := h.list
  have h2 := h.at'
  have h3 := code_zero hc
  rw [allOf_step hc] at h1 h2
  refine ⟨?_, h2, by omega, by have := h.len; simp; omega⟩
  rw [← h1, List.append_assoc]; rfl
theorem AllRel.stop {s : ByteArray} {l : List ByteArray} {a : Nat} (h : AllRel s l a) (hc : ¬ code s a = 0) : (allOf s 0) = (l, a) := by
  have h1 := h.list
  have h2 := h.at'
  rw [allOf_stop hc] at h1 h2
  simp only [List.append_nil] at h1
  exact Prod.ext h1.symm h2.symm
theorem infoStr : (Tryz.prog.info? 9).map (fun i => (i.zero, i.size, i.bytes)) = some (some (.string ⟨#[]⟩), 1, 16) := by kernel_rfl
theorem underStrs : Tryz.prog.underlying 26 = some (.slice 9) := by kernel_rfl
theorem one_new {w : World} {g : Nat} {u : Value} (h : w.cell? ⟨g, 0, none⟩ = some u) : ∀ j v, [u][j]? = some v → w.cell? ((⟨g, 0, none⟩ : Addr).add j) = some v := by
  intro j v hj
  match j, hj with
  | 0, hj => simp at hj; subst hj; simpa [Addr.add] using h
/-- what a call of All leaves -/
def AllLeft (w : World) (l : List ByteArray) (a : Nat) (e : Ending) (w' : World) : Prop :=
  ∃ v, e = .returned (.tuple #[v, .int .i64 a]) ∧ w'.ownsRow w.heap.size 9 1 v l.length (l.map Value.string) ∧ w.Plus w'
set_option maxRecDepth 100000 in
theorem all_any (s : ByteArray) (w : World) (hT : Nib w) (hs : s.size ≤ 1000000) :
    Calls Tryz.prog 20 #[.string s] w (AllLeft w (allOf s 0).1 (allOf s 0).2) := by
  obtain ⟨i0, hi0, hz0, hz1, hz2⟩ := info_parts infoStr
  go_enter Tryz.func20, Tryz.ntmps20
  go_wp2
  go_loopw [4, 5, 6, 7, 8, 9] (fun v i t x e r wr => ∃ (l : List ByteArray) (a : Nat), AllRel s l a ∧ i = .int .i64 a ∧ wr.ownsRow w.heap.size 9 1 v l.length (l.map Value.string) ∧ w.Plus wr) (fun _ i _ _ _ _ _ => s.size - (intOf i).toNat)
  case atStart => exact ⟨[], 0, AllRel.start s, rfl, World.ownsRow_nil _ _ _ _, by (repeat (first | exact Plus.refl _ | apply Plus.plus | apply Plus.alloc | apply Plus.drew))⟩
  case round =>
    obtain ⟨l, a, hrel, rfl, hown, hp⟩ := hrel
    have hTr := hT.plus hp
    have hle := hrel.le
    have hlen := hrel.len
    by_cases hc : code s a = 0
    · have hV : firstV s a = .tuple #[.string (txt (part s (a + 3) (num s a))), .int .i64 ((a + 7 + num s a : Nat) : Int), .int .i64 0] := by simp [firstV, hc]
      have hnext := hrel.next hc
      have h3 := code_zero hc
      generalize hx : txt (part s (a + 3) (num s a)) = x at hV hnext
      generalize hb : a + 7 + num s a = b at hV hnext
      have hF := first_any s a wr hTr hs hle
      rw [hV] at hF
      clear hV
      replace hx := Lib.hid hx
      replace hb := Lib.hid hb
      replace hc := Lib.hid hc
      go_wp2_with (first
        | (go_at_call 58; (with_reducible refine hF.mono ?_); rintro e w' ⟨rfl, ey, rfl⟩)
        | (at_builtin; refine wpList_append_own _ rfl _ _ 26 rfl w.heap.size 9 i0 (.string ⟨#[]⟩) 1 16 underStrs hi0 hz0 hz1 hz2 rfl (by decide) _ _ _ rfl ((hown.plus _).alloc _) _ 1 1 [.string x] rfl rfl
            (one_new (by simp [go_sem])) (by intro u hu; simp at hu; subst hu; rfl) (by unfold maxLen; omega) (by omega) (by have := (Plus.below hp).size; simp [go_sem]; omega) ?_; intro v' w1 hown1 hgrow1 _)
        | fail)
      refine ⟨⟨l ++ [x], b, hnext, rfl, by simpa using hown1, World.grownBy.toPlus (Plus.alloc (Plus.plus hp _) _) hgrow1 (fun k hk => (hown.lt k hk).1)⟩, ?_⟩
      have := hb.out
      simp [intOf]; omega
    · have hV : firstV s a = .tuple #[.string (txt []), .int .i64 0, .int .i64 ((code s a : Nat) : Int)] := by simp [firstV, hc]
      have hend := hrel.stop hc
      have hF := first_any s a wr hTr hs hle
      rw [hV] at hF
      clear hV
      have hc0 : ¬ ((code s a : Nat) : Int) = 0 := by omega
      have hc1 : (((code s a : Nat) : Int) == 0) = false := by simp; omega
      generalize ((code s a : Nat) : Int) = k at hc0 hc1 hF
      replace hc := Lib.hid hc
      replace hend := Lib.hid hend
      go_wp2_with (first
        | (go_at_call 58; (with_reducible refine hF.mono ?_); rintro e w' ⟨rfl, ey, rfl⟩)
        | fail)
      have he := hend.out
      refine bodyPost_ret (v := .tuple #[u4, .int .i64 a]) (by simp [results, Tryz.results20, go_sem]) rfl ⟨u4, by rw [he], by rw [he]; exact hown.plus _, Plus.plus hp _⟩
end Go.Proofs.YtpdlgflbcgemnaaGreatDoor.Frm
-- Back
/- frames laid end to end read back, cut anywhere: plain laws. -/
set_option linter.unusedSimpArgs false
set_option linter.unusedVariables false
namespace Go.Proofs.YtpdlgflbcgemnaaGreatDoor.Frm
open Go.Crc hiding step
theorem ofNat_inj {m n : Nat} (h : UInt8.ofNat m = UInt8.ofNat n) : m % 256 = n % 256 := by
  have := congrArg UInt8.toNat h
  simpa using this
theorem big_inj : ∀ (k m n : Nat), m < 256 ^ k → n < 256 ^ k → big m k = big n k → m = n
  | 0, m, n, hm, hn, _ => by simp at hm hn; omega
  | k + 1, m, n, hm, hn, h => by
    simp only [big] at h
    have h1 := List.append_inj' h rfl
    have h2 := big_inj k (m / 256) (n / 256) (by rw [Nat.pow_succ] at hm; omega) (by rw [Nat.pow_succ] at hn; omega) h1.1
    have h3 := ofNat_inj (List.cons.inj h1.2).1
    omega
theorem framed_length (l : List UInt8) : (framed l).length = 7 + l.length := by
  unfold framed headed
  simp [big_length]; omega
theorem num_lt (s : ByteArray) (a : Nat) : num s a < 16777216 := by
  have h0 := at8_lt s a
  have h1 := at8_lt s (a + 1)
  have h2 := at8_lt s (a + 2)
  unfold num; omega
theorem part_txt (L : List UInt8) (a n : Nat) : part (txt L) a n = (L.drop a).take n := rfl
/-- where a whole frame lies, it is read -/
theorem num_head {s : ByteArray} {a n : Nat} (h3 : a + 3 ≤ s.size) (hn : n < 16777216) (h : part s a 3 = big n 3) : num s a = n := by
  rw [part_three s a h3] at h
  exact big_inj 3 _ _ (num_lt s a) hn h
theorem code_frame {s : ByteArray} {a : Nat} (l : List UInt8) (hl : l.length ≤ 65536) (hs : a + (7 + l.length) ≤ s.size) (h : part s a (7 + l.length) = framed l) :
    num s a = l.length ∧ code s a = 0 ∧ part s (a + 3) l.length = l := by
  have e : framed l = big l.length 3 ++ (l ++ big (sum (headed l)) 4) := by unfold framed; rw [show headed l = big l.length 3 ++ l from rfl, List.append_assoc]
  have h3 : part s a 3 = big l.length 3 ∧ part s (a + 3) (l.length + 4) = l ++ big (sum (headed l)) 4 := by
    rw [show 7 + l.length = 3 + (l.length + 4) by omega, part_split, e] at h
    exact List.append_inj h (by rw [part_length s _ _ (by omega), big_length])
  have hn := num_head (by omega) (by omega) h3.1
  have h4 : part s (a + 3) l.length = l ∧ part s (a + 3 + l.length) 4 = big (sum (headed l)) 4 := by
    have h5 := h3.2
    rw [part_split] at h5
    exact List.append_inj h5 (by rw [part_length s _ _ (by omega)])
  refine ⟨hn, ?_, h4.1⟩
  have hp : part s a (3 + l.length) = headed l := by rw [part_split, h3.1, h4.1]; rfl
  unfold code
  rw [hn, if_neg (by omega), if_neg (by omega), if_neg (by omega), hp, if_pos h4.2.symm]
def frames (l : List ByteArray) : List UInt8 := l.flatMap fun y => framed (bytes y)
theorem frames_append (l m : List ByteArray) : frames (l ++ m) = frames l ++ frames m := List.flatMap_append
theorem frames_cons (y : ByteArray) (l : List ByteArray) : frames (y :: l) = framed (bytes y) ++ frames l := List.flatMap_cons
def fend (l : List ByteArray) (j : Nat) : Nat := (frames (l.take j)).length
theorem frames_split (l : List ByteArray) (j : Nat) : frames l = frames (l.take j) ++ frames (l.drop j) := by rw [← frames_append, List.take_append_drop]
theorem frames_at (l : List ByteArray) (j : Nat) (h : j < l.length) : (frames l).drop (fend l j) = framed (bytes (l.getD j ByteArray.empty)) ++ frames (l.drop (j + 1)) := by
  have e : (frames l).drop (fend l j) = frames (l.drop j) := by
    conv => lhs; rw [frames_split l j]
    exact List.drop_left
  rw [e, List.drop_eq_getElem_cons h, frames_cons]
  simp [List.getD, h]
theorem take_next (l : List ByteArray) (j : Nat) (h : j < l.length) : l.take (j + 1) = l.take j ++ [l.getD j ByteArray.empty] := by
  rw [List.take_add_one, List.getElem?_eq_getElem h]
  simp [List.getD, h]
theorem fend_next (l : List ByteArray) (j : Nat) (h : j < l.length) : fend l (j + 1) = fend l j + (7 + (l.getD j ByteArray.empty).size) := by
  unfold fend
  rw [take_next l j h, frames_append, List.length_append, frames_cons, List.length_append, framed_length, bytes_length]
  simp [frames]
theorem fend_all (l : List ByteArray) : fend l l.length = (frames l).length := by unfold fend; rw [List.take_length]
theorem fend_le (l : List ByteArray) (j : Nat) : fend l j ≤ (frames l).length := by
  rw [frames_split l j, List.length_append]; exact Nat.le_add_right _ _
theorem take_drop_take (F : List UInt8) (cut a m : Nat) (h : a + m ≤ cut) : ((F.take cut).drop a).take m = (F.drop a).take m := by
  rw [List.drop_take, List.take_take, Nat.min_eq_left (by omega)]
section
variable {l : List ByteArray} {cut : Nat}
theorem back_rel (hsm : ∀ k, (l.getD k ByteArray.empty).size ≤ 65536) (hcut : cut ≤ (frames l).length) :
    ∀ j, j ≤ l.length → fend l j ≤ cut → AllRel (txt ((frames l).take cut)) (l.take j) (fend l j)
  | 0, _, _ => by
    have : fend l 0 = 0 := by unfold fend; simp [frames]
    rw [this]
    exact AllRel.start _
  | j + 1, hj, hc => by
    have hf := fend_next l j hj
    have ih := back_rel hsm hcut j (by omega) (by omega)
    have hsz : (txt ((frames l).take cut)).size = cut := by rw [txt_size, List.length_take, Nat.min_eq_left hcut]
    have hb := bytes_length (l.getD j ByteArray.empty)
    have hk := hsm j
    have hcf := code_frame (s := txt ((frames l).take cut)) (a := fend l j) (bytes (l.getD j ByteArray.empty)) (by omega) (by omega) (by
      rw [part_txt, take_drop_take _ _ _ _ (by omega), frames_at l j hj, List.take_append_of_le_length (by rw [framed_length]; omega)]
      exact List.take_of_length_le (by rw [framed_length]; omega))
    have hn := ih.next hcf.2.1
    rw [hcf.1, hcf.2.2, txt_bytes, ← take_next l j hj] at hn
    rw [hf, ← hb]
    rw [Nat.add_assoc] at hn
    exact hn
theorem back_all (hsm : ∀ k, (l.getD k ByteArray.empty).size ≤ 65536) (hcut : cut ≤ (frames l).length) {j : Nat} (hj : j ≤ l.length) (hle : fend l j ≤ cut) (hst : j = l.length ∨ cut < fend l (j + 1)) :
    allOf (txt ((frames l).take cut)) 0 = (l.take j, fend l j) := by
  refine (back_rel hsm hcut j hj hle).stop ?_
  have hsz : (txt ((frames l).take cut)).size = cut := by rw [txt_size, List.length_take, Nat.min_eq_left hcut]
  intro h0
  have hz := code_zero h0
  rw [hsz] at hz
  rcases Nat.lt_or_ge j l.length with hlt | hge
  · have hf := fend_next l j hlt
    have hc : cut < fend l (j + 1) := hst.resolve_left (by omega)
    have hk := hsm j
    have h3 : part (txt ((frames l).take cut)) (fend l j) 3 = big (l.getD j ByteArray.empty).size 3 := by
      rw [part_txt, take_drop_take _ _ _ _ (by omega), frames_at l j hlt]
      unfold framed headed
      rw [List.append_assoc, List.append_assoc, List.take_append_of_le_length (by rw [big_length]; exact Nat.le_refl _), bytes_length]
      exact List.take_of_length_le (by rw [big_length]; exact Nat.le_refl _)
    have := num_head (by rw [hsz]; omega) (by omega) h3
    omega
  · obtain rfl : j = l.length := by omega
    rw [fend_all] at hz
    omega
theorem back_whole (hsm : ∀ k, (l.getD k ByteArray.empty).size ≤ 65536) : allOf (txt (frames l)) 0 = (l, (frames l).length) := by
  have := back_all (cut := (frames l).length) hsm (Nat.le_refl _) (Nat.le_refl _) (by rw [fend_all]; exact Nat.le_refl _) (.inl rfl)
  rwa [List.take_length, List.take_length, fend_all] at this
end
end Go.Proofs.YtpdlgflbcgemnaaGreatDoor.Frm
