/- The sum of bytes by half bytes and by bits: plain laws, no program in sight. -/
import Derived.Below
set_option linter.unusedSimpArgs false
set_option linter.unusedVariables false
namespace Go.Crc
def table : List Nat := [0, 498536548, 997073096, 651767980, 1994146192, 1802195444, 1303535960, 1342533948, 3988292384, 4027552580, 3604390888, 3412177804, 2607071920, 2262029012, 2685067896, 3183342108]
def nib (n : Nat) : Nat := table.getD n 0
def half (c : Nat) : Nat := (c / 16) ^^^ nib (c % 16)
def step (c b : Nat) : Nat := half (half (c ^^^ b))
def run (c : Nat) (l : List UInt8) : Nat := l.foldl (fun c b => step c b.toNat) c
def sum (l : List UInt8) : Nat := 4294967295 - run 4294967295 l
def bit (c : Nat) : Nat := if c % 2 = 1 then (c / 2) ^^^ 3988292384 else c / 2

theorem xor_lt {a b : Nat} (ha : a < 4294967296) (hb : b < 4294967296) : a ^^^ b < 4294967296 := Nat.xor_lt_two_pow (n := 32) ha hb
theorem nib_lt {n : Nat} (h : n < 16) : nib n < 4294967296 := by
  have : ∀ n : Fin 16, nib n.val < 4294967296 := by decide
  exact this ⟨n, h⟩
theorem half_lt {c : Nat} (h : c < 4294967296) : half c < 4294967296 := xor_lt (by omega) (nib_lt (Nat.mod_lt _ (by omega)))
theorem step_lt {c b : Nat} (h : c < 4294967296) (hb : b < 4294967296) : step c b < 4294967296 := half_lt (half_lt (xor_lt h hb))
theorem u8_lt (b : UInt8) : b.toNat < 4294967296 := by have := b.toNat_lt; omega
theorem run_lt : ∀ (l : List UInt8) {c : Nat}, c < 4294967296 → run c l < 4294967296
  | [], _, h => h
  | b :: l, _, h => run_lt l (step_lt h (u8_lt b))
theorem run_append (c : Nat) (l m : List UInt8) : run c (l ++ m) = run (run c l) m := List.foldl_append
theorem run_snoc (c : Nat) (l : List UInt8) (b : UInt8) : run c (l ++ [b]) = step (run c l) b.toNat := by rw [run_append]; rfl
theorem sum_lt (l : List UInt8) : sum l < 4294967296 := by unfold sum; omega

theorem bit_xor (a b : Nat) : bit (a ^^^ b) = bit a ^^^ bit b := by
  unfold bit
  have hd : (a ^^^ b) / 2 = (a / 2) ^^^ (b / 2) := by simpa using Nat.xor_div_two_pow (a := a) (b := b) (n := 1)
  have hm : (a ^^^ b) % 2 = (a % 2) ^^^ (b % 2) := by simpa using Nat.xor_mod_two_pow (a := a) (b := b) (n := 1)
  rw [hd, hm]
  rcases Nat.mod_two_eq_zero_or_one a with ha | ha <;> rcases Nat.mod_two_eq_zero_or_one b with hb | hb
  · simp [ha, hb]
  · simp [ha, hb, Nat.xor_assoc]
  · simp only [ha, hb]; simp [Nat.xor_assoc]; rw [Nat.xor_comm (b / 2)]
  · simp only [ha, hb]; simp
    rw [Nat.xor_assoc, ← Nat.xor_assoc 3988292384, Nat.xor_comm 3988292384 (b / 2), Nat.xor_assoc (b / 2), Nat.xor_self, Nat.xor_zero]
theorem split16 (c : Nat) : (16 * (c / 16)) ^^^ (c % 16) = c := by
  apply Nat.eq_of_testBit_eq
  intro i
  rw [Nat.testBit_xor, show (16 : Nat) = 2 ^ 4 from rfl, Nat.testBit_two_pow_mul, Nat.testBit_mod_two_pow, Nat.testBit_div_two_pow]
  by_cases h : i < 4
  · simp [h, show ¬ 4 ≤ i by omega]
  · simp [h, show 4 ≤ i by omega, show i - 4 + 4 = i by omega, show 4 + (i - 4) = i by omega]
theorem bit_even (q : Nat) : bit (2 * q) = q := by unfold bit; rw [if_neg (by omega)]; omega
theorem bit4_small {r : Nat} (h : r < 16) : bit (bit (bit (bit r))) = nib r := by
  have : ∀ n : Fin 16, bit (bit (bit (bit n.val))) = nib n.val := by decide
  exact this ⟨r, h⟩
theorem half_bits (c : Nat) : half c = bit (bit (bit (bit c))) := by
  conv => rhs; rw [← split16 c]
  simp only [bit_xor]
  rw [show 16 * (c / 16) = 2 * (2 * (2 * (2 * (c / 16)))) by omega, bit_even, bit_even, bit_even, bit_even, bit4_small (Nat.mod_lt _ (by omega))]
  rfl
/-- n bits -/
def bitn : Nat → Nat → Nat
  | 0, c => c
  | n + 1, c => bit (bitn n c)
theorem step_bits (c b : Nat) : step c b = bitn 8 (c ^^^ b) := by
  unfold step
  rw [half_bits, half_bits]
  rfl
theorem bit_lt {c : Nat} (h : c < 4294967296) : bit c < 4294967296 := by
  unfold bit
  split
  · exact xor_lt (by omega) (by omega)
  · omega
theorem bitn_lt (n : Nat) {c : Nat} (h : c < 4294967296) : bitn n c < 4294967296 := by
  induction n with
  | zero => exact h
  | succ n ih => exact bit_lt ih

/-! ### turned bytes are told -/
theorem bit_zero {c : Nat} (hc : c < 4294967296) (h : bit c = 0) : c = 0 := by
  unfold bit at h
  split at h
  · have h2 : c / 2 = 3988292384 := by
      have := congrArg (· ^^^ 3988292384) h
      simpa [Nat.xor_assoc] using this
    omega
  · omega
theorem half_zero {c : Nat} (hc : c < 4294967296) (h : half c = 0) : c = 0 := by
  rw [half_bits] at h
  exact bit_zero hc (bit_zero (bit_lt hc) (bit_zero (bit_lt (bit_lt hc)) (bit_zero (bit_lt (bit_lt (bit_lt hc))) h)))
theorem half_xor (a b : Nat) : half (a ^^^ b) = half a ^^^ half b := by simp only [half_bits, bit_xor]
theorem xor_zero_eq {a b : Nat} (h : a ^^^ b = 0) : a = b := by
  have := congrArg (· ^^^ b) h
  simpa [Nat.xor_assoc] using this
theorem half_inj {a b : Nat} (ha : a < 4294967296) (hb : b < 4294967296) (h : half a = half b) : a = b :=
  xor_zero_eq (half_zero (xor_lt ha hb) (by rw [half_xor, h, Nat.xor_self]))
theorem step_inj {a b x : Nat} (ha : a < 4294967296) (hb : b < 4294967296) (hx : x < 4294967296) (h : step a x = step b x) : a = b := by
  have h1 := half_inj (xor_lt ha hx) (xor_lt hb hx) (half_inj (half_lt (xor_lt ha hx)) (half_lt (xor_lt hb hx)) h)
  have := congrArg (· ^^^ x) h1
  simpa [Nat.xor_assoc] using this
theorem run_inj : ∀ (l : List UInt8) {a b : Nat}, a < 4294967296 → b < 4294967296 → run a l = run b l → a = b
  | [], _, _, _, _, h => h
  | x :: l, _, _, ha, hb, h => step_inj ha hb (u8_lt x) (run_inj l (step_lt ha (u8_lt x)) (step_lt hb (u8_lt x)) h)
/-- the difference of two registers behind one byte more -/
def dstep (d e : Nat) : Nat := half (half (d ^^^ e))
theorem step_diff (a b x y : Nat) : step a x ^^^ step b y = dstep (a ^^^ b) (x ^^^ y) := by
  unfold step dstep
  rw [← half_xor, ← half_xor]
  congr 2
  rw [Nat.xor_assoc, Nat.xor_assoc]
  congr 1
  rw [← Nat.xor_assoc, ← Nat.xor_assoc, Nat.xor_comm x b]
theorem half_shift {x : Nat} : half (16 * x) = x := by
  rw [half_bits, show 16 * x = 2 * (2 * (2 * (2 * x))) by omega, bit_even, bit_even, bit_even, bit_even]
theorem half2_eq {y v : Nat} (hy : y < 4294967296) (hv : v < 16777216) (h : half (half y) = v) : y = 256 * v := by
  have h1 : half (half (256 * v)) = v := by rw [show 256 * v = 16 * (16 * v) by omega, half_shift, half_shift]
  exact half_inj hy (by omega) (half_inj (half_lt hy) (half_lt (by omega)) (h.trans h1.symm))
theorem xor_byte {d e v : Nat} (he : e < 256) (h : d ^^^ e = 256 * v) : d = 256 * v + e := by
  have h1 : d = (256 * v) ^^^ e := by
    have := congrArg (· ^^^ e) h
    simpa [Nat.xor_assoc] using this
  rw [h1]
  have h2 := split256 v e he
  exact h2
where
  split256 (v e : Nat) (he : e < 256) : (256 * v) ^^^ e = 256 * v + e := by
    apply Nat.eq_of_testBit_eq
    intro i
    rw [Nat.testBit_xor, show (256 : Nat) = 2 ^ 8 from rfl, Nat.testBit_two_pow_mul, Nat.testBit_two_pow_mul_add _ he]
    by_cases h : i < 8
    · simp [h, show ¬ 8 ≤ i by omega]
    · rw [if_neg h]
      simp [show 8 ≤ i by omega, Nat.testBit_lt_two_pow (show e < 2 ^ i from Nat.lt_of_lt_of_le he (Nat.pow_le_pow_right (n := 2) (by omega) (show 8 ≤ i by omega)))]
/-- up to four neighbouring bytes that differ from the same register on leave the same register only if none differs -/
theorem four {e0 e1 e2 e3 : Nat} (h0 : e0 < 256) (h1 : e1 < 256) (h2 : e2 < 256) (h3 : e3 < 256)
    (h : dstep (dstep (dstep (dstep 0 e0) e1) e2) e3 = 0) : e0 = 0 ∧ e1 = 0 ∧ e2 = 0 ∧ e3 = 0 := by
  unfold dstep at h
  rw [Nat.zero_xor] at h
  have b0 : half (half e0) < 4294967296 := half_lt (half_lt (by omega))
  have b1 : half (half (half (half e0) ^^^ e1)) < 4294967296 := half_lt (half_lt (xor_lt b0 (by omega)))
  have b2 : half (half (half (half (half (half e0) ^^^ e1)) ^^^ e2)) < 4294967296 := half_lt (half_lt (xor_lt b1 (by omega)))
  have k3 := half2_eq (xor_lt b2 (by omega)) (by omega) h
  have k3' := xor_byte h3 k3
  have k2 := half2_eq (xor_lt b1 (by omega)) (by omega) k3'
  have k2' := xor_byte h2 k2
  have k1 := half2_eq (xor_lt b0 (by omega)) (by omega) k2'
  have k1' := xor_byte h1 k1
  have k0 := half2_eq (by omega) (by omega) k1'
  omega
end Go.Crc
