/- buffer: masks of any number: plain laws. -/
import Derived.Test.YtjfjecjigakdnaaArP
import Derived.Laws.BitsLemmas
set_option linter.unusedSimpArgs false
set_option linter.unusedVariables false
namespace Go.Proofs.Ytjfjecjigakdnaa
open Go.RowKit
theorem lsb_ofInt (m : Int) (j : Nat) : (BitVec.ofInt 64 m).getLsbD j = decide ((m % 18446744073709551616).toNat / 2 ^ j % 2 = 1) := by
  unfold BitVec.getLsbD
  rw [Nat.testBit_eq_decide_div_mod_eq, BitVec.toNat_ofInt]
  rfl
theorem and_two (m p : Int) (j : Nat) (hp : p = ((2 ^ j : Nat) : Int)) (hj : j ≤ 4) : bits .and .i64 m p = if (m % 18446744073709551616).toNat / 2 ^ j % 2 = 1 then p else 0 := by
  have e1 : BitVec.ofInt 64 p = BitVec.twoPow 64 j := by
    rw [hp]
    rcases (by omega : j = 0 ∨ j = 1 ∨ j = 2 ∨ j = 3 ∨ j = 4) with rfl | rfl | rfl | rfl | rfl <;> rfl
  have e2 : bits .and .i64 m p = IntKind.i64.wrap ((BitVec.ofInt 64 m &&& BitVec.twoPow 64 j).toNat : Nat) := by
    rw [← e1]
    rfl
  rw [e2, BitVec.and_twoPow, lsb_ofInt]
  by_cases h : (m % 18446744073709551616).toNat / 2 ^ j % 2 = 1
  · rw [if_pos h, if_pos (by simpa using h), hp]
    rcases (by omega : j = 0 ∨ j = 1 ∨ j = 2 ∨ j = 3 ∨ j = 4) with rfl | rfl | rfl | rfl | rfl <;> rfl
  · rw [if_neg h, if_neg (by simpa using h)]
    rfl
theorem and_bitZ (m : Int) {p : Int} (hp : p = 1 ∨ p = 2 ∨ p = 4 ∨ p = 8 ∨ p = 16) : (bits .and .i64 m p == p) = bitB m p := by
  have key : ∀ j : Nat, j ≤ 4 → p = ((2 ^ j : Nat) : Int) → ((m % 18446744073709551616).toNat / 2 ^ j % 2 = 1 ↔ m / p % 2 = 1) → (bits .and .i64 m p == p) = bitB m p := fun j hj he hi => by
    rw [and_two m p j he hj]
    unfold bitB
    by_cases h : (m % 18446744073709551616).toNat / 2 ^ j % 2 = 1
    · rw [if_pos h, decide_eq_true (hi.1 h)]
      simp
    · rw [if_neg h, decide_eq_false (fun x => h (hi.2 x))]
      simp
      omega
  rcases hp with h | h | h | h | h
  · exact key 0 (by omega) h (by subst h; simp only [Nat.pow_zero]; omega)
  · exact key 1 (by omega) h (by subst h; simp only [Nat.pow_one]; omega)
  · exact key 2 (by omega) h (by subst h; rw [show 2 ^ 2 = 4 from rfl]; omega)
  · exact key 3 (by omega) h (by subst h; rw [show 2 ^ 3 = 8 from rfl]; omega)
  · exact key 4 (by omega) h (by subst h; rw [show 2 ^ 4 = 16 from rfl]; omega)
/-- without: as the code and as the reference say it -/
theorem wrap_ofInt (n : Nat) : BitVec.ofInt 64 (IntKind.i64.wrap n) = BitVec.ofNat 64 n := by
  apply BitVec.eq_of_toNat_eq
  rw [BitVec.toNat_ofInt, BitVec.toNat_ofNat]
  rw [IntKind.wrap_i64]
  omega
theorem split_and (X Y : BitVec 64) (h : X.toNat ≤ 31) : ((X ||| Y) &&& ~~~Y).toNat + (X &&& Y).toNat = X.toNat ∧ (X &&& Y).toNat ≤ X.toNat := by
  have e1 : (X ||| Y) &&& ~~~Y = X &&& ~~~Y := by
    apply BitVec.eq_of_getLsbD_eq
    intro i hi
    simp [hi]
    cases X[i] <;> cases Y[i] <;> rfl
  have e2 : (X &&& ~~~Y) &&& (X &&& Y) = 0#64 := by
    apply BitVec.eq_of_getLsbD_eq
    intro i hi
    simp [hi]
    cases X[i] <;> cases Y[i] <;> simp
  have e3 : (X &&& ~~~Y) ||| (X &&& Y) = X := by
    apply BitVec.eq_of_getLsbD_eq
    intro i hi
    simp [hi]
    cases X[i] <;> cases Y[i] <;> rfl
  have e4 : (X &&& ~~~Y) + (X &&& Y) = X := by rw [BitVec.add_eq_or_of_and_eq_zero _ _ e2, e3]
  have l1 : (X &&& Y).toNat ≤ X.toNat := by rw [BitVec.toNat_and]; exact Nat.and_le_left
  have l2 : (X &&& ~~~Y).toNat ≤ X.toNat := by rw [BitVec.toNat_and]; exact Nat.and_le_left
  have e5 := congrArg BitVec.toNat e4
  rw [BitVec.toNat_add] at e5
  rw [e1]
  omega
theorem wrap_small (n : Nat) (h : n ≤ 31) : IntKind.i64.wrap (n : Int) = n := by
  rw [IntKind.wrap_i64]
  omega
theorem without_mask {b : Int} (h0 : 0 ≤ b) (h1 : b ≤ 31) (m : Int) : bits .andNot .i64 (bits .or .i64 b m) m = b - bits .and .i64 b m ∧ 0 ≤ bits .and .i64 b m ∧ bits .and .i64 b m ≤ b := by
  have e1 : bits .andNot .i64 (bits .or .i64 b m) m = IntKind.i64.wrap ((BitVec.ofInt 64 (IntKind.i64.wrap ((BitVec.ofInt 64 b ||| BitVec.ofInt 64 m).toNat : Nat)) &&& ~~~ BitVec.ofInt 64 m).toNat : Nat) := rfl
  rw [wrap_ofInt, BitVec.ofNat_toNat, BitVec.setWidth_eq] at e1
  have e2 : bits .and .i64 b m = IntKind.i64.wrap ((BitVec.ofInt 64 b &&& BitVec.ofInt 64 m).toNat : Nat) := rfl
  have hx : (BitVec.ofInt 64 b).toNat = b.toNat := by rw [BitVec.toNat_ofInt]; omega
  obtain ⟨h2, h3⟩ := split_and (BitVec.ofInt 64 b) (BitVec.ofInt 64 m) (by omega)
  rw [e1, e2, wrap_small _ (by omega), wrap_small _ (by omega)]
  omega
end Go.Proofs.Ytjfjecjigakdnaa
