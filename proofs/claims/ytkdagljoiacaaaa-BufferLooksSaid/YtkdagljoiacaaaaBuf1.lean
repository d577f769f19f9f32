/- buffer: has a mask of any number a component: walk. -/
import Derived.Test.YtkdagljoiacaaaaAr1
import Derived.Test.YtkdagljoiacaaaaBufQ
set_option linter.unusedSimpArgs false
set_option linter.unusedVariables false
namespace Go.Proofs.Ytkdagljoiacaaaa
open Go.RowKit
theorem has_Z (b : BdR) (p : Int) (w : World) (hp : p = 1 ∨ p = 2 ∨ p = 4 ∨ p = 8 ∨ p = 16) : Calls Try.prog 53 #[b.v, nI p] w fun e w' => e = .returned (.bool (bitB b.mask p)) ∧ w.Plus w' := by
  have hb := and_bitZ b.mask hp
  go_enter Try.func53, Try.ntmps53
  go_wp2
  go_ret
  exact ⟨rfl, by (repeat (first | exact Plus.refl _ | apply Plus.plus | apply Plus.alloc | apply Plus.drew))⟩
theorem tdiv_even {n : Int} (h : n % 2 = 0) : n.tdiv 2 = n / 2 := by
  rw [Int.tdiv_eq_ediv, if_pos (.inr (by omega)), Int.add_zero]
theorem tmod_two (n : Int) (h : n < 0) : n.tmod 2 = - (n % 2) := by
  have h2 := Int.mul_tdiv_add_tmod n 2
  rw [Int.tdiv_eq_ediv] at h2
  by_cases h3 : n % 2 = 0
  · rw [if_pos (.inr (by omega))] at h2
    omega
  · rw [if_neg (by omega)] at h2
    rw [show Int.sign 2 = 1 from rfl] at h2
    omega
theorem half_Z (m : Int) (w : World) (h : -9223372036854775808 ≤ m) (h2 : m ≤ 9223372036854775807) : Calls Try.prog 59 #[nI m] w fun e w' => e = .returned (nI (m / 2)) ∧ w.Plus w' := by
  by_cases h0 : m < 0
  · have ht := tmod_two m h0
    by_cases ho : m % 2 = 0
    · have hq := tdiv_even ho
      have ho2 : m.tmod 2 = 0 := by omega
      clear ht
      replace ho := Lib.hid ho
      go_enter Try.func59, Try.ntmps59
      go_wp2
      go_ret
      exact ⟨by simp [hq], by (repeat (first | exact Plus.refl _ | apply Plus.plus | apply Plus.alloc | apply Plus.drew))⟩
    · have hq : (m - 1).tdiv 2 = m / 2 := by rw [tdiv_even (by omega)]; omega
      have ho2 : m.tmod 2 = -1 := by omega
      have h3 : -9223372036854775807 ≤ m := by omega
      clear ht h
      replace ho := Lib.hid ho
      go_enter Try.func59, Try.ntmps59
      go_wp2
      go_ret
      exact ⟨by simp [hq], by (repeat (first | exact Plus.refl _ | apply Plus.plus | apply Plus.alloc | apply Plus.drew))⟩
  · have hq : m.tdiv 2 = m / 2 := Int.tdiv_eq_ediv_of_nonneg (by omega)
    go_enter Try.func59, Try.ntmps59
    go_wp2
    go_ret
    exact ⟨by simp [hq], by (repeat (first | exact Plus.refl _ | apply Plus.plus | apply Plus.alloc | apply Plus.drew))⟩
theorem bitZ_half {m p : Int} (hp : p = 2 ∨ p = 4 ∨ p = 8 ∨ p = 16) : bitB (m / 2) (p / 2) = bitB m p := by
  unfold bitB
  have : m / 2 / (p / 2) = m / p := by
    rw [Int.ediv_ediv_of_nonneg (by omega)]
    rcases hp with rfl | rfl | rfl | rfl <;> rfl
  rw [this]
theorem bit_Z (m p : Int) (w : World) (h0 : -9223372036854775808 ≤ m) (h1 : m ≤ 9223372036854775807) (hp : p = 1 ∨ p = 2 ∨ p = 4 ∨ p = 8 ∨ p = 16) : Calls Try.prog 47 #[nI m, nI p] w fun e w' => e = .returned (.bool (bitB m p)) ∧ w.Plus w' := by
  obtain ⟨B, hB⟩ : ∃ B, B = bitB m p := ⟨_, rfl⟩
  rw [← hB]
  go_enter Try.func47, Try.ntmps47
  go_wp2
  go_loopw [0, 1] (fun v c wr => ∃ (m p : Int), v = nI m ∧ c = nI p ∧ -9223372036854775808 ≤ m ∧ m ≤ 9223372036854775807 ∧ (p = 1 ∨ p = 2 ∨ p = 4 ∨ p = 8 ∨ p = 16) ∧ B = bitB m p ∧ w.Plus wr) (fun _ c _ => (intOf c).toNat)
  case atStart => exact ⟨m, p, rfl, rfl, h0, h1, hp, hB, by (repeat (first | exact Plus.refl _ | apply Plus.plus | apply Plus.alloc | apply Plus.drew))⟩
  case round =>
    clear h0 h1 hp hB m p
    obtain ⟨m, p, rfl, rfl, h0, h1, hp, hB, e, rfl⟩ := hrel
    by_cases h : p = 1
    · subst h
      have hB2 : B = (m.tmod 2 != 0) := by
        rw [hB, bitB_one]
        by_cases hn : m < 0
        · rw [tmod_two m hn]
          rcases (by omega : m % 2 = 0 ∨ m % 2 = 1) with h | h <;> rw [h] <;> rfl
        · rw [Int.tmod_eq_emod_of_nonneg (by omega)]
          rcases (by omega : m % 2 = 0 ∨ m % 2 = 1) with h | h <;> rw [h] <;> rfl
      clear hB
      replace hB2 := Lib.hid hB2
      go_wp2
      go_ret
      refine ⟨?_, by (repeat (first | exact Plus.refl _ | apply Plus.plus | apply Plus.alloc | apply Plus.drew))⟩
      rw [hB2.out]
      rfl
    · have hp' : p = 2 ∨ p = 4 ∨ p = 8 ∨ p = 16 := hp.resolve_left h
      have h1p : 1 < p := by omega
      have hq : p.tdiv 2 = p / 2 := Int.tdiv_eq_ediv_of_nonneg (by omega)
      have hw6 : wrap64 (p / 2) = p / 2 := w64_id (by omega) (by omega)
      rw [← bitZ_half hp'] at hB
      have hp2 := Lib.hid (show p / 2 = 1 ∨ p / 2 = 2 ∨ p / 2 = 4 ∨ p / 2 = 8 ∨ p / 2 = 16 by rcases hp' with rfl | rfl | rfl | rfl <;> simp)
      replace hp := Lib.hid hp
      replace hp' := Lib.hid hp'
      replace hB := Lib.hid hB
      replace h := Lib.hid h
      go_wp2_with (first | (go_at_call 59; (with_reducible refine (half_Z _ _ (by omega) (by omega)).mono ?_); rintro e w' ⟨rfl, ey, rfl⟩))
      go_roundw
      case rel => exact ⟨m / 2, p / 2, rfl, by rw [hw6], by omega, by omega, hp2.out, hB.out, by (repeat (first | exact Plus.refl _ | apply Plus.plus | apply Plus.alloc | apply Plus.drew))⟩
      case measure => rw [hw6]; simp [intOf]; omega
end Go.Proofs.Ytkdagljoiacaaaa
