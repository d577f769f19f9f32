/- arch: which entities may be, in the code and in the reference: walk. -/
import Derived.Test.YtjfjecjigakdnaaChecked
import Derived.Test.YtjfjecjigakdnaaGd
import Derived.Deep.CutBlock
import Derived.Deep.RegionHeld3
import Derived.Deep.RegionLaw
import Derived.Deep.DeepCutAuto
set_option linter.unusedSimpArgs false
set_option linter.unusedVariables false
namespace Go.Proofs.Ytjfjecjigakdnaa
open Go.RowKit
theorem within_any (has : Bool) (n lo hi : Int) (w : World) : Calls Try.prog 81 #[.bool has, nI n, nI lo, nI hi] w fun e w' => e = .returned (.bool (withinB has n lo hi)) ∧ w.Plus w' := by
  cases has
  · go_enter Try.func81, Try.ntmps81
    go_wp2
    go_ret
    exact ⟨by simp [withinB, Bool.beq_eq_decide_eq], by (repeat (first | exact Plus.refl _ | apply Plus.plus | apply Plus.alloc | apply Plus.drew))⟩
  · by_cases h : lo ≤ n
    · go_enter Try.func81, Try.ntmps81
      go_wp2
      go_ret
      exact ⟨by simp [withinB, h], by (repeat (first | exact Plus.refl _ | apply Plus.plus | apply Plus.alloc | apply Plus.drew))⟩
    · go_enter Try.func81, Try.ntmps81
      go_wp2
      go_ret
      exact ⟨by unfold withinB; rw [if_pos rfl, decide_eq_false (show ¬ lo ≤ n by omega)]; rfl, by (repeat (first | exact Plus.refl _ | apply Plus.plus | apply Plus.alloc | apply Plus.drew))⟩
theorem in_any (has : Bool) (n lo hi : Int) (w : World) : Calls Try.prog 98 #[nI n, nI lo, nI hi, .bool has] w fun e w' => e = .returned (.bool (withinB has n lo hi)) ∧ w.Plus w' := by
  cases has
  · go_enter Try.func98, Try.ntmps98
    go_wp2
    go_ret
    exact ⟨by simp [withinB, Bool.beq_eq_decide_eq], by (repeat (first | exact Plus.refl _ | apply Plus.plus | apply Plus.alloc | apply Plus.drew))⟩
  · by_cases h : lo ≤ n
    · go_enter Try.func98, Try.ntmps98
      go_wp2
      go_ret
      exact ⟨by simp [withinB, h], by (repeat (first | exact Plus.refl _ | apply Plus.plus | apply Plus.alloc | apply Plus.drew))⟩
    · go_enter Try.func98, Try.ntmps98
      go_wp2
      go_ret
      exact ⟨by unfold withinB; rw [if_pos rfl, decide_eq_false (show ¬ lo ≤ n by omega)]; rfl, by (repeat (first | exact Plus.refl _ | apply Plus.plus | apply Plus.alloc | apply Plus.drew))⟩
theorem has_any (b : BdR) (p : Int) (w : World) (hm : 0 ≤ b.mask ∧ b.mask ≤ 31) (hp : p = 1 ∨ p = 2 ∨ p = 4 ∨ p = 8 ∨ p = 16) : Calls Try.prog 86 #[b.v, nI p] w fun e w' => e = .returned (.bool (bitB b.mask p)) ∧ w.Plus w' := by
  have hb := and_bit hm.1 hm.2 hp
  go_enter Try.func86, Try.ntmps86
  go_wp2
  go_ret
  exact ⟨rfl, by (repeat (first | exact Plus.refl _ | apply Plus.plus | apply Plus.alloc | apply Plus.drew))⟩
theorem half_any (m : Int) (w : World) (h : 0 ≤ m) (h2 : m ≤ 1000) : Calls Try.prog 99 #[nI m] w fun e w' => e = .returned (nI (m / 2)) ∧ w.Plus w' := by
  have h0 : ¬ m < 0 := by omega
  have hq : m.tdiv 2 = m / 2 := Int.tdiv_eq_ediv_of_nonneg h
  go_enter Try.func99, Try.ntmps99
  go_wp2
  go_ret
  exact ⟨by simp [hq], by (repeat (first | exact Plus.refl _ | apply Plus.plus | apply Plus.alloc | apply Plus.drew))⟩
theorem bit_any (m p : Int) (w : World) (h0 : 0 ≤ m) (h1 : m ≤ 31) (hp : p = 1 ∨ p = 2 ∨ p = 4 ∨ p = 8 ∨ p = 16) : Calls Try.prog 89 #[nI m, nI p] w fun e w' => e = .returned (.bool (bitB m p)) ∧ w.Plus w' := by
  obtain ⟨B, hB⟩ : ∃ B, B = bitB m p := ⟨_, rfl⟩
  rw [← hB]
  go_enter Try.func89, Try.ntmps89
  go_wp2
  go_loopw [0, 1] (fun v c wr => ∃ (m p : Int), v = nI m ∧ c = nI p ∧ 0 ≤ m ∧ m ≤ 31 ∧ (p = 1 ∨ p = 2 ∨ p = 4 ∨ p = 8 ∨ p = 16) ∧ B = bitB m p ∧ w.Plus wr) (fun _ c _ => (intOf c).toNat)
  case atStart => exact ⟨m, p, rfl, rfl, h0, h1, hp, hB, by (repeat (first | exact Plus.refl _ | apply Plus.plus | apply Plus.alloc | apply Plus.drew))⟩
  case round =>
    clear h0 h1 hp hB m p
    obtain ⟨m, p, rfl, rfl, h0, h1, hp, hB, e, rfl⟩ := hrel
    by_cases h : p = 1
    · subst h
      have hm : m.tmod 2 = m % 2 := Int.tmod_eq_emod_of_nonneg h0
      rw [bitB_one] at hB
      replace hB := Lib.hid hB
      go_wp2
      go_ret
      refine ⟨?_, by (repeat (first | exact Plus.refl _ | apply Plus.plus | apply Plus.alloc | apply Plus.drew))⟩
      rw [hB.out]
      rcases (by omega : m % 2 = 0 ∨ m % 2 = 1) with h | h <;> rw [h] <;> rfl
    · have hp' : p = 2 ∨ p = 4 ∨ p = 8 ∨ p = 16 := hp.resolve_left h
      have h1p : 1 < p := by omega
      have hq : p.tdiv 2 = p / 2 := Int.tdiv_eq_ediv_of_nonneg (by omega)
      have hw6 : wrap64 (p / 2) = p / 2 := w64_id (by omega) (by omega)
      rw [← bitB_half h0 hp'] at hB
      have hp2 := Lib.hid (show p / 2 = 1 ∨ p / 2 = 2 ∨ p / 2 = 4 ∨ p / 2 = 8 ∨ p / 2 = 16 by rcases hp' with rfl | rfl | rfl | rfl <;> simp)
      replace hp := Lib.hid hp
      replace hp' := Lib.hid hp'
      replace hB := Lib.hid hB
      replace h := Lib.hid h
      go_wp2_with (first | (go_at_call 99; (with_reducible refine (half_any _ _ (by omega) (by omega)).mono ?_); rintro e w' ⟨rfl, ey, rfl⟩))
      go_roundw
      case rel => exact ⟨m / 2, p / 2, rfl, by rw [hw6], by omega, by omega, hp2.out, hB.out, by (repeat (first | exact Plus.refl _ | apply Plus.plus | apply Plus.alloc | apply Plus.drew))⟩
      case measure => rw [hw6]; simp [intOf]; omega
end Go.Proofs.Ytjfjecjigakdnaa
