/- zones: Of, the reference's Zone and Of: walks. -/
import Derived.Test.YteaikedgbgdcnaaZonesP
set_option linter.unusedSimpArgs false
set_option linter.unusedVariables false
namespace Go.Proofs.Yteaikedgbgdcnaa
open Go.RowKit
section
variable (a b s r : Int) (n : Nat) (w : World)
theorem hasW (A B x y : Int) (h1 : 256 ≤ A ∧ A ≤ 4194304) (h2 : 256 ≤ B ∧ B ≤ 4194304) :
    Calls Try.prog 32 #[rectV 0 0 A B, .int .i64 x, .int .i64 y] w fun e w' => e = .returned (.bool (decide (0 ≤ x ∧ x < A ∧ 0 ≤ y ∧ y < B))) ∧ w.Plus w' := by
  refine (has_any 0 0 A B x y w).mono fun e w' ⟨he, hp⟩ => ⟨?_, hp⟩
  rw [he]
  refine ret_bool ?_
  rw [decide_eq_decide, gap_zero x y (by omega) (by omega)]
  omega
theorem of_any (x y : Int) (ho : Okk a b s r) (hm : MapAt w n a b s r) :
    Calls Try.prog 18 #[mapV n, .int .i64 x, .int .i64 y] w fun e w' => e = .returned (.int .i64 (ofI a b s x y)) ∧ w.Plus w' := by
  have hs : 0 < s := by have := ho.s1; omega
  have hx := in_axis (a := a) (x := x) hs
  have hy := in_axis (a := b) (x := y) hs
  have hH := fun w => hasW w (a * s) (b * s) x y ho.as ho.bs
  have a1 := ho.a1
  have a4 := ho.a4
  have b1 := ho.b1
  have b4 := ho.b4
  have hmul : ∀ q : Int, 0 ≤ q → q < 4 → 0 ≤ q * a ∧ q * a ≤ 12 := fun q h0 h1 => by
    rcases four a1 a4 with rfl | rfl | rfl | rfl <;> omega
  obtain ⟨lt, c0, c1, c2, c3, c7, c8, c9, c10⟩ := hm
  haveI : InW n w := ⟨lt⟩
  by_cases hin : 0 ≤ x ∧ x < a * s ∧ 0 ≤ y ∧ y < b * s
  · have hR : ofI a b s x y = y / s * a + x / s := if_pos hin
    rw [hR]
    rw [show decide (0 ≤ x ∧ x < a * s ∧ 0 ≤ y ∧ y < b * s) = true by simpa using hin] at hH
    have e1 : x.tdiv s = x / s := Int.tdiv_eq_ediv_of_nonneg hin.1
    have e2 : y.tdiv s = y / s := Int.tdiv_eq_ediv_of_nonneg hin.2.2.1
    have f1 := hx.1 ⟨hin.1, hin.2.1⟩
    have f2 := hy.1 hin.2.2
    have hm := hmul (y / s) f2.1 (by omega)
    clear hx hy hin hR ho hmul
    generalize x / s = u at *
    generalize y / s = v at *
    have g1 : wrap64 (v * a) = v * a := w64_id (by omega) (by omega)
    have g2 : wrap64 v = v := w64_id (by omega) (by omega)
    have g3 : wrap64 u = u := w64_id (by omega) (by omega)
    have hs0 : ¬ s = 0 := by omega
    replace hH := Lib.hid hH
    go_enter Try.func18, Try.ntmps18
    go_wp2_with (first | (go_at_call 32; (with_reducible refine (hH.out _).mono ?_); rintro e w' ⟨rfl, ey, rfl⟩))
    go_region
    go_wp2
    go_ret
    exact ⟨rfl, by (repeat (first | exact Plus.refl _ | apply Plus.plus | apply Plus.alloc | apply Plus.drew))⟩
  · have hR : ofI a b s x y = -1 := if_neg hin
    rw [hR]
    rw [show decide (0 ≤ x ∧ x < a * s ∧ 0 ≤ y ∧ y < b * s) = false by simpa using hin] at hH
    clear hx hy hin hR ho hmul
    replace hH := Lib.hid hH
    go_enter Try.func18, Try.ntmps18
    go_wp2_with (first | (go_at_call 32; (with_reducible refine (hH.out _).mono ?_); rintro e w' ⟨rfl, ey, rfl⟩))
    go_ret
    exact ⟨rfl, by (repeat (first | exact Plus.refl _ | apply Plus.plus | apply Plus.alloc | apply Plus.drew))⟩
theorem of_nil (x y : Int) : Calls Try.prog 18 #[.pointer none, .int .i64 x, .int .i64 y] w fun e w' => e = .returned (.int .i64 (-1)) ∧ w.Plus w' := by
  go_enter Try.func18, Try.ntmps18
  go_wp2
  go_ret
  exact ⟨rfl, by (repeat (first | exact Plus.refl _ | apply Plus.plus | apply Plus.alloc | apply Plus.drew))⟩
theorem refZone_any (k p i q : Int) (ho : Okk a b s r) :
    Calls Try.prog 31 #[(Cfg.mk a b s r p i q).v, .int .i64 k] w fun e w' => e = .returned (zoneI a b s k).v ∧ w.Plus w' := by
  have a1 := ho.a1
  have a4 := ho.a4
  have b1 := ho.b1
  have b4 := ho.b4
  have s1 := ho.s1
  have s2 := ho.s2
  have hja : ∀ q : Int, 0 ≤ q → q < 4 → 0 ≤ q * a ∧ q * a ≤ 12 := fun q h0 h1 => by
    rcases four a1 a4 with rfl | rfl | rfl | rfl <;> omega
  replace hja := Lib.hid hja
  have hNo : ¬ (0 ≤ k ∧ k < b * a) → zoneI a b s k = ⟨0, 0, 0, 0⟩ := fun h => if_neg (by rw [Int.mul_comm a b]; exact h)
  replace hNo := Lib.hid hNo
  have hZ : ∀ k j u : Int, 0 ≤ j → j < b → 0 ≤ u → u < a → j * a + u = k → zoneI a b s k = ⟨u * s, j * s, u * s + s, j * s + s⟩ := fun k j u h0 h1 h2 h3 h4 => by
    have e1 : k % a = u := by rcases four a1 a4 with rfl | rfl | rfl | rfl <;> omega
    have e2 : k / a = j := by rcases four a1 a4 with rfl | rfl | rfl | rfl <;> omega
    have e3 : 0 ≤ k ∧ k < a * b := by rcases four a1 a4 with rfl | rfl | rfl | rfl <;> omega
    unfold zoneI
    rw [if_pos e3, e1, e2]
  replace hZ := Lib.hid hZ
  unfold Cfg.v
  go_enter Try.func31, Try.ntmps31
  go_wp2_with fail
  go_loop [5, 6] (fun v5 v6 => ∃ j : Int, 0 ≤ j ∧ j ≤ b ∧ v5 = .int .i64 j ∧ ¬ (0 ≤ k ∧ k < j * a)) (fun v5 _ => (b - intOf v5).toNat)
  case atStart => exact ⟨0, by omega, by omega, rfl, by omega⟩
  case round =>
    obtain ⟨j, j0, j1, rfl, hno⟩ := hrel
    by_cases hlt : j < b
    · have hn := hja.out j j0 (by omega)
      obtain ⟨m, hm⟩ : ∃ m, j * a = m := ⟨_, rfl⟩
      rw [hm] at hn hno
      have g1 : wrap64 (j * a) = m := by rw [hm]; exact w64_id (by omega) (by omega)
      replace hm := Lib.hid hm
      go_wp2_with fail
      go_loop [6] (fun v6 => ∃ u : Int, 0 ≤ u ∧ u ≤ a ∧ v6 = .int .i64 u ∧ ¬ (0 ≤ k ∧ k < m + u)) (fun v6 => (a - intOf v6).toNat)
      case atStart => exact ⟨0, by omega, by omega, rfl, by omega⟩
      case round =>
        obtain ⟨u, u0, u1, rfl, hno2⟩ := hrel
        by_cases hlu : u < a
        · by_cases hk : m + u = k
          · have hz := hZ.out k j u j0 hlt u0 hlu (by rw [hm.out]; exact hk)
            have m1 := mul4 u0 (by omega) s1 s2
            have m2 := mul4 j0 (by omega) s1 s2
            have q1 : wrap64 (u * s) = u * s := w64_id (by omega) (by omega)
            have q2 : wrap64 (j * s) = j * s := w64_id (by omega) (by omega)
            have q3 : wrap64 ((u + 1) * s) = u * s + s := by rw [Int.add_mul, Int.one_mul]; exact w64_id (by omega) (by omega)
            have q4 : wrap64 ((j + 1) * s) = j * s + s := by rw [Int.add_mul, Int.one_mul]; exact w64_id (by omega) (by omega)
            replace hz := Lib.hid hz
            go_wp2_with fail
            exact bodyPost_ret (v := rectV (u * s) (j * s) (u * s + s) (j * s + s)) (by simp [results, Try.results31, go_sem]) rfl ⟨by rw [hz.out], by (repeat (first | exact Plus.refl _ | apply Plus.plus | apply Plus.alloc | apply Plus.drew))⟩
          · go_wp2_with fail
            go_round
            case rel => exact ⟨u + 1, by omega, by omega, by go_num, by omega⟩
            case measure => simp [intOf]; omega
        · have hua : u = a := by omega
          have hnx : ¬ (0 ≤ k ∧ k < (j + 1) * a) := by rw [Int.add_mul, Int.one_mul, hm.out]; omega
          replace hnx := Lib.hid hnx
          go_wp2_with fail
          go_round
          case rel => exact ⟨j + 1, by omega, by omega, by go_num, hnx.out⟩
          case measure => simp [intOf]; omega
    · have hjb : j = b := by omega
      subst hjb
      have hz := Lib.hid (hNo.out hno)
      go_wp2_with fail
      exact bodyPost_ret (v := rectV 0 0 0 0) (by simp [results, Try.results31, go_sem]) rfl ⟨by rw [hz.out], by (repeat (first | exact Plus.refl _ | apply Plus.plus | apply Plus.alloc | apply Plus.drew))⟩
end
end Go.Proofs.Yteaikedgbgdcnaa
