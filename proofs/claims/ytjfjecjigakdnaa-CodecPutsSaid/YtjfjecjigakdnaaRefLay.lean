/- the reference's Int, Ints, Text: walks. -/
import Derived.Test.YtjfjecjigakdnaaLays
set_option linter.unusedSimpArgs false
set_option linter.unusedVariables false
namespace Go.Proofs.Ytjfjecjigakdnaa.Octs
open Go.RowKit
theorem size_any (m : Nat) (w : World) (hm : m < 9223372036854775808) :
    Calls Try.prog 83 #[.int .i64 m] w fun e w' => e = .returned (.int .i64 (bsz m)) ∧ w.Plus w' := by
  have h8 := bsz_le m
  go_enter Try.func83, Try.ntmps83
  go_wp2_with fail
  go_loop [0, 3] (fun a b => ∃ y k : Nat, a = .int .i64 y ∧ b = .int .i64 k ∧ y ≤ m ∧ k + bsz y = bsz m) (fun a _ => (intOf a).toNat)
  case atStart => exact ⟨m, 0, rfl, rfl, Nat.le_refl _, by omega⟩
  case round =>
    obtain ⟨y, k, rfl, rfl, hy, hk⟩ := hrel
    by_cases h0 : 0 < y
    · have hs := bsz_step y h0 (by omega)
      have h0i : (0 : Int) < y := by omega
      have hq : (y : Int).tdiv 256 = ((y / 256 : Nat) : Int) := by rw [Int.tdiv_eq_ediv_of_nonneg (by omega)]; simp
      have hwq : wrap64 ((y / 256 : Nat) : Int) = ((y / 256 : Nat) : Int) := w64_id (by omega) (by omega)
      have hlt : y / 256 < y := by omega
      generalize y / 256 = z at *
      have hk2 : k + 1 + bsz z = bsz m := by omega
      have hz : z ≤ m := by omega
      have hkb : k ≤ 8 := by omega
      replace hk2 := Lib.hid hk2
      clear hs hk
      go_wp2_with fail
      go_round
      case rel => exact ⟨z, k + 1, by go_num, by go_num, hz, hk2.out⟩
      case measure => simp [intOf]; omega
    · obtain rfl : y = 0 := by omega
      rw [bsz_zero] at hk
      obtain rfl : k = bsz m := by omega
      go_wp2_with fail
      go_ret
      exact ⟨rfl, by (repeat (first | exact Plus.refl _ | apply Plus.plus | apply Plus.alloc | apply Plus.drew))⟩
theorem conv_one (n : Nat) (m : Nat) (w : World) (h : w.cell? ⟨m, 0, none⟩ = some (.int .u8 ((n : Int) % 256))) :
    (convert 93 9 (.slice (some ⟨m, 0, none⟩) 1 1)).run Try.prog w = .ok (.string (txt [UInt8.ofNat n])) w :=
  run_convert_bytes_back (P := Try.prog) w 93 9 5 ⟨m, 0, none⟩ 1 [UInt8.ofNat n] (by kernel_rfl) (by kernel_rfl) (by kernel_rfl)
    (fun j hj => by
      have : j = 0 := by simpa using hj
      subst this
      simpa [u8_of, Addr.add] using h)
set_option maxHeartbeats 4000000 in
/-- the reference's bytes, by recursion: one step -/
theorem high_step (k n q : Nat) (B : List UInt8) (w : World) (hk : k + 1 ≤ 8) (hn : n < 9223372036854775808) (hq : (n : Int) / 256 = (q : Int)) (hsz : (txt B).size ≤ 8)
    (ih : ∀ w, Calls Try.prog 84 #[.int .i64 q, .int .i64 k] w fun e w' => e = .returned (.string (txt B)) ∧ w.Plus w')
    (hc : ∀ (m : Nat) (w : World), w.cell? ⟨m, 0, none⟩ = some (.int .u8 ((n : Int) % 256)) → (convert 93 9 (.slice (some ⟨m, 0, none⟩) 1 1)).run Try.prog w = .ok (.string (txt [UInt8.ofNat n])) w) :
    Calls Try.prog 84 #[.int .i64 n, .int .i64 (k + 1 : Nat)] w fun e w' => e = .returned (.string (txt (B ++ [UInt8.ofNat n]))) ∧ w.Plus w' := by
  go_enter Try.func84, Try.ntmps84
  have hne : ¬ ((k : Int) + 1 = 0) := by omega
  have hz : ((k : Int) + 1 == 0) = false := by simp; omega
  have hk1 : (((k + 1 : Nat) : Int) - 1) = (k : Int) := by omega
  have hw1 : IntKind.i64.wrap (q : Int) = (q : Int) := by rw [IntKind.wrap_i64]; omega
  have hw2 : IntKind.i64.wrap (k : Int) = (k : Int) := by rw [IntKind.wrap_i64]; omega
  have hm1 : (n : Int).tmod 256 = (n : Int) % 256 := by rw [Int.tmod_eq_emod_of_nonneg (by omega)]
  have hm2 : IntKind.u8.wrap ((n : Int) % 256) = (n : Int) % 256 := by rw [IntKind.wrap_u8]; omega
  have hs1 : (txt [UInt8.ofNat n]).size = 1 := by rw [txt_size]; rfl
  go_wp2
  go_region_with (first | (go_at_call 84; (with_reducible refine (ih _).mono ?_); rintro e w' ⟨rfl, ey, rfl⟩))
  all_goals go_wp2
  all_goals go_ret
  all_goals exact ⟨by simp [txt_append, Act.put], by (repeat (first | exact Plus.refl _ | apply Plus.plus | apply Plus.alloc | apply Plus.drew))⟩
theorem high_any : ∀ (k n : Nat) (w : World), k ≤ 8 → n < 9223372036854775808 →
    Calls Try.prog 84 #[.int .i64 n, .int .i64 k] w fun e w' => e = .returned (.string (txt (big n k))) ∧ w.Plus w'
  | 0, n, w, hk, hn => by
    go_enter Try.func84, Try.ntmps84
    go_wp2
    all_goals go_ret
    exact ⟨rfl, by (repeat (first | exact Plus.refl _ | apply Plus.plus | apply Plus.alloc | apply Plus.drew))⟩
  | k + 1, n, w, hk, hn => high_step k n (n / 256) (big (n / 256) k) w hk hn (by omega) (by rw [txt_size, big_length]; omega) (fun w => high_any k (n / 256) w (by omega) (by omega)) (fun m w h => conv_one n m w h)
set_option maxHeartbeats 4000000 in
theorem refInt_any (n : Int) (w : World) (hn : In64 n) :
    Calls Try.prog 47 #[.int .i64 n] w fun e w' => e = .returned (.string (txt (enc n))) ∧ w.Plus w' := by
  unfold In64 at hn
  have hm : mag n < 9223372036854775808 := by unfold mag; split <;> omega
  have hs8 := bsz_le (mag n)
  have henc : enc n = UInt8.ofNat (sgn n + bsz (mag n)) :: big (mag n) (bsz (mag n)) := rfl
  have hS := fun w => size_any (mag n) w hm
  have hH := fun w => high_any (bsz (mag n)) (mag n) w hs8 hm
  have hC := fun g w h => conv_one (sgn n + bsz (mag n)) g w h
  have hbl := big_length (bsz (mag n)) (mag n)
  by_cases h0 : n < 0
  · have hsg : sgn n = 128 := if_pos h0
    have hmg : ((mag n : Nat) : Int) = -n - 1 := by unfold mag; rw [if_pos h0]; omega
    rw [hsg] at henc hC
    generalize enc n = E at *
    generalize mag n = m at *
    obtain rfl : n = -(m : Int) - 1 := by omega
    generalize hB : big m (bsz m) = B at *
    generalize bsz m = z at *
    have hE : txt [UInt8.ofNat (128 + z)] ++ txt B = txt E := by rw [henc, txt_append]; rfl
    have hz1 : (txt [UInt8.ofNat (128 + z)]).size ≤ 8 := by rw [txt_size]; simp
    have hz2 : (txt B).size ≤ 8 := by rw [txt_size]; omega
    generalize txt [UInt8.ofNat (128 + z)] = T at *
    generalize txt B = U at *
    have hmod : ((128 + z : Nat) : Int) % 256 = 128 + (z : Int) := by omega
    rw [hmod] at hC
    have hw1 : IntKind.i64.wrap (128 + (z : Int)) = 128 + (z : Int) := by rw [IntKind.wrap_i64]; omega
    have hw2 : IntKind.u8.wrap (128 + (z : Int)) = 128 + (z : Int) := by rw [IntKind.wrap_u8]; omega
    have hn0 : -(m : Int) - 1 < 0 := by omega
    have hneg : -(-(m : Int) - 1 + 1) = m := by omega
    replace hS := Lib.hid hS
    replace hH := Lib.hid hH
    clear henc hbl hmg h0 hsg hB hmod
    go_enter Try.func47, Try.ntmps47
    go_wp2_with fail
    go_region_with (first | (go_at_call 83; (with_reducible refine (hS.out _).mono ?_); rintro e w' ⟨rfl, ey, rfl⟩) | (go_at_call 84; (with_reducible refine (hH.out _).mono ?_); rintro e w' ⟨rfl, ez, rfl⟩))
    all_goals go_wp2_with fail
    all_goals go_ret
    all_goals exact ⟨by simp [hE, Act.put], by (repeat (first | exact Plus.refl _ | apply Plus.plus | apply Plus.alloc | apply Plus.drew))⟩
  · have hsg : sgn n = 0 := if_neg h0
    have hmg : ((mag n : Nat) : Int) = n := by unfold mag; rw [if_neg h0]; omega
    rw [hsg] at henc hC
    generalize enc n = E at *
    generalize mag n = m at *
    obtain rfl : n = (m : Int) := by omega
    generalize hB : big m (bsz m) = B at *
    generalize bsz m = z at *
    have hE : txt [UInt8.ofNat (0 + z)] ++ txt B = txt E := by rw [henc, txt_append]; rfl
    have hz1 : (txt [UInt8.ofNat (0 + z)]).size ≤ 8 := by rw [txt_size]; simp
    have hz2 : (txt B).size ≤ 8 := by rw [txt_size]; omega
    generalize txt [UInt8.ofNat (0 + z)] = T at *
    generalize txt B = U at *
    have hmod : ((0 + z : Nat) : Int) % 256 = (z : Int) := by omega
    rw [hmod] at hC
    have hw2 : IntKind.u8.wrap ((z : Int)) = (z : Int) := by rw [IntKind.wrap_u8]; omega
    replace hS := Lib.hid hS
    replace hH := Lib.hid hH
    clear henc hbl hmg h0 hsg hB hmod
    go_enter Try.func47, Try.ntmps47
    go_wp2_with fail
    go_region_with (first | (go_at_call 83; (with_reducible refine (hS.out _).mono ?_); rintro e w' ⟨rfl, ey, rfl⟩) | (go_at_call 84; (with_reducible refine (hH.out _).mono ?_); rintro e w' ⟨rfl, ez, rfl⟩))
    all_goals go_wp2_with fail
    all_goals go_ret
    all_goals exact ⟨by simp [hE, Act.put], by (repeat (first | exact Plus.refl _ | apply Plus.plus | apply Plus.alloc | apply Plus.drew))⟩
end Go.Proofs.Ytjfjecjigakdnaa.Octs
