/- codec: awake: walks. -/
import Derived.Test.YtpdlgflbcgemnaaGreatDoorCod7
set_option linter.unusedSimpArgs false
set_option linter.unusedVariables false
namespace Go.Proofs.YtpdlgflbcgemnaaGreatDoor
open Go.RowKit
set_option maxRecDepth 100000
set_option maxHeartbeats 400000
abbrev nilS : Value := .slice none 0 0
abbrev msgV (k t n : Int) (a b c : Value) : Value := .agg #[nI k, nI t, nI n, a, b, c]
theorem of_2 (w : World) : Calls Tryz.prog 27 #[nI 2] w fun e w' => e = .returned (.tuple #[.agg #[.bool true, .bool false, .bool false, .bool false, .bool false], .bool true]) ∧ w.Plus w' := by
  go_enter Tryz.func27, Tryz.ntmps27
  go_wp2_with fail
  exact bodyPost_ret (v := .tuple #[.agg #[.bool true, .bool false, .bool false, .bool false, .bool false], .bool true]) (by simp [results, Tryz.results27, go_sem]) rfl ⟨rfl, by (repeat (first | exact Plus.refl _ | apply Plus.plus | apply Plus.alloc | apply Plus.drew))⟩
theorem number_tt (w : World) : Calls Tryz.prog 60 #[.bool true, nI 1] w fun e w' => e = .returned (.bool true) ∧ w.Plus w' := by
  go_enter Tryz.func60, Tryz.ntmps60
  go_wp2_with fail
  go_ret
  exact ⟨rfl, by (repeat (first | exact Plus.refl _ | apply Plus.plus | apply Plus.alloc | apply Plus.drew))⟩
theorem number_t0 (w : World) : Calls Tryz.prog 60 #[.bool true, nI 0] w fun e w' => e = .returned (.bool false) ∧ w.Plus w' := by
  go_enter Tryz.func60, Tryz.ntmps60
  go_wp2_with fail
  go_ret
  exact ⟨rfl, by (repeat (first | exact Plus.refl _ | apply Plus.plus | apply Plus.alloc | apply Plus.drew))⟩
theorem number_f0 (w : World) : Calls Tryz.prog 60 #[.bool false, nI 0] w fun e w' => e = .returned (.bool true) ∧ w.Plus w' := by
  go_enter Tryz.func60, Tryz.ntmps60
  go_wp2_with fail
  go_ret
  exact ⟨rfl, by (repeat (first | exact Plus.refl _ | apply Plus.plus | apply Plus.alloc | apply Plus.drew))⟩
theorem allC_nil (v : Value) (w : World) : Calls Tryz.prog 61 #[.bool false, nilS, nI 64, v] w fun e w' => e = .returned (.bool true) ∧ w.Plus w' := by
  go_enter Tryz.func61, Tryz.ntmps61
  go_wp2_with fail
  go_loopw [26] (fun v wr => v = nI 0 ∧ w.Plus wr) (fun v _ => 0)
  case atStart => exact ⟨rfl, Plus.refl w⟩
  case round =>
    obtain ⟨rfl, hp⟩ := hrel
    replace hp := Lib.hid hp
    go_wp2_with fail
    go_ret
    exact ⟨rfl, Plus.trans hp.out (by (repeat (first | exact Plus.refl _ | apply Plus.plus | apply Plus.alloc | apply Plus.drew)))⟩
theorem allB_nil (v : Value) (w : World) : Calls Tryz.prog 63 #[.bool false, nilS, nI 1024, v] w fun e w' => e = .returned (.bool true) ∧ w.Plus w' := by
  go_enter Tryz.func63, Tryz.ntmps63
  go_wp2_with fail
  go_loopw [26] (fun v wr => v = nI 0 ∧ w.Plus wr) (fun v _ => 0)
  case atStart => exact ⟨rfl, Plus.refl w⟩
  case round =>
    obtain ⟨rfl, hp⟩ := hrel
    replace hp := Lib.hid hp
    go_wp2_with fail
    go_ret
    exact ⟨rfl, Plus.trans hp.out (by (repeat (first | exact Plus.refl _ | apply Plus.plus | apply Plus.alloc | apply Plus.drew)))⟩
theorem allI_nil (v : Value) (w : World) : Calls Tryz.prog 65 #[.bool false, nilS, nI 1024, v] w fun e w' => e = .returned (.bool true) ∧ w.Plus w' := by
  go_enter Tryz.func65, Tryz.ntmps65
  go_wp2_with fail
  go_loopw [26] (fun v wr => v = nI 0 ∧ w.Plus wr) (fun v _ => 0)
  case atStart => exact ⟨rfl, Plus.refl w⟩
  case round =>
    obtain ⟨rfl, hp⟩ := hrel
    replace hp := Lib.hid hp
    go_wp2_with fail
    go_ret
    exact ⟨rfl, Plus.trans hp.out (by (repeat (first | exact Plus.refl _ | apply Plus.plus | apply Plus.alloc | apply Plus.drew)))⟩
theorem check_ok (w : World) : Calls Tryz.prog 26 #[msgV 2 1 0 nilS nilS nilS] w fun e w' => e = .returned (nI 0) ∧ w.Plus w' := by
  go_enter Tryz.func26, Tryz.ntmps26
  go_wp2_with (first
    | (go_at_call 27; (with_reducible refine (of_2 _).mono ?_); rintro e w' ⟨rfl, e1, rfl⟩)
    | (go_at_call 60; (with_reducible refine (number_tt _).mono ?_); rintro e w' ⟨rfl, e2, rfl⟩)
    | (go_at_call 60; (with_reducible refine (number_f0 _).mono ?_); rintro e w' ⟨rfl, e3, rfl⟩)
    | (go_at_call 61; (with_reducible refine (allC_nil _ _).mono ?_); rintro e w' ⟨rfl, e4, rfl⟩)
    | (go_at_call 63; (with_reducible refine (allB_nil _ _).mono ?_); rintro e w' ⟨rfl, e5, rfl⟩)
    | (go_at_call 65; (with_reducible refine (allI_nil _ _).mono ?_); rintro e w' ⟨rfl, e6, rfl⟩))
  go_ret
  exact ⟨rfl, by (repeat (first | exact Plus.refl _ | apply Plus.plus | apply Plus.alloc | apply Plus.drew))⟩
theorem check_bad (w : World) : Calls Tryz.prog 26 #[msgV 2 0 0 nilS nilS nilS] w fun e w' => e = .returned (nI 1) ∧ w.Plus w' := by
  go_enter Tryz.func26, Tryz.ntmps26
  go_wp2_with (first
    | (go_at_call 27; (with_reducible refine (of_2 _).mono ?_); rintro e w' ⟨rfl, e1, rfl⟩)
    | (go_at_call 60; (with_reducible refine (number_t0 _).mono ?_); rintro e w' ⟨rfl, e2, rfl⟩))
  go_ret
  exact ⟨rfl, by (repeat (first | exact Plus.refl _ | apply Plus.plus | apply Plus.alloc | apply Plus.drew))⟩
theorem enc_2 : Octs.txt (Octs.enc 2) = ⟨#[1, 2]⟩ := by decide +kernel
theorem enc_1 : Octs.txt (Octs.enc 1) = ⟨#[1, 1]⟩ := by decide +kernel
theorem enc_21 : (⟨#[1, 2]⟩ : ByteArray) ++ ⟨#[1, 1]⟩ = ⟨#[1, 2, 1, 1]⟩ := by decide +kernel
theorem in64_1 : Octs.In64 1 := by unfold Octs.In64; decide
theorem in64_2 : Octs.In64 2 := by unfold Octs.In64; decide
theorem encode_ok (w : World) : Calls Tryz.prog 9 #[msgV 2 1 0 nilS nilS nilS] w fun e w' => e = .returned (.tuple #[.string ⟨#[1, 2, 1, 1]⟩, nI 0]) ∧ w.Plus w' := by
  have k2 := fun (w : World) (b c : Nat) [InW b w] h0 => int_at1 w b c 2 h0 in64_2
  have k1 := fun (w : World) (b c : Nat) [InW b w] h0 => int_at1 w b c 1 h0 in64_1
  rw [← enc_21]
  rw [enc_2] at k2
  rw [enc_1] at k1
  have z1 : (⟨#[1, 2]⟩ : ByteArray).size = 2 := rfl
  have z2 : (⟨#[1, 1]⟩ : ByteArray).size = 2 := rfl
  obtain ⟨X, hX⟩ : ∃ X : ByteArray, X = ⟨#[1, 2]⟩ := ⟨_, rfl⟩
  obtain ⟨Y, hY⟩ : ∃ Y : ByteArray, Y = ⟨#[1, 1]⟩ := ⟨_, rfl⟩
  rw [← hX] at k2 z1 ⊢
  rw [← hY] at k1 z2 ⊢
  have q1 : ¬ 9223372036854775807 < X.size + Y.size := by omega
  clear hX hY z1 z2
  replace k1 := Lib.hid k1
  replace k2 := Lib.hid k2
  go_enter Tryz.func9, Tryz.ntmps9
  go_wp2_with (first
    | (go_at_call 26; (with_reducible refine (check_ok _).mono ?_); rintro e w' ⟨rfl, e0, rfl⟩)
    | (go_at_call 27; (with_reducible refine (of_2 _).mono ?_); rintro e w' ⟨rfl, e1, rfl⟩)
    | (go_at_call 28; (with_reducible refine (k2.out _ _ _ (by simp [go_sem]; done)).mono ?_); clear k2; rintro e w' ⟨rfl, e2, rfl⟩)
    | (go_at_call 28; (with_reducible refine (k1.out _ _ _ (by simp [go_sem]; done)).mono ?_); rintro e w' ⟨rfl, e3, rfl⟩))
  go_ret2
  exact ⟨rfl, by (repeat (first | exact Plus.refl _ | apply Plus.plus | apply Plus.alloc | apply Plus.drew))⟩
theorem encode_bad (w : World) : Calls Tryz.prog 9 #[msgV 2 0 0 nilS nilS nilS] w fun e w' => e = .returned (.tuple #[.string ⟨#[]⟩, nI 1]) ∧ w.Plus w' := by
  go_enter Tryz.func9, Tryz.ntmps9
  go_wp2_with (go_at_call 26; (with_reducible refine (check_bad _).mono ?_); rintro e w' ⟨rfl, e0, rfl⟩)
  go_ret2
  exact ⟨rfl, by (repeat (first | exact Plus.refl _ | apply Plus.plus | apply Plus.alloc | apply Plus.drew))⟩
end Go.Proofs.YtpdlgflbcgemnaaGreatDoor
