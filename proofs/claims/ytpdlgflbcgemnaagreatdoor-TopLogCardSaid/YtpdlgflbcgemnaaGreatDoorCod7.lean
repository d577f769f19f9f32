/- codec: PutCmd and the reference's: walks. -/
import Derived.Test.YtpdlgflbcgemnaaGreatDoorCod6
set_option linter.unusedSimpArgs false
set_option linter.unusedVariables false
namespace Go.Proofs.YtpdlgflbcgemnaaGreatDoor
open Go.RowKit
set_option maxRecDepth 100000
set_option maxHeartbeats 400000 in
theorem putCmd_1 (id : IdR) (b : BdR) (m : Int) (w : World) (U : ByteArray) (hU : U.size ≤ 9) (kC : ∀ w', Calls Tryz.prog 62 #[CmdR.v ⟨1, id, b, m⟩] w' fun e w2 => e = .returned (nI 0) ∧ w'.Plus w2) (kK : ∀ (w : World) (b c : Nat) [InW b w], w.cell? ⟨b, 0, none⟩ = some (nI 1) → Calls Tryz.prog 28 #[.slice (some ⟨b, 0, none⟩) 1 c] w fun e w' => e = .returned (.string U) ∧ w.Plus w') (Z : ByteArray) (hZ : Z.size ≤ 99) (kB : ∀ w', Calls Tryz.prog 32 #[b.v] w' fun e w2 => e = .returned (.string Z) ∧ w'.Plus w2) :
    Calls Tryz.prog 30 #[CmdR.v ⟨1, id, b, m⟩] w fun e w' => e = .returned (.string (U ++ Z)) ∧ w.Plus w' := by
  have q1 : ¬ 9223372036854775807 < U.size + Z.size := by omega
  clear hU hZ
  replace kB := Lib.hid kB
  replace kC := Lib.hid kC
  replace kK := Lib.hid (fun (w : World) (b c : Nat) [InW b w] h0 => kK w b c h0)
  go_enter Tryz.func30, Tryz.ntmps30
  go_wp2_with (first
    | (go_at_call 62; (with_reducible refine (kC.out _).mono ?_); rintro e w' ⟨rfl, e1, rfl⟩)
    | (go_at_call 28; (with_reducible refine (kK.out _ _ _ (by simp [go_sem])).mono ?_); rintro e w' ⟨rfl, e2, rfl⟩)
    | (go_at_call 32; (with_reducible refine (kB.out _).mono ?_); rintro e w' ⟨rfl, e3, rfl⟩))
  go_ret
  exact ⟨rfl, by (repeat (first | exact Plus.refl _ | apply Plus.plus | apply Plus.alloc | apply Plus.drew))⟩
set_option maxHeartbeats 400000 in
theorem putCmd_2 (id : IdR) (b : BdR) (m : Int) (w : World) (U : ByteArray) (hU : U.size ≤ 9) (kC : ∀ w', Calls Tryz.prog 62 #[CmdR.v ⟨2, id, b, m⟩] w' fun e w2 => e = .returned (nI 0) ∧ w'.Plus w2) (kK : ∀ (w : World) (b c : Nat) [InW b w], w.cell? ⟨b, 0, none⟩ = some (nI 2) → Calls Tryz.prog 28 #[.slice (some ⟨b, 0, none⟩) 1 c] w fun e w' => e = .returned (.string U) ∧ w.Plus w') (X : ByteArray) (hX : X.size ≤ 27) (kI : ∀ w', Calls Tryz.prog 34 #[id.v] w' fun e w2 => e = .returned (.string X) ∧ w'.Plus w2) :
    Calls Tryz.prog 30 #[CmdR.v ⟨2, id, b, m⟩] w fun e w' => e = .returned (.string (U ++ X)) ∧ w.Plus w' := by
  have q1 : ¬ 9223372036854775807 < U.size + X.size := by omega
  clear hU hX
  replace kI := Lib.hid kI
  replace kC := Lib.hid kC
  replace kK := Lib.hid (fun (w : World) (b c : Nat) [InW b w] h0 => kK w b c h0)
  go_enter Tryz.func30, Tryz.ntmps30
  go_wp2_with (first
    | (go_at_call 62; (with_reducible refine (kC.out _).mono ?_); rintro e w' ⟨rfl, e1, rfl⟩)
    | (go_at_call 28; (with_reducible refine (kK.out _ _ _ (by simp [go_sem])).mono ?_); rintro e w' ⟨rfl, e2, rfl⟩)
    | (go_at_call 34; (with_reducible refine (kI.out _).mono ?_); rintro e w' ⟨rfl, e3, rfl⟩))
  go_ret
  exact ⟨rfl, by (repeat (first | exact Plus.refl _ | apply Plus.plus | apply Plus.alloc | apply Plus.drew))⟩
set_option maxHeartbeats 400000 in
theorem putCmd_3 (id : IdR) (b : BdR) (m : Int) (w : World) (U : ByteArray) (hU : U.size ≤ 9) (kC : ∀ w', Calls Tryz.prog 62 #[CmdR.v ⟨3, id, b, m⟩] w' fun e w2 => e = .returned (nI 0) ∧ w'.Plus w2) (kK : ∀ (w : World) (b c : Nat) [InW b w], w.cell? ⟨b, 0, none⟩ = some (nI 3) → Calls Tryz.prog 28 #[.slice (some ⟨b, 0, none⟩) 1 c] w fun e w' => e = .returned (.string U) ∧ w.Plus w') (X Y : ByteArray) (hX : X.size ≤ 27) (hY : Y.size ≤ 72) (kI : ∀ w', Calls Tryz.prog 34 #[id.v] w' fun e w2 => e = .returned (.string X) ∧ w'.Plus w2) (kP : ∀ w', Calls Tryz.prog 70 #[b.v] w' fun e w2 => e = .returned (.string Y) ∧ w'.Plus w2) :
    Calls Tryz.prog 30 #[CmdR.v ⟨3, id, b, m⟩] w fun e w' => e = .returned (.string (U ++ X ++ Y)) ∧ w.Plus w' := by
  have e1 : (U ++ X).size = U.size + X.size := ByteArray.size_append
  have q1 : ¬ 9223372036854775807 < U.size + X.size := by omega
  have q2 : ¬ 9223372036854775807 < (U ++ X).size + Y.size := by omega
  have q3 : ¬ 9223372036854775807 < U.size + X.size + Y.size := by omega
  clear hU hX hY e1
  replace kI := Lib.hid kI
  replace kP := Lib.hid kP
  replace kC := Lib.hid kC
  replace kK := Lib.hid (fun (w : World) (b c : Nat) [InW b w] h0 => kK w b c h0)
  go_enter Tryz.func30, Tryz.ntmps30
  go_upto_region 8 with (first
    | (go_at_call 62; (with_reducible refine (kC.out _).mono ?_); rintro e w' ⟨rfl, e1, rfl⟩)
    | (go_at_call 28; (with_reducible refine (kK.out _ _ _ (by simp [go_sem])).mono ?_); rintro e w' ⟨rfl, e2, rfl⟩))
  refine wp_region_grow (by kernel_rfl) (by kernel_rfl) ?_
  repeat (go_big_quiet_step ((first | (go_at_call 34; exact Calls.plus_of (kI.out _)) | (go_at_call 70; exact Calls.plus_of (kP.out _)))))
  refine wpQuiet_nil ?_
  intro ex
  go_wp2_with fail
  go_ret
  exact ⟨rfl, by (repeat (first | exact Plus.refl _ | apply Plus.plus | apply Plus.alloc | apply Plus.drew))⟩
set_option maxHeartbeats 400000 in
theorem putCmd_4 (id : IdR) (b : BdR) (m : Int) (w : World) (U : ByteArray) (hU : U.size ≤ 9) (kC : ∀ w', Calls Tryz.prog 62 #[CmdR.v ⟨4, id, b, m⟩] w' fun e w2 => e = .returned (nI 0) ∧ w'.Plus w2) (kK : ∀ (w : World) (b c : Nat) [InW b w], w.cell? ⟨b, 0, none⟩ = some (nI 4) → Calls Tryz.prog 28 #[.slice (some ⟨b, 0, none⟩) 1 c] w fun e w' => e = .returned (.string U) ∧ w.Plus w') (X Y : ByteArray) (hX : X.size ≤ 27) (hY : Y.size ≤ 9) (kI : ∀ w', Calls Tryz.prog 34 #[id.v] w' fun e w2 => e = .returned (.string X) ∧ w'.Plus w2) (kM : ∀ (w : World) (b c : Nat) [InW b w], w.cell? ⟨b, 0, none⟩ = some (nI m) → Calls Tryz.prog 28 #[.slice (some ⟨b, 0, none⟩) 1 c] w fun e w' => e = .returned (.string Y) ∧ w.Plus w') :
    Calls Tryz.prog 30 #[CmdR.v ⟨4, id, b, m⟩] w fun e w' => e = .returned (.string (U ++ X ++ Y)) ∧ w.Plus w' := by
  have e1 : (U ++ X).size = U.size + X.size := ByteArray.size_append
  have q1 : ¬ 9223372036854775807 < U.size + X.size := by omega
  have q2 : ¬ 9223372036854775807 < (U ++ X).size + Y.size := by omega
  have q3 : ¬ 9223372036854775807 < U.size + X.size + Y.size := by omega
  clear hU hX hY e1
  replace kI := Lib.hid kI
  replace kM := Lib.hid (fun (w : World) (b c : Nat) [InW b w] h0 => kM w b c h0)
  replace kC := Lib.hid kC
  replace kK := Lib.hid (fun (w : World) (b c : Nat) [InW b w] h0 => kK w b c h0)
  go_enter Tryz.func30, Tryz.ntmps30
  go_upto_region 10 with (first
    | (go_at_call 62; (with_reducible refine (kC.out _).mono ?_); rintro e w' ⟨rfl, e1, rfl⟩)
    | (go_at_call 28; (with_reducible refine (kK.out _ _ _ (by simp [go_sem])).mono ?_); rintro e w' ⟨rfl, e2, rfl⟩))
  go_region_held3 (fun w' => w'.cell? ⟨w.heap.size, 1, none⟩ = some (nI id.s) ∧ w'.cell? ⟨w.heap.size, 2, none⟩ = some (nI id.i) ∧ w'.cell? ⟨w.heap.size, 3, none⟩ = some (nI id.g) ∧ w'.cell? ⟨w.heap.size, 15, none⟩ = some (nI m)) (simp [go_sem]) (first | (go_at_call 34; (with_reducible refine (kI.out _).mono ?_); rintro e w' ⟨rfl, e5, rfl⟩) | (go_at_call 28; (with_reducible refine (kM.out _ _ _ (by simp [go_sem])).mono ?_); rintro e w' ⟨rfl, e6, rfl⟩))
  all_goals
    go_wp2_with fail
    go_ret
    exact ⟨rfl, by (repeat (first | exact Plus.refl _ | apply Plus.plus | apply Plus.alloc | apply Plus.drew))⟩
set_option maxHeartbeats 400000 in
theorem putCmd_any (c : CmdR) (hc : CmI c) (w : World) : Calls Tryz.prog 30 #[c.v] w fun e w' => e = .returned (.string (Octs.txt (encC c))) ∧ w.Plus w' := by
  have kC := fun w' => checkCmd_any c w'
  obtain ⟨hk, hi, hb, hm⟩ := hc
  cases ho : okC c with
  | false =>
    rw [encC_no ho]
    rw [ho] at kC
    simp only [Bool.false_eq_true, if_false] at kC
    replace kC := Lib.hid kC
    clear ho hk hi hb hm
    go_enter Tryz.func30, Tryz.ntmps30
    go_wp2_with (go_at_call 62; (with_reducible refine (kC.out _).mono ?_); rintro e w' ⟨rfl, e1, rfl⟩)
    go_ret
    exact ⟨rfl, by (repeat (first | exact Plus.refl _ | apply Plus.plus | apply Plus.alloc | apply Plus.drew))⟩
  | true =>
    rw [ho] at kC
    simp only [if_true] at kC
    obtain ⟨hkk, h3⟩ := okC_kind ho
    obtain ⟨k, id, b, m⟩ := c
    dsimp only at hkk h3 hk hi hb hm
    rcases hkk with rfl | rfl | rfl | rfl
    · rw [encC_1 ho]
      exact putCmd_1 id b m w _ (txt_le (Octs.enc_le 1)) kC (fun w b c _ h0 => int_at1 w b c 1 h0 hk) _ (txt_le (encB_le b)) (fun w' => putBundle_any b hb w')
    · rw [encC_2 ho]
      exact putCmd_2 id b m w _ (txt_le (Octs.enc_le 2)) kC (fun w b c _ h0 => int_at1 w b c 2 h0 hk) _ (txt_le (encI_le id)) (fun w' => putID_any id hi w')
    · rw [encC_3 ho]
      exact putCmd_3 id b m w _ (txt_le (Octs.enc_le 3)) kC (fun w b c _ h0 => int_at1 w b c 3 h0 hk) _ _ (txt_le (encI_le id)) (txt_le (restB_le b)) (fun w' => putID_any id hi w') (fun w' => put_any b hb (right_mask (h3 rfl)) w')
    · rw [encC_4 ho]
      exact putCmd_4 id b m w _ (txt_le (Octs.enc_le 4)) kC (fun w b c _ h0 => int_at1 w b c 4 h0 hk) _ _ (txt_le (encI_le id)) (txt_le (Octs.enc_le m)) (fun w' => putID_any id hi w') (fun w b c _ h0 => int_at1 w b c m h0 hm)
end Go.Proofs.YtpdlgflbcgemnaaGreatDoor
