/- codec: PutBundle, PutCmd, and the reference's: walks. -/
import Derived.Test.YtpdlgflbcgemnaaGreatDoorGx
import Derived.Deep.RegionHeld3
set_option linter.unusedSimpArgs false
set_option linter.unusedVariables false
namespace Go.Proofs.YtpdlgflbcgemnaaGreatDoor
open Go.RowKit
set_option maxRecDepth 100000
theorem txt_le {l : List UInt8} {n : Nat} (h : l.length ≤ n) : (Octs.txt l).size ≤ n := by rw [Octs.txt_size]; exact h
theorem encB_ok {b : BdR} (h : okB b = true) : Octs.txt (encB b) = Octs.txt (encI b.id) ++ Octs.txt (restB b) := by
  unfold encB
  rw [if_pos h, Octs.txt_append]
theorem encB_no {b : BdR} (h : okB b = false) : Octs.txt (encB b) = ⟨#[]⟩ := by
  unfold encB
  rw [h]
  rfl
theorem right_mask {b : BdR} (h : rightB b = true) : 0 ≤ b.mask ∧ b.mask ≤ 31 := by
  unfold rightB maskB at h
  simp only [Bool.and_eq_true, decide_eq_true_eq] at h
  exact h.1
set_option maxHeartbeats 400000 in
theorem putBundle_any (b : BdR) (hb : BdI b) (w : World) : Calls Tryz.prog 32 #[b.v] w fun e w' => e = .returned (.string (Octs.txt (encB b))) ∧ w.Plus w' := by
  have kC := fun w' => check_any b w'
  have kI := fun w' => putID_any b.id hb.1 w'
  have kP := fun hm w' => put_any b hb hm w'
  have h1 := txt_le (encI_le b.id)
  have h2 := txt_le (restB_le b)
  cases ho : okB b with
  | false =>
    rw [encB_no ho]
    rw [ho] at kC
    simp only [Bool.false_eq_true, if_false] at kC
    replace kC := Lib.hid kC
    clear kI kP h1 h2 ho hb
    go_enter Tryz.func32, Tryz.ntmps32
    go_wp2_with (go_at_call 64; (with_reducible refine (kC.out _).mono ?_); rintro e w' ⟨rfl, e1, rfl⟩)
    go_ret
    exact ⟨rfl, by (repeat (first | exact Plus.refl _ | apply Plus.plus | apply Plus.alloc | apply Plus.drew))⟩
  | true =>
    rw [encB_ok ho]
    have kP2 := kP (okB_mask ho)
    rw [ho] at kC
    simp only [if_true] at kC
    generalize Octs.txt (encI b.id) = X at *
    generalize Octs.txt (restB b) = Y at *
    have q1 : ¬ 9223372036854775807 < X.size + Y.size := by omega
    replace kC := Lib.hid kC
    replace kI := Lib.hid kI
    replace kP2 := Lib.hid kP2
    clear kP h1 h2 ho hb
    go_enter Tryz.func32, Tryz.ntmps32
    go_upto_region 3 with (go_at_call 64; (with_reducible refine (kC.out _).mono ?_); rintro e w' ⟨rfl, e1, rfl⟩)
    refine wp_region_grow (by kernel_rfl) (by kernel_rfl) ?_
    repeat (go_big_quiet_step ((first | (go_at_call 34; exact Calls.plus_of (kI.out _)) | (go_at_call 70; exact Calls.plus_of (kP2.out _)))))
    refine wpQuiet_nil ?_
    intro ex
    go_wp2_with fail
    go_ret
    exact ⟨rfl, by (repeat (first | exact Plus.refl _ | apply Plus.plus | apply Plus.alloc | apply Plus.drew))⟩
/-- what the kinds of a command ask -/
theorem okC_kind {c : CmdR} (h : okC c = true) : (c.kind = 1 ∨ c.kind = 2 ∨ c.kind = 3 ∨ c.kind = 4) ∧ (c.kind = 3 → rightB c.b = true) := by
  unfold okC at h
  by_cases h1 : c.kind = 1
  · exact ⟨.inl h1, fun k => by omega⟩
  rw [if_neg h1] at h
  by_cases h2 : c.kind = 2
  · exact ⟨.inr (.inl h2), fun k => by omega⟩
  rw [if_neg h2] at h
  by_cases h3 : c.kind = 3
  · rw [if_pos h3] at h
    simp only [Bool.and_eq_true] at h
    exact ⟨.inr (.inr (.inl h3)), fun _ => h.2⟩
  rw [if_neg h3] at h
  by_cases h4 : c.kind = 4
  · exact ⟨.inr (.inr (.inr h4)), fun k => absurd k h3⟩
  rw [if_neg h4] at h
  cases h
theorem encC_no {c : CmdR} (h : okC c = false) : Octs.txt (encC c) = ⟨#[]⟩ := by
  unfold encC
  rw [h]
  rfl
theorem encC_1 {id : IdR} {b : BdR} {m : Int} (h : okC ⟨1, id, b, m⟩ = true) : Octs.txt (encC ⟨1, id, b, m⟩) = Octs.txt (Octs.enc 1) ++ Octs.txt (encB b) := by
  unfold encC
  rw [if_pos h, Octs.txt_append]
  rfl
theorem encC_2 {id : IdR} {b : BdR} {m : Int} (h : okC ⟨2, id, b, m⟩ = true) : Octs.txt (encC ⟨2, id, b, m⟩) = Octs.txt (Octs.enc 2) ++ Octs.txt (encI id) := by
  unfold encC
  rw [if_pos h, Octs.txt_append]
  rfl
theorem encC_3 {id : IdR} {b : BdR} {m : Int} (h : okC ⟨3, id, b, m⟩ = true) : Octs.txt (encC ⟨3, id, b, m⟩) = Octs.txt (Octs.enc 3) ++ Octs.txt (encI id) ++ Octs.txt (restB b) := by
  unfold encC
  rw [if_pos h, Octs.txt_append, Octs.txt_append, List.append_assoc]
  rfl
theorem encC_4 {id : IdR} {b : BdR} {m : Int} (h : okC ⟨4, id, b, m⟩ = true) : Octs.txt (encC ⟨4, id, b, m⟩) = Octs.txt (Octs.enc 4) ++ Octs.txt (encI id) ++ Octs.txt (Octs.enc m) := by
  unfold encC
  rw [if_pos h, Octs.txt_append, Octs.txt_append, List.append_assoc]
  rfl
end Go.Proofs.YtpdlgflbcgemnaaGreatDoor
