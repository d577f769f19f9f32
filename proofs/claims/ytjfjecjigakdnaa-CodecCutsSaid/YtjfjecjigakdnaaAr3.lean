/- arch: which entities may be, in the reference: walk. -/
import Derived.Test.YtjfjecjigakdnaaAr2
set_option linter.unusedSimpArgs false
set_option linter.unusedVariables false
namespace Go.Proofs.Ytjfjecjigakdnaa
open Go.RowKit
theorem in_b {has : Bool} {n lo hi : Int} {v : Bool} (w : World) (h : withinB has n lo hi = v) : Calls Try.prog 98 #[nI n, nI lo, nI hi, .bool has] w fun e w' => e = .returned (.bool v) ∧ w.Plus w' := by
  subst h
  exact in_any has n lo hi w
/-- the reference's -/
theorem refRight_out (b : BdR) (w : World) (h : b.mask < 0 ∨ 31 < b.mask) : Calls Try.prog 88 #[b.v] w fun e w' => e = .returned (.bool false) ∧ w.Plus w' := by
  rcases h with h1 | h1
  · go_enter Try.func88, Try.ntmps88
    go_wp2
    go_ret
    exact ⟨rfl, by (repeat (first | exact Plus.refl _ | apply Plus.plus | apply Plus.alloc | apply Plus.drew))⟩
  · have g2 : ¬ b.mask < 0 := by omega
    go_enter Try.func88, Try.ntmps88
    go_wp2
    go_ret
    exact ⟨rfl, by (repeat (first | exact Plus.refl _ | apply Plus.plus | apply Plus.alloc | apply Plus.drew))⟩
set_option maxRecDepth 100000 in
set_option maxHeartbeats 4000000 in
theorem refRight_0 (b : BdR) (w : World) (h1 : 0 ≤ b.mask) (h2 : b.mask ≤ 31) (p1 : withinB (bitB b.mask 1) b.x (-1073741824) 1073741824 = false) : Calls Try.prog 88 #[b.v] w fun e w' => e = .returned (.bool false) ∧ w.Plus w' := by
  have g1 : ¬ b.mask < 0 := by omega
  have g2 : ¬ 31 < b.mask := by omega
  go_enter Try.func88, Try.ntmps88
  go_wp2_with fail
  refine wp_region_grow (by kernel_rfl) (by kernel_rfl) ?_
  repeat (go_big_quiet_step ((first | (go_at_call 89; exact Calls.plus_of (bit_any _ _ _ h1 h2 (by simp))) | (go_at_call 98; exact Calls.plus_of (in_b _ (by assumption))))))
  refine wpQuiet_nil ?_
  intro ex
  go_wp2_with fail
  go_ret
  exact ⟨rfl, by (repeat (first | exact Plus.refl _ | apply Plus.plus | apply Plus.alloc | apply Plus.drew))⟩
set_option maxRecDepth 100000 in
set_option maxHeartbeats 4000000 in
theorem refRight_1 (b : BdR) (w : World) (h1 : 0 ≤ b.mask) (h2 : b.mask ≤ 31) (p1 : withinB (bitB b.mask 1) b.x (-1073741824) 1073741824 = true) (p2 : withinB (bitB b.mask 1) b.y (-1073741824) 1073741824 = false) : Calls Try.prog 88 #[b.v] w fun e w' => e = .returned (.bool false) ∧ w.Plus w' := by
  have g1 : ¬ b.mask < 0 := by omega
  have g2 : ¬ 31 < b.mask := by omega
  go_enter Try.func88, Try.ntmps88
  go_wp2_with fail
  refine wp_region_grow (by kernel_rfl) (by kernel_rfl) ?_
  repeat (go_big_quiet_step ((first | (go_at_call 89; exact Calls.plus_of (bit_any _ _ _ h1 h2 (by simp))) | (go_at_call 98; exact Calls.plus_of (in_b _ (by assumption))))))
  refine wpQuiet_nil ?_
  intro ex
  go_wp2_with fail
  go_ret
  exact ⟨rfl, by (repeat (first | exact Plus.refl _ | apply Plus.plus | apply Plus.alloc | apply Plus.drew))⟩
set_option maxRecDepth 100000 in
set_option maxHeartbeats 4000000 in
theorem refRight_2 (b : BdR) (w : World) (h1 : 0 ≤ b.mask) (h2 : b.mask ≤ 31) (p1 : withinB (bitB b.mask 1) b.x (-1073741824) 1073741824 = true) (p2 : withinB (bitB b.mask 1) b.y (-1073741824) 1073741824 = true) (p3 : withinB (bitB b.mask 2) b.vx (-1073741824) 1073741824 = false) : Calls Try.prog 88 #[b.v] w fun e w' => e = .returned (.bool false) ∧ w.Plus w' := by
  have g1 : ¬ b.mask < 0 := by omega
  have g2 : ¬ 31 < b.mask := by omega
  go_enter Try.func88, Try.ntmps88
  go_wp2_with fail
  refine wp_region_grow (by kernel_rfl) (by kernel_rfl) ?_
  repeat (go_big_quiet_step ((first | (go_at_call 89; exact Calls.plus_of (bit_any _ _ _ h1 h2 (by simp))) | (go_at_call 98; exact Calls.plus_of (in_b _ (by assumption))))))
  refine wpQuiet_nil ?_
  intro ex
  go_wp2_with fail
  refine wp_region_grow (by kernel_rfl) (by kernel_rfl) ?_
  repeat (go_big_quiet_step ((first | (go_at_call 89; exact Calls.plus_of (bit_any _ _ _ h1 h2 (by simp))) | (go_at_call 98; exact Calls.plus_of (in_b _ (by assumption))))))
  refine wpQuiet_nil ?_
  intro ex
  go_wp2_with fail
  go_ret
  exact ⟨rfl, by (repeat (first | exact Plus.refl _ | apply Plus.plus | apply Plus.alloc | apply Plus.drew))⟩
set_option maxRecDepth 100000 in
set_option maxHeartbeats 4000000 in
theorem refRight_3 (b : BdR) (w : World) (h1 : 0 ≤ b.mask) (h2 : b.mask ≤ 31) (p1 : withinB (bitB b.mask 1) b.x (-1073741824) 1073741824 = true) (p2 : withinB (bitB b.mask 1) b.y (-1073741824) 1073741824 = true) (p3 : withinB (bitB b.mask 2) b.vx (-1073741824) 1073741824 = true) (p4 : withinB (bitB b.mask 2) b.vy (-1073741824) 1073741824 = false) : Calls Try.prog 88 #[b.v] w fun e w' => e = .returned (.bool false) ∧ w.Plus w' := by
  have g1 : ¬ b.mask < 0 := by omega
  have g2 : ¬ 31 < b.mask := by omega
  go_enter Try.func88, Try.ntmps88
  go_wp2_with fail
  refine wp_region_grow (by kernel_rfl) (by kernel_rfl) ?_
  repeat (go_big_quiet_step ((first | (go_at_call 89; exact Calls.plus_of (bit_any _ _ _ h1 h2 (by simp))) | (go_at_call 98; exact Calls.plus_of (in_b _ (by assumption))))))
  refine wpQuiet_nil ?_
  intro ex
  go_wp2_with fail
  refine wp_region_grow (by kernel_rfl) (by kernel_rfl) ?_
  repeat (go_big_quiet_step ((first | (go_at_call 89; exact Calls.plus_of (bit_any _ _ _ h1 h2 (by simp))) | (go_at_call 98; exact Calls.plus_of (in_b _ (by assumption))))))
  refine wpQuiet_nil ?_
  intro ex
  go_wp2_with fail
  go_ret
  exact ⟨rfl, by (repeat (first | exact Plus.refl _ | apply Plus.plus | apply Plus.alloc | apply Plus.drew))⟩
set_option maxRecDepth 100000 in
set_option maxHeartbeats 4000000 in
theorem refRight_4 (b : BdR) (w : World) (h1 : 0 ≤ b.mask) (h2 : b.mask ≤ 31) (p1 : withinB (bitB b.mask 1) b.x (-1073741824) 1073741824 = true) (p2 : withinB (bitB b.mask 1) b.y (-1073741824) 1073741824 = true) (p3 : withinB (bitB b.mask 2) b.vx (-1073741824) 1073741824 = true) (p4 : withinB (bitB b.mask 2) b.vy (-1073741824) 1073741824 = true) (p5 : withinB (bitB b.mask 4) b.hp 1 1048576 = false) : Calls Try.prog 88 #[b.v] w fun e w' => e = .returned (.bool false) ∧ w.Plus w' := by
  have g1 : ¬ b.mask < 0 := by omega
  have g2 : ¬ 31 < b.mask := by omega
  go_enter Try.func88, Try.ntmps88
  go_wp2_with fail
  refine wp_region_grow (by kernel_rfl) (by kernel_rfl) ?_
  repeat (go_big_quiet_step ((first | (go_at_call 89; exact Calls.plus_of (bit_any _ _ _ h1 h2 (by simp))) | (go_at_call 98; exact Calls.plus_of (in_b _ (by assumption))))))
  refine wpQuiet_nil ?_
  intro ex
  go_wp2_with fail
  refine wp_region_grow (by kernel_rfl) (by kernel_rfl) ?_
  repeat (go_big_quiet_step ((first | (go_at_call 89; exact Calls.plus_of (bit_any _ _ _ h1 h2 (by simp))) | (go_at_call 98; exact Calls.plus_of (in_b _ (by assumption))))))
  refine wpQuiet_nil ?_
  intro ex
  go_wp2_with fail
  refine wp_region_grow (by kernel_rfl) (by kernel_rfl) ?_
  repeat (go_big_quiet_step ((first | (go_at_call 89; exact Calls.plus_of (bit_any _ _ _ h1 h2 (by simp))) | (go_at_call 98; exact Calls.plus_of (in_b _ (by assumption))))))
  refine wpQuiet_nil ?_
  intro ex
  go_wp2_with fail
  go_ret
  exact ⟨rfl, by (repeat (first | exact Plus.refl _ | apply Plus.plus | apply Plus.alloc | apply Plus.drew))⟩
set_option maxRecDepth 100000 in
set_option maxHeartbeats 4000000 in
theorem refRight_5 (b : BdR) (w : World) (h1 : 0 ≤ b.mask) (h2 : b.mask ≤ 31) (p1 : withinB (bitB b.mask 1) b.x (-1073741824) 1073741824 = true) (p2 : withinB (bitB b.mask 1) b.y (-1073741824) 1073741824 = true) (p3 : withinB (bitB b.mask 2) b.vx (-1073741824) 1073741824 = true) (p4 : withinB (bitB b.mask 2) b.vy (-1073741824) 1073741824 = true) (p5 : withinB (bitB b.mask 4) b.hp 1 1048576 = true) (p6 : withinB (bitB b.mask 8) b.pw 0 1024 = false) : Calls Try.prog 88 #[b.v] w fun e w' => e = .returned (.bool false) ∧ w.Plus w' := by
  have g1 : ¬ b.mask < 0 := by omega
  have g2 : ¬ 31 < b.mask := by omega
  go_enter Try.func88, Try.ntmps88
  go_wp2_with fail
  refine wp_region_grow (by kernel_rfl) (by kernel_rfl) ?_
  repeat (go_big_quiet_step ((first | (go_at_call 89; exact Calls.plus_of (bit_any _ _ _ h1 h2 (by simp))) | (go_at_call 98; exact Calls.plus_of (in_b _ (by assumption))))))
  refine wpQuiet_nil ?_
  intro ex
  go_wp2_with fail
  refine wp_region_grow (by kernel_rfl) (by kernel_rfl) ?_
  repeat (go_big_quiet_step ((first | (go_at_call 89; exact Calls.plus_of (bit_any _ _ _ h1 h2 (by simp))) | (go_at_call 98; exact Calls.plus_of (in_b _ (by assumption))))))
  refine wpQuiet_nil ?_
  intro ex
  go_wp2_with fail
  refine wp_region_grow (by kernel_rfl) (by kernel_rfl) ?_
  repeat (go_big_quiet_step ((first | (go_at_call 89; exact Calls.plus_of (bit_any _ _ _ h1 h2 (by simp))) | (go_at_call 98; exact Calls.plus_of (in_b _ (by assumption))))))
  refine wpQuiet_nil ?_
  intro ex
  go_wp2_with fail
  go_ret
  exact ⟨rfl, by (repeat (first | exact Plus.refl _ | apply Plus.plus | apply Plus.alloc | apply Plus.drew))⟩
set_option maxRecDepth 100000 in
set_option maxHeartbeats 4000000 in
theorem refRight_6 (b : BdR) (w : World) (h1 : 0 ≤ b.mask) (h2 : b.mask ≤ 31) (p1 : withinB (bitB b.mask 1) b.x (-1073741824) 1073741824 = true) (p2 : withinB (bitB b.mask 1) b.y (-1073741824) 1073741824 = true) (p3 : withinB (bitB b.mask 2) b.vx (-1073741824) 1073741824 = true) (p4 : withinB (bitB b.mask 2) b.vy (-1073741824) 1073741824 = true) (p5 : withinB (bitB b.mask 4) b.hp 1 1048576 = true) (p6 : withinB (bitB b.mask 8) b.pw 0 1024 = true) (p7 : withinB (bitB b.mask 16) b.lf 1 1048576 = false) : Calls Try.prog 88 #[b.v] w fun e w' => e = .returned (.bool false) ∧ w.Plus w' := by
  have g1 : ¬ b.mask < 0 := by omega
  have g2 : ¬ 31 < b.mask := by omega
  go_enter Try.func88, Try.ntmps88
  go_wp2_with fail
  refine wp_region_grow (by kernel_rfl) (by kernel_rfl) ?_
  repeat (go_big_quiet_step ((first | (go_at_call 89; exact Calls.plus_of (bit_any _ _ _ h1 h2 (by simp))) | (go_at_call 98; exact Calls.plus_of (in_b _ (by assumption))))))
  refine wpQuiet_nil ?_
  intro ex
  go_wp2_with fail
  refine wp_region_grow (by kernel_rfl) (by kernel_rfl) ?_
  repeat (go_big_quiet_step ((first | (go_at_call 89; exact Calls.plus_of (bit_any _ _ _ h1 h2 (by simp))) | (go_at_call 98; exact Calls.plus_of (in_b _ (by assumption))))))
  refine wpQuiet_nil ?_
  intro ex
  go_wp2_with fail
  refine wp_region_grow (by kernel_rfl) (by kernel_rfl) ?_
  repeat (go_big_quiet_step ((first | (go_at_call 89; exact Calls.plus_of (bit_any _ _ _ h1 h2 (by simp))) | (go_at_call 98; exact Calls.plus_of (in_b _ (by assumption))))))
  refine wpQuiet_nil ?_
  intro ex
  go_wp2_with fail
  go_ret
  exact ⟨rfl, by (repeat (first | exact Plus.refl _ | apply Plus.plus | apply Plus.alloc | apply Plus.drew))⟩
set_option maxRecDepth 100000 in
set_option maxHeartbeats 4000000 in
theorem refRight_7 (b : BdR) (w : World) (h1 : 0 ≤ b.mask) (h2 : b.mask ≤ 31) (p1 : withinB (bitB b.mask 1) b.x (-1073741824) 1073741824 = true) (p2 : withinB (bitB b.mask 1) b.y (-1073741824) 1073741824 = true) (p3 : withinB (bitB b.mask 2) b.vx (-1073741824) 1073741824 = true) (p4 : withinB (bitB b.mask 2) b.vy (-1073741824) 1073741824 = true) (p5 : withinB (bitB b.mask 4) b.hp 1 1048576 = true) (p6 : withinB (bitB b.mask 8) b.pw 0 1024 = true) (p7 : withinB (bitB b.mask 16) b.lf 1 1048576 = true) : Calls Try.prog 88 #[b.v] w fun e w' => e = .returned (.bool true) ∧ w.Plus w' := by
  have g1 : ¬ b.mask < 0 := by omega
  have g2 : ¬ 31 < b.mask := by omega
  go_enter Try.func88, Try.ntmps88
  go_wp2_with fail
  refine wp_region_grow (by kernel_rfl) (by kernel_rfl) ?_
  repeat (go_big_quiet_step ((first | (go_at_call 89; exact Calls.plus_of (bit_any _ _ _ h1 h2 (by simp))) | (go_at_call 98; exact Calls.plus_of (in_b _ (by assumption))))))
  refine wpQuiet_nil ?_
  intro ex
  go_wp2_with fail
  refine wp_region_grow (by kernel_rfl) (by kernel_rfl) ?_
  repeat (go_big_quiet_step ((first | (go_at_call 89; exact Calls.plus_of (bit_any _ _ _ h1 h2 (by simp))) | (go_at_call 98; exact Calls.plus_of (in_b _ (by assumption))))))
  refine wpQuiet_nil ?_
  intro ex
  go_wp2_with fail
  refine wp_region_grow (by kernel_rfl) (by kernel_rfl) ?_
  repeat (go_big_quiet_step ((first | (go_at_call 89; exact Calls.plus_of (bit_any _ _ _ h1 h2 (by simp))) | (go_at_call 98; exact Calls.plus_of (in_b _ (by assumption))))))
  refine wpQuiet_nil ?_
  intro ex
  go_wp2_with fail
  go_ret
  exact ⟨rfl, by (repeat (first | exact Plus.refl _ | apply Plus.plus | apply Plus.alloc | apply Plus.drew))⟩
theorem refRight_any (b : BdR) (w : World) : Calls Try.prog 88 #[b.v] w fun e w' => e = .returned (.bool (rightB b)) ∧ w.Plus w' := by
  rw [rightB_and]
  rcases (by omega : (b.mask < 0 ∨ 31 < b.mask) ∨ (0 ≤ b.mask ∧ b.mask ≤ 31)) with h | ⟨h1, h2⟩
  · have : maskB b.mask = false := by
      rw [← Bool.not_eq_true, maskB_iff]
      omega
    rw [this]
    exact refRight_out b w h
  rw [(maskB_iff _).2 ⟨h1, h2⟩]
  rcases Bool.eq_false_or_eq_true (withinB (bitB b.mask 1) b.x (-1073741824) 1073741824) with p1 | p1
  rotate_left
  · rw [p1]
    exact refRight_0 b w h1 h2 p1
  rcases Bool.eq_false_or_eq_true (withinB (bitB b.mask 1) b.y (-1073741824) 1073741824) with p2 | p2
  rotate_left
  · rw [p1, p2]
    exact refRight_1 b w h1 h2 p1 p2
  rcases Bool.eq_false_or_eq_true (withinB (bitB b.mask 2) b.vx (-1073741824) 1073741824) with p3 | p3
  rotate_left
  · rw [p1, p2, p3]
    exact refRight_2 b w h1 h2 p1 p2 p3
  rcases Bool.eq_false_or_eq_true (withinB (bitB b.mask 2) b.vy (-1073741824) 1073741824) with p4 | p4
  rotate_left
  · rw [p1, p2, p3, p4]
    exact refRight_3 b w h1 h2 p1 p2 p3 p4
  rcases Bool.eq_false_or_eq_true (withinB (bitB b.mask 4) b.hp 1 1048576) with p5 | p5
  rotate_left
  · rw [p1, p2, p3, p4, p5]
    exact refRight_4 b w h1 h2 p1 p2 p3 p4 p5
  rcases Bool.eq_false_or_eq_true (withinB (bitB b.mask 8) b.pw 0 1024) with p6 | p6
  rotate_left
  · rw [p1, p2, p3, p4, p5, p6]
    exact refRight_5 b w h1 h2 p1 p2 p3 p4 p5 p6
  rcases Bool.eq_false_or_eq_true (withinB (bitB b.mask 16) b.lf 1 1048576) with p7 | p7
  rotate_left
  · rw [p1, p2, p3, p4, p5, p6, p7]
    exact refRight_6 b w h1 h2 p1 p2 p3 p4 p5 p6 p7
  rw [p1, p2, p3, p4, p5, p6, p7]
  exact refRight_7 b w h1 h2 p1 p2 p3 p4 p5 p6 p7
theorem may_any (b : BdR) (w : World) : Calls Try.prog 50 #[b.v] w fun e w' => e = .returned (.bool (okB b)) ∧ w.Plus w' := by
  have hM : rightB b = true → 0 ≤ b.mask ∧ b.mask ≤ 31 := fun h => by
    unfold rightB at h
    rw [Bool.and_eq_true, maskB_iff] at h
    exact h.1
  have hO : okB b = (rightB b && bitB b.mask 1 && idB b.id) := rfl
  have kR := fun wz => refRight_any b wz
  have kI := fun wz => rightID_any b.id wz
  rw [hO]
  clear hO
  generalize rightB b = r at *
  generalize idB b.id = q at *
  replace kR := Lib.hid kR
  replace kI := Lib.hid kI
  cases q
  · clear hM kR
    go_enter Try.func50, Try.ntmps50
    go_wp2_with (go_at_call 46; (with_reducible refine (kI.out _).mono ?_); rintro e w' ⟨rfl, ey, rfl⟩)
    go_ret
    exact ⟨by simp, by (repeat (first | exact Plus.refl _ | apply Plus.plus | apply Plus.alloc | apply Plus.drew))⟩
  cases r
  · clear hM
    go_enter Try.func50, Try.ntmps50
    go_wp2_with (first | (go_at_call 46; (with_reducible refine (kI.out _).mono ?_); rintro e w' ⟨rfl, ey, rfl⟩) | (go_at_call 88; (with_reducible refine (kR.out _).mono ?_); rintro e w' ⟨rfl, ey, rfl⟩))
    go_ret
    exact ⟨by simp, by (repeat (first | exact Plus.refl _ | apply Plus.plus | apply Plus.alloc | apply Plus.drew))⟩
  · have kH := fun wz => bit_any b.mask 1 wz (hM rfl).1 (hM rfl).2 (by simp)
    clear hM
    generalize bitB b.mask 1 = p at *
    replace kH := Lib.hid kH
    go_enter Try.func50, Try.ntmps50
    go_wp2_with (first | (go_at_call 46; (with_reducible refine (kI.out _).mono ?_); rintro e w' ⟨rfl, ey, rfl⟩) | (go_at_call 88; (with_reducible refine (kR.out _).mono ?_); rintro e w' ⟨rfl, ey, rfl⟩) | (go_at_call 89; (with_reducible refine (kH.out _).mono ?_); rintro e w' ⟨rfl, ey, rfl⟩))
    go_ret
    exact ⟨by simp, by (repeat (first | exact Plus.refl _ | apply Plus.plus | apply Plus.alloc | apply Plus.drew))⟩
end Go.Proofs.Ytjfjecjigakdnaa
