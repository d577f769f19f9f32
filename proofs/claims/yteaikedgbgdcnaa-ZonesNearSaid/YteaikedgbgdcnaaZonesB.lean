/- zones: the reference's Check. -/
import Derived.Test.YteaikedgbgdcnaaZones
set_option linter.unusedSimpArgs false
set_option linter.unusedVariables false
namespace Go.Proofs.Yteaikedgbgdcnaa
open Go.RowKit
theorem within_any (n lo hi : Int) (w : World) :
    Calls Try.prog 33 #[.int .i64 n, .int .i64 lo, .int .i64 hi] w fun e w' => e = .returned (.bool (decide (lo ≤ n) && decide (n ≤ hi))) ∧ w.Plus w' := by
  go_enter Try.func33, Try.ntmps33
  cases h1 : decide (lo ≤ n)
  · have h2 : ¬ lo ≤ n := by simpa using h1
    go_wp2
    all_goals go_ret
    all_goals exact ⟨by simp <;> omega, by (repeat (first | exact Plus.refl _ | apply Plus.plus | apply Plus.alloc | apply Plus.drew))⟩
  · have h2 : lo ≤ n := by simpa using h1
    go_wp2
    all_goals go_ret
    all_goals exact ⟨by simp <;> omega, by (repeat (first | exact Plus.refl _ | apply Plus.plus | apply Plus.alloc | apply Plus.drew))⟩
theorem refCheck_any (a b s r p i q : Int) (w : World) :
    Calls Try.prog 12 #[(Cfg.mk a b s r p i q).v] w fun e w' => (∃ n : Int, e = .returned (.int .i64 n) ∧ (n = 0 ∧ (Cfg.mk a b s r p i q).ok ∨ n = 1 ∧ ¬ (Cfg.mk a b s r p i q).ok)) ∧ w.Plus w' := by
  unfold Cfg.v
  have W0 := fun w => within_any a 1 4 w
  have W1 := fun w => within_any b 1 4 w
  have W2 := fun w => within_any s 256 1048576 w
  have W3 := fun w => within_any r 0 s w
  have W4 := fun w => within_any p 0 s w
  have W5 := fun w => within_any i 1 16 w
  have W6 := fun w => within_any q 1 64 w
  generalize hB0 : (decide (1 ≤ a) && decide (a ≤ 4)) = B0 at W0
  generalize hB1 : (decide (1 ≤ b) && decide (b ≤ 4)) = B1 at W1
  generalize hB2 : (decide (256 ≤ s) && decide (s ≤ 1048576)) = B2 at W2
  generalize hB3 : (decide (0 ≤ r) && decide (r ≤ s)) = B3 at W3
  generalize hB4 : (decide (0 ≤ p) && decide (p ≤ s)) = B4 at W4
  generalize hB5 : (decide (1 ≤ i) && decide (i ≤ 16)) = B5 at W5
  generalize hB6 : (decide (1 ≤ q) && decide (q ≤ 64)) = B6 at W6
  replace hB0 := Lib.hid hB0
  replace hB1 := Lib.hid hB1
  replace hB2 := Lib.hid hB2
  replace hB3 := Lib.hid hB3
  replace hB4 := Lib.hid hB4
  replace hB5 := Lib.hid hB5
  replace hB6 := Lib.hid hB6
  go_enter Try.func12, Try.ntmps12
  cases B0
  · skip
    go_wp2_with (first | (go_at_call 33; (with_reducible refine (W0 _).mono ?_); rintro e w' ⟨rfl, ey, rfl⟩) | (go_at_call 33; (with_reducible refine (W1 _).mono ?_); rintro e w' ⟨rfl, ey, rfl⟩) | (go_at_call 33; (with_reducible refine (W2 _).mono ?_); rintro e w' ⟨rfl, ey, rfl⟩) | (go_at_call 33; (with_reducible refine (W3 _).mono ?_); rintro e w' ⟨rfl, ey, rfl⟩) | (go_at_call 33; (with_reducible refine (W4 _).mono ?_); rintro e w' ⟨rfl, ey, rfl⟩) | (go_at_call 33; (with_reducible refine (W5 _).mono ?_); rintro e w' ⟨rfl, ey, rfl⟩) | (go_at_call 33; (with_reducible refine (W6 _).mono ?_); rintro e w' ⟨rfl, ey, rfl⟩))
    have g0 := hB0.out
    simp at g0
    exact bodyPost_ret (v := .int .i64 1) (by simp [results, Try.results12, go_sem]) rfl ⟨⟨1, rfl, .inr ⟨rfl, by simp only [Cfg.ok]; omega⟩⟩, by (repeat (first | exact Plus.refl _ | apply Plus.plus | apply Plus.alloc | apply Plus.drew))⟩
  · skip
    cases B1
    · skip
      go_wp2_with (first | (go_at_call 33; (with_reducible refine (W0 _).mono ?_); rintro e w' ⟨rfl, ey, rfl⟩) | (go_at_call 33; (with_reducible refine (W1 _).mono ?_); rintro e w' ⟨rfl, ey, rfl⟩) | (go_at_call 33; (with_reducible refine (W2 _).mono ?_); rintro e w' ⟨rfl, ey, rfl⟩) | (go_at_call 33; (with_reducible refine (W3 _).mono ?_); rintro e w' ⟨rfl, ey, rfl⟩) | (go_at_call 33; (with_reducible refine (W4 _).mono ?_); rintro e w' ⟨rfl, ey, rfl⟩) | (go_at_call 33; (with_reducible refine (W5 _).mono ?_); rintro e w' ⟨rfl, ey, rfl⟩) | (go_at_call 33; (with_reducible refine (W6 _).mono ?_); rintro e w' ⟨rfl, ey, rfl⟩))
      have g0 := hB0.out
      have g1 := hB1.out
      simp at g0 g1
      exact bodyPost_ret (v := .int .i64 1) (by simp [results, Try.results12, go_sem]) rfl ⟨⟨1, rfl, .inr ⟨rfl, by simp only [Cfg.ok]; omega⟩⟩, by (repeat (first | exact Plus.refl _ | apply Plus.plus | apply Plus.alloc | apply Plus.drew))⟩
    · skip
      cases B2
      · skip
        go_wp2_with (first | (go_at_call 33; (with_reducible refine (W0 _).mono ?_); rintro e w' ⟨rfl, ey, rfl⟩) | (go_at_call 33; (with_reducible refine (W1 _).mono ?_); rintro e w' ⟨rfl, ey, rfl⟩) | (go_at_call 33; (with_reducible refine (W2 _).mono ?_); rintro e w' ⟨rfl, ey, rfl⟩) | (go_at_call 33; (with_reducible refine (W3 _).mono ?_); rintro e w' ⟨rfl, ey, rfl⟩) | (go_at_call 33; (with_reducible refine (W4 _).mono ?_); rintro e w' ⟨rfl, ey, rfl⟩) | (go_at_call 33; (with_reducible refine (W5 _).mono ?_); rintro e w' ⟨rfl, ey, rfl⟩) | (go_at_call 33; (with_reducible refine (W6 _).mono ?_); rintro e w' ⟨rfl, ey, rfl⟩))
        have g0 := hB0.out
        have g1 := hB1.out
        have g2 := hB2.out
        simp at g0 g1 g2
        exact bodyPost_ret (v := .int .i64 1) (by simp [results, Try.results12, go_sem]) rfl ⟨⟨1, rfl, .inr ⟨rfl, by simp only [Cfg.ok]; omega⟩⟩, by (repeat (first | exact Plus.refl _ | apply Plus.plus | apply Plus.alloc | apply Plus.drew))⟩
      · skip
        cases B3
        · skip
          go_wp2_with (first | (go_at_call 33; (with_reducible refine (W0 _).mono ?_); rintro e w' ⟨rfl, ey, rfl⟩) | (go_at_call 33; (with_reducible refine (W1 _).mono ?_); rintro e w' ⟨rfl, ey, rfl⟩) | (go_at_call 33; (with_reducible refine (W2 _).mono ?_); rintro e w' ⟨rfl, ey, rfl⟩) | (go_at_call 33; (with_reducible refine (W3 _).mono ?_); rintro e w' ⟨rfl, ey, rfl⟩) | (go_at_call 33; (with_reducible refine (W4 _).mono ?_); rintro e w' ⟨rfl, ey, rfl⟩) | (go_at_call 33; (with_reducible refine (W5 _).mono ?_); rintro e w' ⟨rfl, ey, rfl⟩) | (go_at_call 33; (with_reducible refine (W6 _).mono ?_); rintro e w' ⟨rfl, ey, rfl⟩))
          have g0 := hB0.out
          have g1 := hB1.out
          have g2 := hB2.out
          have g3 := hB3.out
          simp at g0 g1 g2 g3
          exact bodyPost_ret (v := .int .i64 1) (by simp [results, Try.results12, go_sem]) rfl ⟨⟨1, rfl, .inr ⟨rfl, by simp only [Cfg.ok]; omega⟩⟩, by (repeat (first | exact Plus.refl _ | apply Plus.plus | apply Plus.alloc | apply Plus.drew))⟩
        · skip
          cases B4
          · skip
            go_wp2_with (first | (go_at_call 33; (with_reducible refine (W0 _).mono ?_); rintro e w' ⟨rfl, ey, rfl⟩) | (go_at_call 33; (with_reducible refine (W1 _).mono ?_); rintro e w' ⟨rfl, ey, rfl⟩) | (go_at_call 33; (with_reducible refine (W2 _).mono ?_); rintro e w' ⟨rfl, ey, rfl⟩) | (go_at_call 33; (with_reducible refine (W3 _).mono ?_); rintro e w' ⟨rfl, ey, rfl⟩) | (go_at_call 33; (with_reducible refine (W4 _).mono ?_); rintro e w' ⟨rfl, ey, rfl⟩) | (go_at_call 33; (with_reducible refine (W5 _).mono ?_); rintro e w' ⟨rfl, ey, rfl⟩) | (go_at_call 33; (with_reducible refine (W6 _).mono ?_); rintro e w' ⟨rfl, ey, rfl⟩))
            have g0 := hB0.out
            have g1 := hB1.out
            have g2 := hB2.out
            have g3 := hB3.out
            have g4 := hB4.out
            simp at g0 g1 g2 g3 g4
            exact bodyPost_ret (v := .int .i64 1) (by simp [results, Try.results12, go_sem]) rfl ⟨⟨1, rfl, .inr ⟨rfl, by simp only [Cfg.ok]; omega⟩⟩, by (repeat (first | exact Plus.refl _ | apply Plus.plus | apply Plus.alloc | apply Plus.drew))⟩
          · skip
            cases B5
            · skip
              go_wp2_with (first | (go_at_call 33; (with_reducible refine (W0 _).mono ?_); rintro e w' ⟨rfl, ey, rfl⟩) | (go_at_call 33; (with_reducible refine (W1 _).mono ?_); rintro e w' ⟨rfl, ey, rfl⟩) | (go_at_call 33; (with_reducible refine (W2 _).mono ?_); rintro e w' ⟨rfl, ey, rfl⟩) | (go_at_call 33; (with_reducible refine (W3 _).mono ?_); rintro e w' ⟨rfl, ey, rfl⟩) | (go_at_call 33; (with_reducible refine (W4 _).mono ?_); rintro e w' ⟨rfl, ey, rfl⟩) | (go_at_call 33; (with_reducible refine (W5 _).mono ?_); rintro e w' ⟨rfl, ey, rfl⟩) | (go_at_call 33; (with_reducible refine (W6 _).mono ?_); rintro e w' ⟨rfl, ey, rfl⟩))
              have g0 := hB0.out
              have g1 := hB1.out
              have g2 := hB2.out
              have g3 := hB3.out
              have g4 := hB4.out
              have g5 := hB5.out
              simp at g0 g1 g2 g3 g4 g5
              exact bodyPost_ret (v := .int .i64 1) (by simp [results, Try.results12, go_sem]) rfl ⟨⟨1, rfl, .inr ⟨rfl, by simp only [Cfg.ok]; omega⟩⟩, by (repeat (first | exact Plus.refl _ | apply Plus.plus | apply Plus.alloc | apply Plus.drew))⟩
            · skip
              cases B6
              · skip
                go_wp2_with (first | (go_at_call 33; (with_reducible refine (W0 _).mono ?_); rintro e w' ⟨rfl, ey, rfl⟩) | (go_at_call 33; (with_reducible refine (W1 _).mono ?_); rintro e w' ⟨rfl, ey, rfl⟩) | (go_at_call 33; (with_reducible refine (W2 _).mono ?_); rintro e w' ⟨rfl, ey, rfl⟩) | (go_at_call 33; (with_reducible refine (W3 _).mono ?_); rintro e w' ⟨rfl, ey, rfl⟩) | (go_at_call 33; (with_reducible refine (W4 _).mono ?_); rintro e w' ⟨rfl, ey, rfl⟩) | (go_at_call 33; (with_reducible refine (W5 _).mono ?_); rintro e w' ⟨rfl, ey, rfl⟩) | (go_at_call 33; (with_reducible refine (W6 _).mono ?_); rintro e w' ⟨rfl, ey, rfl⟩))
                have g0 := hB0.out
                have g1 := hB1.out
                have g2 := hB2.out
                have g3 := hB3.out
                have g4 := hB4.out
                have g5 := hB5.out
                have g6 := hB6.out
                simp at g0 g1 g2 g3 g4 g5 g6
                exact bodyPost_ret (v := .int .i64 1) (by simp [results, Try.results12, go_sem]) rfl ⟨⟨1, rfl, .inr ⟨rfl, by simp only [Cfg.ok]; omega⟩⟩, by (repeat (first | exact Plus.refl _ | apply Plus.plus | apply Plus.alloc | apply Plus.drew))⟩
              · skip
                go_wp2_with (first | (go_at_call 33; (with_reducible refine (W0 _).mono ?_); rintro e w' ⟨rfl, ey, rfl⟩) | (go_at_call 33; (with_reducible refine (W1 _).mono ?_); rintro e w' ⟨rfl, ey, rfl⟩) | (go_at_call 33; (with_reducible refine (W2 _).mono ?_); rintro e w' ⟨rfl, ey, rfl⟩) | (go_at_call 33; (with_reducible refine (W3 _).mono ?_); rintro e w' ⟨rfl, ey, rfl⟩) | (go_at_call 33; (with_reducible refine (W4 _).mono ?_); rintro e w' ⟨rfl, ey, rfl⟩) | (go_at_call 33; (with_reducible refine (W5 _).mono ?_); rintro e w' ⟨rfl, ey, rfl⟩) | (go_at_call 33; (with_reducible refine (W6 _).mono ?_); rintro e w' ⟨rfl, ey, rfl⟩))
                have g0 := hB0.out
                have g1 := hB1.out
                have g2 := hB2.out
                have g3 := hB3.out
                have g4 := hB4.out
                have g5 := hB5.out
                have g6 := hB6.out
                simp at g0 g1 g2 g3 g4 g5 g6
                exact bodyPost_ret (v := .int .i64 0) (by simp [results, Try.results12, go_sem]) rfl ⟨⟨0, rfl, .inl ⟨rfl, by simp only [Cfg.ok]; omega⟩⟩, by (repeat (first | exact Plus.refl _ | apply Plus.plus | apply Plus.alloc | apply Plus.drew))⟩
end Go.Proofs.Yteaikedgbgdcnaa
