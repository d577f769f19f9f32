/- session: the reference's May: walk. -/
import Derived.Test.YtpmebmbibajcoaaSesC
set_option linter.unusedSimpArgs false
set_option linter.unusedVariables false
namespace Go.Proofs.Ytpmebmbibajcoaa
open Go.RowKit
theorem refIn_any (w : World) (n : Int) : Calls Try.prog 48 #[.int .i64 n] w fun e w' => e = .returned (.bool (inT n)) ∧ w.Plus w' := by
  have hI : inT n = decide (0 ≤ n ∧ n ≤ 1099511627776) := rfl
  generalize inT n = b at *
  by_cases h0 : 0 ≤ n
  · by_cases h1 : n ≤ 1099511627776
    · obtain rfl : b = true := by rw [hI]; simp [h0, h1]
      clear hI
      go_enter Try.func48, Try.ntmps48
      go_wp2_with fail
      go_ret
      exact ⟨rfl, by (repeat (first | exact Plus.refl _ | apply Plus.plus | apply Plus.alloc | apply Plus.drew))⟩
    · obtain rfl : b = false := by rw [hI]; simp [h1]
      clear hI
      go_enter Try.func48, Try.ntmps48
      go_wp2_with fail
      go_ret
      exact ⟨rfl, by (repeat (first | exact Plus.refl _ | apply Plus.plus | apply Plus.alloc | apply Plus.drew))⟩
  · obtain rfl : b = false := by rw [hI]; simp [h0]
    clear hI
    go_enter Try.func48, Try.ntmps48
    go_wp2_with fail
    go_ret
    exact ⟨rfl, by (repeat (first | exact Plus.refl _ | apply Plus.plus | apply Plus.alloc | apply Plus.drew))⟩
theorem okPost_alt (m y a s : Int) (t : ByteArray) : okPost ⟨m, y, a, s, t⟩ = (inT m && (!decide (m = 0) && (inT y && (inT a && (inT s && (decide (t.size ≤ 65472) && (decide (0 < s) || decide (t.size = 0)))))))) := by
  have hz : ∀ t : ByteArray, (t ≠ ⟨#[]⟩ ↔ t.size ≠ 0) := fun t => by rw [Ne, ← size_zero]
  unfold okPost
  simp only [hz]
  unfold inT
  by_cases h1 : 0 ≤ s
  · by_cases h2 : s = 0
    · rw [Bool.eq_iff_iff]
      simp [h2]
      constructor
      · rintro ⟨a1, a2, a3, a4, a5⟩
        exact ⟨a2, by omega, a3, a4, a5⟩
      · rintro ⟨a2, a1, a3, a4, a5⟩
        exact ⟨by omega, a2, a3, a4, a5⟩
    · have h3 : 0 < s := by omega
      rw [Bool.eq_iff_iff]
      simp [h2, h3]
      constructor
      · rintro ⟨a1, a2, a3, a4, a5, a6⟩
        exact ⟨a2, by omega, a3, a4, a5, a6⟩
      · rintro ⟨a2, a1, a3, a4, a5, a6⟩
        exact ⟨by omega, a2, a3, a4, a5, a6⟩
  · rw [Bool.eq_iff_iff]
    simp [h1]
set_option maxRecDepth 100000 in
theorem may_any (w : World) (p : Post) : Calls Try.prog 33 #[p.v] w fun e w' => e = .returned (.bool (okPost p)) ∧ w.Plus w' := by
  obtain ⟨m, y, a, s, t⟩ := p
  have hO := okPost_alt m y a s t
  have n1 := fun w => refIn_any w m
  have n2 := fun w => refIn_any w y
  have n3 := fun w => refIn_any w a
  have n4 := fun w => refIn_any w s
  generalize okPost ⟨m, y, a, s, t⟩ = O at *
  simp only [Post.v]
  cases i1 : inT m with
  | false =>
    rw [i1] at hO n1
    obtain rfl : O = false := by rw [hO]; rfl
    replace hO := Lib.hid hO
    replace n1 := Lib.hid n1
    replace n2 := Lib.hid n2
    replace n3 := Lib.hid n3
    replace n4 := Lib.hid n4
    go_enter Try.func33, Try.ntmps33
    go_wp2_with (first | (go_at_call 48; (with_reducible refine (n1.out _).mono ?_); rintro e w' ⟨rfl, e1, rfl⟩) | (go_at_call 48; (with_reducible refine (n2.out _).mono ?_); rintro e w' ⟨rfl, e2, rfl⟩) | (go_at_call 48; (with_reducible refine (n3.out _).mono ?_); rintro e w' ⟨rfl, e3, rfl⟩) | (go_at_call 48; (with_reducible refine (n4.out _).mono ?_); rintro e w' ⟨rfl, e4, rfl⟩))
    go_ret
    exact ⟨rfl, by (repeat (first | exact Plus.refl _ | apply Plus.plus | apply Plus.alloc | apply Plus.drew))⟩

  | true =>
  rw [i1] at hO n1
  rw [Bool.true_and] at hO
  clear i1
  by_cases h0 : m = 0
  · obtain rfl : O = false := by rw [hO, decide_eq_true h0]; rfl
    subst h0
    replace hO := Lib.hid hO
    replace n1 := Lib.hid n1
    replace n2 := Lib.hid n2
    replace n3 := Lib.hid n3
    replace n4 := Lib.hid n4
    go_enter Try.func33, Try.ntmps33
    go_wp2_with (first | (go_at_call 48; (with_reducible refine (n1.out _).mono ?_); rintro e w' ⟨rfl, e1, rfl⟩) | (go_at_call 48; (with_reducible refine (n2.out _).mono ?_); rintro e w' ⟨rfl, e2, rfl⟩) | (go_at_call 48; (with_reducible refine (n3.out _).mono ?_); rintro e w' ⟨rfl, e3, rfl⟩) | (go_at_call 48; (with_reducible refine (n4.out _).mono ?_); rintro e w' ⟨rfl, e4, rfl⟩))
    go_ret
    exact ⟨rfl, by (repeat (first | exact Plus.refl _ | apply Plus.plus | apply Plus.alloc | apply Plus.drew))⟩

  have h0b : (m == 0) = false := by rw [beq_eq_false_iff_ne]; exact h0
  rw [decide_eq_false h0, Bool.not_false, Bool.true_and] at hO
  replace h0 := Lib.hid h0
  cases i2 : inT y with
  | false =>
    rw [i2] at hO n2
    obtain rfl : O = false := by rw [hO]; rfl
    replace hO := Lib.hid hO
    replace n1 := Lib.hid n1
    replace n2 := Lib.hid n2
    replace n3 := Lib.hid n3
    replace n4 := Lib.hid n4
    go_enter Try.func33, Try.ntmps33
    go_wp2_with (first | (go_at_call 48; (with_reducible refine (n1.out _).mono ?_); rintro e w' ⟨rfl, e1, rfl⟩) | (go_at_call 48; (with_reducible refine (n2.out _).mono ?_); rintro e w' ⟨rfl, e2, rfl⟩) | (go_at_call 48; (with_reducible refine (n3.out _).mono ?_); rintro e w' ⟨rfl, e3, rfl⟩) | (go_at_call 48; (with_reducible refine (n4.out _).mono ?_); rintro e w' ⟨rfl, e4, rfl⟩))
    go_ret
    exact ⟨rfl, by (repeat (first | exact Plus.refl _ | apply Plus.plus | apply Plus.alloc | apply Plus.drew))⟩

  | true =>
  rw [i2] at hO n2
  rw [Bool.true_and] at hO
  clear i2
  cases i3 : inT a with
  | false =>
    rw [i3] at hO n3
    obtain rfl : O = false := by rw [hO]; rfl
    replace hO := Lib.hid hO
    replace n1 := Lib.hid n1
    replace n2 := Lib.hid n2
    replace n3 := Lib.hid n3
    replace n4 := Lib.hid n4
    go_enter Try.func33, Try.ntmps33
    go_wp2_with (first | (go_at_call 48; (with_reducible refine (n1.out _).mono ?_); rintro e w' ⟨rfl, e1, rfl⟩) | (go_at_call 48; (with_reducible refine (n2.out _).mono ?_); rintro e w' ⟨rfl, e2, rfl⟩) | (go_at_call 48; (with_reducible refine (n3.out _).mono ?_); rintro e w' ⟨rfl, e3, rfl⟩) | (go_at_call 48; (with_reducible refine (n4.out _).mono ?_); rintro e w' ⟨rfl, e4, rfl⟩))
    go_ret
    exact ⟨rfl, by (repeat (first | exact Plus.refl _ | apply Plus.plus | apply Plus.alloc | apply Plus.drew))⟩

  | true =>
  rw [i3] at hO n3
  rw [Bool.true_and] at hO
  clear i3
  cases i4 : inT s with
  | false =>
    rw [i4] at hO n4
    obtain rfl : O = false := by rw [hO]; rfl
    replace hO := Lib.hid hO
    replace n1 := Lib.hid n1
    replace n2 := Lib.hid n2
    replace n3 := Lib.hid n3
    replace n4 := Lib.hid n4
    go_enter Try.func33, Try.ntmps33
    go_wp2_with (first | (go_at_call 48; (with_reducible refine (n1.out _).mono ?_); rintro e w' ⟨rfl, e1, rfl⟩) | (go_at_call 48; (with_reducible refine (n2.out _).mono ?_); rintro e w' ⟨rfl, e2, rfl⟩) | (go_at_call 48; (with_reducible refine (n3.out _).mono ?_); rintro e w' ⟨rfl, e3, rfl⟩) | (go_at_call 48; (with_reducible refine (n4.out _).mono ?_); rintro e w' ⟨rfl, e4, rfl⟩))
    go_ret
    exact ⟨rfl, by (repeat (first | exact Plus.refl _ | apply Plus.plus | apply Plus.alloc | apply Plus.drew))⟩

  | true =>
  rw [i4] at hO n4
  rw [Bool.true_and] at hO
  clear i4
  by_cases h5 : 65472 < t.size
  · obtain rfl : O = false := by rw [hO, decide_eq_false (by omega)]; rfl
    have h5i : ¬ (t.size : Int) ≤ 65472 := by omega
    have h5b : decide (t.size ≤ 65472) = false := decide_eq_false (by omega)
    replace h5 := Lib.hid h5
    replace hO := Lib.hid hO
    replace n1 := Lib.hid n1
    replace n2 := Lib.hid n2
    replace n3 := Lib.hid n3
    replace n4 := Lib.hid n4
    go_enter Try.func33, Try.ntmps33
    go_wp2_with (first | (go_at_call 48; (with_reducible refine (n1.out _).mono ?_); rintro e w' ⟨rfl, e1, rfl⟩) | (go_at_call 48; (with_reducible refine (n2.out _).mono ?_); rintro e w' ⟨rfl, e2, rfl⟩) | (go_at_call 48; (with_reducible refine (n3.out _).mono ?_); rintro e w' ⟨rfl, e3, rfl⟩) | (go_at_call 48; (with_reducible refine (n4.out _).mono ?_); rintro e w' ⟨rfl, e4, rfl⟩))
    go_ret
    exact ⟨rfl, by (repeat (first | exact Plus.refl _ | apply Plus.plus | apply Plus.alloc | apply Plus.drew))⟩

  have h5i : (t.size : Int) ≤ 65472 := by omega
  have h5b : decide (t.size ≤ 65472) = true := decide_eq_true (by omega)
  rw [h5b, Bool.true_and] at hO
  by_cases h6 : 0 < s
  · obtain rfl : O = true := by rw [hO, decide_eq_true h6]; rfl
    have h6b : decide (0 < s) = true := decide_eq_true h6
    replace hO := Lib.hid hO
    replace n1 := Lib.hid n1
    replace n2 := Lib.hid n2
    replace n3 := Lib.hid n3
    replace n4 := Lib.hid n4
    go_enter Try.func33, Try.ntmps33
    go_wp2_with (first | (go_at_call 48; (with_reducible refine (n1.out _).mono ?_); rintro e w' ⟨rfl, e1, rfl⟩) | (go_at_call 48; (with_reducible refine (n2.out _).mono ?_); rintro e w' ⟨rfl, e2, rfl⟩) | (go_at_call 48; (with_reducible refine (n3.out _).mono ?_); rintro e w' ⟨rfl, e3, rfl⟩) | (go_at_call 48; (with_reducible refine (n4.out _).mono ?_); rintro e w' ⟨rfl, e4, rfl⟩))
    go_ret
    exact ⟨rfl, by (repeat (first | exact Plus.refl _ | apply Plus.plus | apply Plus.alloc | apply Plus.drew))⟩

  have h6b : decide (0 < s) = false := decide_eq_false h6
  rw [h6b, Bool.false_or] at hO
  by_cases h7 : t.size = 0
  · obtain rfl : O = true := by rw [hO, decide_eq_true h7]
    have h7b : ((t.size : Int) == 0) = true := by rw [beq_iff_eq]; omega
    replace h7 := Lib.hid h7
    replace hO := Lib.hid hO
    replace n1 := Lib.hid n1
    replace n2 := Lib.hid n2
    replace n3 := Lib.hid n3
    replace n4 := Lib.hid n4
    go_enter Try.func33, Try.ntmps33
    go_wp2_with (first | (go_at_call 48; (with_reducible refine (n1.out _).mono ?_); rintro e w' ⟨rfl, e1, rfl⟩) | (go_at_call 48; (with_reducible refine (n2.out _).mono ?_); rintro e w' ⟨rfl, e2, rfl⟩) | (go_at_call 48; (with_reducible refine (n3.out _).mono ?_); rintro e w' ⟨rfl, e3, rfl⟩) | (go_at_call 48; (with_reducible refine (n4.out _).mono ?_); rintro e w' ⟨rfl, e4, rfl⟩))
    go_ret
    exact ⟨rfl, by (repeat (first | exact Plus.refl _ | apply Plus.plus | apply Plus.alloc | apply Plus.drew))⟩

  · obtain rfl : O = false := by rw [hO, decide_eq_false h7]
    have h7b : ((t.size : Int) == 0) = false := by rw [beq_eq_false_iff_ne]; omega
    replace h7 := Lib.hid h7
    replace hO := Lib.hid hO
    replace n1 := Lib.hid n1
    replace n2 := Lib.hid n2
    replace n3 := Lib.hid n3
    replace n4 := Lib.hid n4
    go_enter Try.func33, Try.ntmps33
    go_wp2_with (first | (go_at_call 48; (with_reducible refine (n1.out _).mono ?_); rintro e w' ⟨rfl, e1, rfl⟩) | (go_at_call 48; (with_reducible refine (n2.out _).mono ?_); rintro e w' ⟨rfl, e2, rfl⟩) | (go_at_call 48; (with_reducible refine (n3.out _).mono ?_); rintro e w' ⟨rfl, e3, rfl⟩) | (go_at_call 48; (with_reducible refine (n4.out _).mono ?_); rintro e w' ⟨rfl, e4, rfl⟩))
    go_ret
    exact ⟨rfl, by (repeat (first | exact Plus.refl _ | apply Plus.plus | apply Plus.alloc | apply Plus.drew))⟩

end Go.Proofs.Ytpmebmbibajcoaa
