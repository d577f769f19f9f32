/- the reference's Reader: walks. -/
import Derived.Test.YtjfjecjigakdnaaReader2
set_option linter.unusedSimpArgs false
set_option linter.unusedVariables false
namespace Go.Proofs.Ytjfjecjigakdnaa.Octs
open Go.RowKit
theorem num_from (l : List UInt8) : ∀ a : Nat, l.foldl (fun n b => 256 * n + b.toNat) a = a * 256 ^ l.length + num l := by
  induction l with
  | nil => intro a; simp [num]
  | cons b l ih =>
    intro a
    have h1 := ih (256 * a + b.toNat)
    have h2 := ih b.toNat
    have h3 : num (b :: l) = l.foldl (fun n b => 256 * n + b.toNat) b.toNat := by simp [num]
    rw [List.foldl_cons, h1, h3, h2, List.length_cons, Nat.pow_succ, Nat.add_mul, Nat.add_assoc]
    congr 1
    rw [Nat.mul_comm 256 a, Nat.mul_assoc, Nat.mul_comm 256]
theorem num_cons (b : UInt8) (l : List UInt8) : num (b :: l) = b.toNat * 256 ^ l.length + num l := by
  rw [← num_from l b.toNat]; simp [num]
theorem headD_small (s : ByteArray) (hk : headK s < s.size) (h8 : headK s ≤ 8) : headD s < 9223372036854775808 ↔ ¬ (headK s = 8 ∧ 127 < ((bytes s).getD 1 0).toNat) := by
  have hD : headD s = num (((bytes s).drop 1).take (headK s)) := rfl
  have hpl : (((bytes s).drop 1).take (headK s)).length = headK s := by rw [List.length_take, List.length_drop, bytes_length]; omega
  rw [hD]
  by_cases h7 : headK s ≤ 7
  · have := num_lt7 (((bytes s).drop 1).take (headK s)) (by omega)
    constructor
    · intro _ h; omega
    · intro _; omega
  · have he : headK s = 8 := by omega
    have hp := part_get s (headK s) 0 (by omega) hk
    generalize hL : ((bytes s).drop 1).take (headK s) = L at *
    rw [he] at *
    cases L with
    | nil => simp at hpl
    | cons b l =>
      have h1 : (b :: l).getD 0 0 = b := rfl
      rw [h1] at hp
      rw [← hp, num_cons]
      have h2 := num_lt l
      have h3 : l.length = 7 := by simpa using hpl
      rw [h3] at h2 ⊢
      simp only [Nat.reducePow] at h2 ⊢
      have := b.toNat_lt
      constructor
      · intro h h5
        have h2 := h5.2
        omega
      · intro h
        have h4 : ¬ 127 < b.toNat := fun h2 => h (by simp; exact h2)
        omega
section
variable (w : World) (N : Nat) (s : ByteArray) (b : Bool)
set_option maxRecDepth 100000 in
theorem spoil_any (h : RdAt w N s b) : Calls Try.prog 93 #[rdV N] w (RdPost w N (.tuple #[]) ⟨#[]⟩ true) := by
  have hr := h
  obtain ⟨lt, c0, c1, f0, f1⟩ := h
  haveI : InW N w := ⟨lt⟩
  replace hr := Lib.hid hr
  go_enter Try.func93, Try.ntmps93
  go_wp2_with fail
  go_end0
  exact ⟨rfl, (hr.out.set1 _).set0 _, ((Upd.refl _ _).setCell _ _).setCell _ _⟩
set_option maxRecDepth 100000 in
theorem refInt1 (h : RdAt w N ⟨#[]⟩ true) : Calls Try.prog 56 #[rdV N] w (RdPost w N (.int .i64 0) ⟨#[]⟩ true) := by
  have hS := Lib.hid (fun w' h' => spoil_any w' N ⟨#[]⟩ true h')
  have hr := Lib.hid h
  obtain ⟨lt, c0, c1, f0, f1⟩ := h
  haveI : InW N w := ⟨lt⟩
  go_enter Try.func56, Try.ntmps56
  go_wp2_with (first | (go_at_call 93; (with_reducible refine (hS.out _ hr.out).mono ?_); rintro e w' ⟨rfl, hr1, hu1⟩))
  go_ret
  exact ⟨rfl, hr1, hu1⟩
set_option maxRecDepth 100000 in
theorem refInt2 (h : RdAt w N s false) (hz : s.size = 0) : Calls Try.prog 56 #[rdV N] w (RdPost w N (.int .i64 0) ⟨#[]⟩ true) := by
  have hS := Lib.hid (fun w' h' => spoil_any w' N s false h')
  have hr := Lib.hid h
  obtain ⟨lt, c0, c1, f0, f1⟩ := h
  haveI : InW N w := ⟨lt⟩
  have hzi : (s.size : Int) = 0 := by omega
  go_enter Try.func56, Try.ntmps56
  go_wp2_with (first | (go_at_call 93; (with_reducible refine (hS.out _ hr.out).mono ?_); rintro e w' ⟨rfl, hr1, hu1⟩))
  go_ret
  exact ⟨rfl, hr1, hu1⟩
set_option maxRecDepth 100000 in
theorem refInt3 (k : Nat) (h : RdAt w N s false) (hs : s.size ≤ 1000000000) (h0 : 0 < s.size) (hk : s[0].toNat % 128 = k) (h8 : 8 < k) : Calls Try.prog 56 #[rdV N] w (RdPost w N (.int .i64 0) ⟨#[]⟩ true) := by
  have hS := Lib.hid (fun w' h' => spoil_any w' N s false h')
  have hr := Lib.hid h
  obtain ⟨lt, c0, c1, f0, f1⟩ := h
  haveI : InW N w := ⟨lt⟩
  have hz0 : ((s.size : Int) == 0) = false := by rw [beq_eq_false_iff_ne]; omega
  have hw0 : wrap64 ((s[0].toNat : Nat) : Int) = ((s[0].toNat : Nat) : Int) := w64_id (by omega) (by have := s[0].toNat_lt; omega)
  have hrem : ((s[0].toNat : Nat) : Int).tmod 128 = (k : Int) := by rw [Int.tmod_eq_emod_of_nonneg (by omega)]; omega
  have hrem2 : ((s[0].toNat : Nat) : Int) % 128 = (k : Int) := by omega
  have hw1 : wrap64 (1 + (k : Int)) = 1 + k := w64_id (by have := s[0].toNat_lt; omega) (by have := s[0].toNat_lt; omega)
  replace hk := Lib.hid hk
  have h8i : (8 : Int) < k := by omega
  go_enter Try.func56, Try.ntmps56
  go_wp2_with (first | (go_at_call 93; (with_reducible refine (hS.out _ hr.out).mono ?_); rintro e w' ⟨rfl, hr1, hu1⟩))
  go_ret
  exact ⟨rfl, hr1, hu1⟩
set_option maxRecDepth 100000 in
theorem refInt4 (k : Nat) (h : RdAt w N s false) (hs : s.size ≤ 1000000000) (h0 : 0 < s.size) (hk : s[0].toNat % 128 = k) (h8 : k ≤ 8) (hks : s.size < 1 + k) : Calls Try.prog 56 #[rdV N] w (RdPost w N (.int .i64 0) ⟨#[]⟩ true) := by
  have hS := Lib.hid (fun w' h' => spoil_any w' N s false h')
  have hr := Lib.hid h
  obtain ⟨lt, c0, c1, f0, f1⟩ := h
  haveI : InW N w := ⟨lt⟩
  have hz0 : ((s.size : Int) == 0) = false := by rw [beq_eq_false_iff_ne]; omega
  have hw0 : wrap64 ((s[0].toNat : Nat) : Int) = ((s[0].toNat : Nat) : Int) := w64_id (by omega) (by have := s[0].toNat_lt; omega)
  have hrem : ((s[0].toNat : Nat) : Int).tmod 128 = (k : Int) := by rw [Int.tmod_eq_emod_of_nonneg (by omega)]; omega
  have hrem2 : ((s[0].toNat : Nat) : Int) % 128 = (k : Int) := by omega
  have hw1 : wrap64 (1 + (k : Int)) = 1 + k := w64_id (by have := s[0].toNat_lt; omega) (by have := s[0].toNat_lt; omega)
  replace hk := Lib.hid hk
  have h8i : ¬ (8 : Int) < k := by omega
  have hki : (s.size : Int) < 1 + (k : Int) := by omega
  go_enter Try.func56, Try.ntmps56
  go_wp2_with (first | (go_at_call 93; (with_reducible refine (hS.out _ hr.out).mono ?_); rintro e w' ⟨rfl, hr1, hu1⟩))
  go_ret
  exact ⟨rfl, hr1, hu1⟩
set_option maxRecDepth 100000 in
theorem refInt5 (k : Nat) (h : RdAt w N s false) (hs : s.size ≤ 1000000000) (h0 : 0 < s.size) (hk : s[0].toNat % 128 = k) (h8 : k ≤ 8) (hks : ¬ s.size < 1 + k) (hk0 : 0 < k) (hz : s[1].toNat = 0) : Calls Try.prog 56 #[rdV N] w (RdPost w N (.int .i64 0) ⟨#[]⟩ true) := by
  have hS := Lib.hid (fun w' h' => spoil_any w' N s false h')
  have hr := Lib.hid h
  obtain ⟨lt, c0, c1, f0, f1⟩ := h
  haveI : InW N w := ⟨lt⟩
  have hz0 : ((s.size : Int) == 0) = false := by rw [beq_eq_false_iff_ne]; omega
  have hw0 : wrap64 ((s[0].toNat : Nat) : Int) = ((s[0].toNat : Nat) : Int) := w64_id (by omega) (by have := s[0].toNat_lt; omega)
  have hrem : ((s[0].toNat : Nat) : Int).tmod 128 = (k : Int) := by rw [Int.tmod_eq_emod_of_nonneg (by omega)]; omega
  have hrem2 : ((s[0].toNat : Nat) : Int) % 128 = (k : Int) := by omega
  have hw1 : wrap64 (1 + (k : Int)) = 1 + k := w64_id (by have := s[0].toNat_lt; omega) (by have := s[0].toNat_lt; omega)
  replace hk := Lib.hid hk
  have h8i : ¬ (8 : Int) < k := by omega
  have hki : ¬ (s.size : Int) < 1 + (k : Int) := by omega
  have hk0i : (0 : Int) < k := by omega
  have h1i : (1 : Int) < s.size := by omega
  have hz1i : ((s[1].toNat : Nat) : Int) = 0 := by omega
  go_enter Try.func56, Try.ntmps56
  go_wp2_with (first | (go_at_call 93; (with_reducible refine (hS.out _ hr.out).mono ?_); rintro e w' ⟨rfl, hr1, hu1⟩))
  go_ret
  exact ⟨rfl, hr1, hu1⟩
set_option maxRecDepth 100000 in
theorem refInt6 (h : RdAt w N s false) (hs : s.size ≤ 1000000000) (h0 : 0 < s.size) (hk : s[0].toNat % 128 = 8) (hks : 8 < s.size) (hz : ¬ s[1].toNat = 0) (h127 : 127 < s[1].toNat) : Calls Try.prog 56 #[rdV N] w (RdPost w N (.int .i64 0) ⟨#[]⟩ true) := by
  obtain ⟨k, hk8⟩ : ∃ k, k = 8 := ⟨_, rfl⟩
  rw [← hk8] at hk
  have hS := Lib.hid (fun w' h' => spoil_any w' N s false h')
  have hr := Lib.hid h
  obtain ⟨lt, c0, c1, f0, f1⟩ := h
  haveI : InW N w := ⟨lt⟩
  have hz0 : ((s.size : Int) == 0) = false := by rw [beq_eq_false_iff_ne]; omega
  have hw0 : wrap64 ((s[0].toNat : Nat) : Int) = ((s[0].toNat : Nat) : Int) := w64_id (by omega) (by have := s[0].toNat_lt; omega)
  have hrem : ((s[0].toNat : Nat) : Int).tmod 128 = (k : Int) := by rw [Int.tmod_eq_emod_of_nonneg (by omega)]; omega
  have hrem2 : ((s[0].toNat : Nat) : Int) % 128 = (k : Int) := by omega
  have hw1 : wrap64 (1 + (k : Int)) = 1 + k := w64_id (by have := s[0].toNat_lt; omega) (by have := s[0].toNat_lt; omega)
  have hrem3 := hrem
  subst hk8
  have hki : ¬ (s.size : Int) < 9 := by omega
  have h1i : (1 : Int) < s.size := by omega
  have hz1i : (((s[1].toNat : Nat) : Int) == 0) = false := by rw [beq_eq_false_iff_ne]; omega
  have h127i : (127 : Int) < ((s[1].toNat : Nat) : Int) := by omega
  go_enter Try.func56, Try.ntmps56
  go_wp2_with (first | (go_at_call 93; (with_reducible refine (hS.out _ hr.out).mono ?_); rintro e w' ⟨rfl, hr1, hu1⟩))
  go_ret
  exact ⟨rfl, hr1, hu1⟩
end
end Go.Proofs.Ytjfjecjigakdnaa.Octs
