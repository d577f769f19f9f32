/- What the functions of rectangles come to: contracts of the program's and of the reference's functions (no condition but that integers are those of int). -/
import Derived.Test.YteaikedgbgdcnaaProg
import Derived.Test.YteaikedgbgdcnaaGrow
import Derived.Deep.RegionHeld3
import Derived.Outline
import Derived.Deep.DeepCutAuto
set_option linter.unusedSimpArgs false
set_option linter.unusedVariables false
namespace Go.Proofs.Yteaikedgbgdcnaa
open Go.RowKit
def clamp (n : Int) : Int := max (-1073741824) (min 1073741824 n)
theorem clamp_bd (n : Int) : -1073741824 ≤ clamp n ∧ clamp n ≤ 1073741824 := by unfold clamp; omega
/-- how far n lies outside of lo to hi -/
def offI (n lo hi : Int) : Int := max (lo - n) (max (n - hi) 0)
theorem offI_bd (n lo hi : Int) (h1 : -4294967296 ≤ n ∧ n ≤ 4294967296) (h2 : -4294967296 ≤ lo ∧ lo ≤ 4294967296) (h3 : -4294967296 ≤ hi ∧ hi ≤ 4294967296) : 0 ≤ offI n lo hi ∧ offI n lo hi ≤ 8589934592 := by unfold offI; omega
abbrev rectV (a b c d : Int) : Value := .agg #[.int .i64 a, .int .i64 b, .int .i64 c, .int .i64 d]

theorem fixedClamp (n : Int) (w : World) : Calls Try.prog 43 #[.int .i64 n] w fun e w' => e = .returned (.int .i64 (clamp n)) ∧ w.Plus w' := by
  go_enter Try.func43, Try.ntmps43
  go_wp2
  go_ret
  exact ⟨rfl, Plus.refl _⟩
theorem refClamp (n : Int) (w : World) : Calls Try.prog 44 #[.int .i64 n] w fun e w' => e = .returned (.int .i64 (clamp n)) ∧ w.Plus w' := by
  go_enter Try.func44, Try.ntmps44
  go_wp2
  all_goals (go_ret; exact ⟨ret_int (by unfold clamp; omega), Plus.refl _⟩)
theorem off_any (n lo hi : Int) (w : World) (h1 : -4294967296 ≤ n ∧ n ≤ 4294967296) (h2 : -4294967296 ≤ lo ∧ lo ≤ 4294967296) (h3 : -4294967296 ≤ hi ∧ hi ≤ 4294967296) :
    Calls Try.prog 42 #[.int .i64 n, .int .i64 lo, .int .i64 hi] w fun e w' => e = .returned (.int .i64 (offI n lo hi)) ∧ w.Plus w' := by
  go_enter Try.func42, Try.ntmps42
  go_wp2
  go_ret
  exact ⟨rfl, Plus.refl _⟩

theorem box_any (a b c d : Int) (w : World) : Calls Try.prog 41 #[rectV a b c d] w fun e w' => e = .returned (.tuple #[rectV (clamp a) (clamp b) (clamp c) (clamp d), .bool (decide (clamp a < clamp c ∧ clamp b < clamp d))]) ∧ w.Plus w' := by
  cases h : decide (clamp a < clamp c)
  all_goals
    go_enter Try.func41, Try.ntmps41
    go_wp2
    refine wp_region_grow_tail 13 (by kernel_rfl) (by kernel_rfl) ?_
    simp only [List.take_succ_cons, List.take_zero, List.drop_succ_cons, List.drop_zero]
    repeat (go_big_quiet_step ((first | (go_at_call 43; exact Calls.plus_of (fixedClamp _ _)) | (go_at_call 44; exact Calls.plus_of (refClamp _ _)) | (go_at_call 42; exact Calls.plus_of (off_any _ _ _ _ (by omega) (by omega) (by omega))))))
    refine wpQuiet_nil ?_
    intro ex
    go_wp2
    go_region
    go_wp2
    refine bodyPost_ret (v := .tuple #[rectV (clamp a) (clamp b) (clamp c) (clamp d), .bool (decide (clamp a < clamp c ∧ clamp b < clamp d))]) (by simp only [decide_eq_true_eq, decide_eq_false_iff_not] at h; simp [results, Try.results41, go_sem, h]) rfl ⟨rfl, ?_⟩
    (repeat (first | exact Plus.refl _ | apply Plus.plus | apply Plus.alloc | apply Plus.drew))
/-- how far a point lies from a rectangle; -1: it has none -/
def gapI (a b c d x y : Int) : Int := if clamp a < clamp c ∧ clamp b < clamp d then max (offI (clamp x) (clamp a) (clamp c - 1)) (offI (clamp y) (clamp b) (clamp d - 1)) else -1
theorem gap_any (a b c d x y : Int) (w : World) : Calls Try.prog 28 #[rectV a b c d, .int .i64 x, .int .i64 y] w fun e w' => e = .returned (.int .i64 (gapI a b c d x y)) ∧ w.Plus w' := by
  have b1 := clamp_bd a
  have b2 := clamp_bd b
  have b3 := clamp_bd c
  have b4 := clamp_bd d
  have b5 := clamp_bd x
  have b6 := clamp_bd y
  by_cases h : clamp a < clamp c ∧ clamp b < clamp d
  · have hd : decide (clamp a < clamp c ∧ clamp b < clamp d) = true := by simpa using h
    go_enter Try.func28, Try.ntmps28
    go_wp2_with (first | (go_at_call 43; (with_reducible refine (fixedClamp _ _).mono ?_); rintro e w' ⟨rfl, ey, rfl⟩) | (go_at_call 44; (with_reducible refine (refClamp _ _).mono ?_); rintro e w' ⟨rfl, ey, rfl⟩) | (go_at_call 42; (with_reducible refine (off_any _ _ _ _ (by omega) (by omega) (by omega)).mono ?_); rintro e w' ⟨rfl, ey, rfl⟩) | (go_at_call 41; (with_reducible refine (box_any _ _ _ _ _).mono ?_); rintro e w' ⟨rfl, ey, rfl⟩))
    refine wp_region_grow (by kernel_rfl) (by kernel_rfl) ?_
    repeat (go_big_quiet_step ((first | (go_at_call 43; exact Calls.plus_of (fixedClamp _ _)) | (go_at_call 44; exact Calls.plus_of (refClamp _ _)) | (go_at_call 42; exact Calls.plus_of (off_any _ _ _ _ (by omega) (by omega) (by omega))) | (go_at_call 41; exact Calls.plus_of (box_any _ _ _ _ _)))))
    refine wpQuiet_nil ?_
    intro ex
    go_wp2_with (first | (go_at_call 43; (with_reducible refine (fixedClamp _ _).mono ?_); rintro e w' ⟨rfl, ey, rfl⟩) | (go_at_call 44; (with_reducible refine (refClamp _ _).mono ?_); rintro e w' ⟨rfl, ey, rfl⟩) | (go_at_call 42; (with_reducible refine (off_any _ _ _ _ (by omega) (by omega) (by omega)).mono ?_); rintro e w' ⟨rfl, ey, rfl⟩) | (go_at_call 41; (with_reducible refine (box_any _ _ _ _ _).mono ?_); rintro e w' ⟨rfl, ey, rfl⟩))
    go_ret
    exact ⟨ret_int (by simp [gapI, h]), by (repeat (first | exact Plus.refl _ | apply Plus.plus | apply Plus.alloc | apply Plus.drew))⟩
  · have hd : decide (clamp a < clamp c ∧ clamp b < clamp d) = false := by simpa using h
    go_enter Try.func28, Try.ntmps28
    go_wp2_with (first | (go_at_call 43; (with_reducible refine (fixedClamp _ _).mono ?_); rintro e w' ⟨rfl, ey, rfl⟩) | (go_at_call 44; (with_reducible refine (refClamp _ _).mono ?_); rintro e w' ⟨rfl, ey, rfl⟩) | (go_at_call 42; (with_reducible refine (off_any _ _ _ _ (by omega) (by omega) (by omega)).mono ?_); rintro e w' ⟨rfl, ey, rfl⟩) | (go_at_call 41; (with_reducible refine (box_any _ _ _ _ _).mono ?_); rintro e w' ⟨rfl, ey, rfl⟩))
    go_ret
    exact ⟨ret_int (by simp [gapI, h]), by (repeat (first | exact Plus.refl _ | apply Plus.plus | apply Plus.alloc | apply Plus.drew))⟩
theorem has_any (a b c d x y : Int) (w : World) : Calls Try.prog 32 #[rectV a b c d, .int .i64 x, .int .i64 y] w fun e w' => e = .returned (.bool (decide (gapI a b c d x y = 0))) ∧ w.Plus w' := by
  go_enter Try.func32, Try.ntmps32
  go_wp2_with (first | (go_at_call 43; (with_reducible refine (fixedClamp _ _).mono ?_); rintro e w' ⟨rfl, ey, rfl⟩) | (go_at_call 44; (with_reducible refine (refClamp _ _).mono ?_); rintro e w' ⟨rfl, ey, rfl⟩) | (go_at_call 42; (with_reducible refine (off_any _ _ _ _ (by omega) (by omega) (by omega)).mono ?_); rintro e w' ⟨rfl, ey, rfl⟩) | (go_at_call 41; (with_reducible refine (box_any _ _ _ _ _).mono ?_); rintro e w' ⟨rfl, ey, rfl⟩) | (go_at_call 28; (with_reducible refine (gap_any _ _ _ _ _ _ _).mono ?_); rintro e w' ⟨rfl, ey, rfl⟩))
  go_ret
  exact ⟨ret_bool (by first | rfl | (simp; done)), by (repeat (first | exact Plus.refl _ | apply Plus.plus | apply Plus.alloc | apply Plus.drew))⟩
theorem near_any (a b c d x y n : Int) (w : World) : Calls Try.prog 36 #[rectV a b c d, .int .i64 x, .int .i64 y, .int .i64 n] w fun e w' => e = .returned (.bool (decide (0 ≤ gapI a b c d x y ∧ gapI a b c d x y ≤ n))) ∧ w.Plus w' := by
  by_cases h : 0 ≤ gapI a b c d x y
  all_goals
    go_enter Try.func36, Try.ntmps36
    go_wp2_with (first | (go_at_call 43; (with_reducible refine (fixedClamp _ _).mono ?_); rintro e w' ⟨rfl, ey, rfl⟩) | (go_at_call 44; (with_reducible refine (refClamp _ _).mono ?_); rintro e w' ⟨rfl, ey, rfl⟩) | (go_at_call 42; (with_reducible refine (off_any _ _ _ _ (by omega) (by omega) (by omega)).mono ?_); rintro e w' ⟨rfl, ey, rfl⟩) | (go_at_call 41; (with_reducible refine (box_any _ _ _ _ _).mono ?_); rintro e w' ⟨rfl, ey, rfl⟩) | (go_at_call 28; (with_reducible refine (gap_any _ _ _ _ _ _ _).mono ?_); rintro e w' ⟨rfl, ey, rfl⟩) | (go_at_call 32; (with_reducible refine (has_any _ _ _ _ _ _ _).mono ?_); rintro e w' ⟨rfl, ey, rfl⟩))
    go_ret
    exact ⟨ret_bool (by first | (simp [h]; done) | (simp [h]; omega)), by (repeat (first | exact Plus.refl _ | apply Plus.plus | apply Plus.alloc | apply Plus.drew))⟩
/-- how far two points lie apart -/
def farI (x y u v : Int) : Int := max (clamp x - clamp u) (max (-(clamp x - clamp u)) (max (clamp y - clamp v) (-(clamp y - clamp v))))
theorem size_any (n : Int) (h : -4294967296 ≤ n ∧ n ≤ 4294967296) (w : World) : Calls Try.prog 47 #[.int .i64 n] w fun e w' => e = .returned (.int .i64 (max n (-n))) ∧ w.Plus w' := by
  go_enter Try.func47, Try.ntmps47
  go_wp2
  all_goals (go_ret; exact ⟨ret_int (by omega), Plus.refl _⟩)
theorem refFar_any (x y u v : Int) (w : World) : Calls Try.prog 45 #[.int .i64 x, .int .i64 y, .int .i64 u, .int .i64 v] w fun e w' => e = .returned (.int .i64 (farI x y u v)) ∧ w.Plus w' := by
  have b1 := clamp_bd x
  have b2 := clamp_bd y
  have b3 := clamp_bd u
  have b4 := clamp_bd v
  go_enter Try.func45, Try.ntmps45
  go_wp2_with (first | (go_at_call 43; (with_reducible refine (fixedClamp _ _).mono ?_); rintro e w' ⟨rfl, ey, rfl⟩) | (go_at_call 44; (with_reducible refine (refClamp _ _).mono ?_); rintro e w' ⟨rfl, ey, rfl⟩) | (go_at_call 42; (with_reducible refine (off_any _ _ _ _ (by omega) (by omega) (by omega)).mono ?_); rintro e w' ⟨rfl, ey, rfl⟩) | (go_at_call 41; (with_reducible refine (box_any _ _ _ _ _).mono ?_); rintro e w' ⟨rfl, ey, rfl⟩) | (go_at_call 28; (with_reducible refine (gap_any _ _ _ _ _ _ _).mono ?_); rintro e w' ⟨rfl, ey, rfl⟩) | (go_at_call 32; (with_reducible refine (has_any _ _ _ _ _ _ _).mono ?_); rintro e w' ⟨rfl, ey, rfl⟩) | (go_at_call 47; (with_reducible refine (size_any _ (by omega) _).mono ?_); rintro e w' ⟨rfl, ey, rfl⟩))
  all_goals go_ret
  all_goals exact ⟨ret_int (by unfold farI; omega), by (repeat (first | exact Plus.refl _ | apply Plus.plus | apply Plus.alloc | apply Plus.drew))⟩
def noneB (a b c d : Int) : Bool := !decide (clamp a < clamp c ∧ clamp b < clamp d)
theorem refNone_any (a b c d : Int) (w : World) : Calls Try.prog 39 #[rectV a b c d] w fun e w' => e = .returned (.bool (noneB a b c d)) ∧ w.Plus w' := by
  cases h : decide (clamp c ≤ clamp a)
  all_goals
    go_enter Try.func39, Try.ntmps39
    go_wp2_with (first | (go_at_call 43; (with_reducible refine (fixedClamp _ _).mono ?_); rintro e w' ⟨rfl, ey, rfl⟩) | (go_at_call 44; (with_reducible refine (refClamp _ _).mono ?_); rintro e w' ⟨rfl, ey, rfl⟩) | (go_at_call 42; (with_reducible refine (off_any _ _ _ _ (by omega) (by omega) (by omega)).mono ?_); rintro e w' ⟨rfl, ey, rfl⟩) | (go_at_call 41; (with_reducible refine (box_any _ _ _ _ _).mono ?_); rintro e w' ⟨rfl, ey, rfl⟩) | (go_at_call 28; (with_reducible refine (gap_any _ _ _ _ _ _ _).mono ?_); rintro e w' ⟨rfl, ey, rfl⟩) | (go_at_call 32; (with_reducible refine (has_any _ _ _ _ _ _ _).mono ?_); rintro e w' ⟨rfl, ey, rfl⟩) | (go_at_call 47; (with_reducible refine (size_any _ (by omega) _).mono ?_); rintro e w' ⟨rfl, ey, rfl⟩))
    refine wp_region_grow (by kernel_rfl) (by kernel_rfl) ?_
    repeat (go_big_quiet_step ((first | (go_at_call 43; exact Calls.plus_of (fixedClamp _ _)) | (go_at_call 44; exact Calls.plus_of (refClamp _ _)) | (go_at_call 42; exact Calls.plus_of (off_any _ _ _ _ (by omega) (by omega) (by omega))) | (go_at_call 41; exact Calls.plus_of (box_any _ _ _ _ _)) | (go_at_call 28; exact Calls.plus_of (gap_any _ _ _ _ _ _ _)) | (go_at_call 32; exact Calls.plus_of (has_any _ _ _ _ _ _ _)) | (go_at_call 47; exact Calls.plus_of (size_any _ (by omega) _)))))
    refine wpQuiet_nil ?_
    intro ex
    go_wp2_with (first | (go_at_call 43; (with_reducible refine (fixedClamp _ _).mono ?_); rintro e w' ⟨rfl, ey, rfl⟩) | (go_at_call 44; (with_reducible refine (refClamp _ _).mono ?_); rintro e w' ⟨rfl, ey, rfl⟩) | (go_at_call 42; (with_reducible refine (off_any _ _ _ _ (by omega) (by omega) (by omega)).mono ?_); rintro e w' ⟨rfl, ey, rfl⟩) | (go_at_call 41; (with_reducible refine (box_any _ _ _ _ _).mono ?_); rintro e w' ⟨rfl, ey, rfl⟩) | (go_at_call 28; (with_reducible refine (gap_any _ _ _ _ _ _ _).mono ?_); rintro e w' ⟨rfl, ey, rfl⟩) | (go_at_call 32; (with_reducible refine (has_any _ _ _ _ _ _ _).mono ?_); rintro e w' ⟨rfl, ey, rfl⟩) | (go_at_call 47; (with_reducible refine (size_any _ (by omega) _).mono ?_); rintro e w' ⟨rfl, ey, rfl⟩))
    go_ret
    exact ⟨ret_bool (by simp only [decide_eq_true_eq, decide_eq_false_iff_not] at h; unfold noneB; rw [Bool.eq_iff_iff]; simp; omega), by (repeat (first | exact Plus.refl _ | apply Plus.plus | apply Plus.alloc | apply Plus.drew))⟩
def hasB (a b c d x y : Int) : Bool := decide (clamp a ≤ clamp x ∧ clamp x < clamp c ∧ clamp b ≤ clamp y ∧ clamp y < clamp d)
theorem refHas_any (a b c d x y : Int) (w : World) : Calls Try.prog 35 #[rectV a b c d, .int .i64 x, .int .i64 y] w fun e w' => e = .returned (.bool (hasB a b c d x y)) ∧ w.Plus w' := by
  cases h1 : decide (clamp a ≤ clamp x) <;> cases h2 : decide (clamp x < clamp c) <;> cases h3 : decide (clamp b ≤ clamp y)
  all_goals
    go_enter Try.func35, Try.ntmps35
    go_wp2_with (first | (go_at_call 43; (with_reducible refine (fixedClamp _ _).mono ?_); rintro e w' ⟨rfl, ey, rfl⟩) | (go_at_call 44; (with_reducible refine (refClamp _ _).mono ?_); rintro e w' ⟨rfl, ey, rfl⟩) | (go_at_call 42; (with_reducible refine (off_any _ _ _ _ (by omega) (by omega) (by omega)).mono ?_); rintro e w' ⟨rfl, ey, rfl⟩) | (go_at_call 41; (with_reducible refine (box_any _ _ _ _ _).mono ?_); rintro e w' ⟨rfl, ey, rfl⟩) | (go_at_call 28; (with_reducible refine (gap_any _ _ _ _ _ _ _).mono ?_); rintro e w' ⟨rfl, ey, rfl⟩) | (go_at_call 32; (with_reducible refine (has_any _ _ _ _ _ _ _).mono ?_); rintro e w' ⟨rfl, ey, rfl⟩) | (go_at_call 47; (with_reducible refine (size_any _ (by omega) _).mono ?_); rintro e w' ⟨rfl, ey, rfl⟩) | (go_at_call 39; (with_reducible refine (refNone_any _ _ _ _ _).mono ?_); rintro e w' ⟨rfl, ey, rfl⟩))
    go_ret
    refine ⟨ret_bool ?_, by (repeat (first | exact Plus.refl _ | apply Plus.plus | apply Plus.alloc | apply Plus.drew))⟩
    simp only [decide_eq_true_eq, decide_eq_false_iff_not] at h1 h2 h3
    unfold hasB
    rw [Bool.eq_iff_iff]
    simp [*]
/-- four numbers of a rectangle -/
structure R4 where
  a : Int
  b : Int
  c : Int
  d : Int
  deriving DecidableEq
abbrev R4.v (r : R4) : Value := rectV r.a r.b r.c r.d
def R4.cl (r : R4) : R4 := ⟨clamp r.a, clamp r.b, clamp r.c, clamp r.d⟩
def growI (a b c d n : Int) : R4 := if clamp a < clamp c ∧ clamp b < clamp d then ⟨clamp (clamp a - max 0 (clamp n)), clamp (clamp b - max 0 (clamp n)), clamp (clamp c + max 0 (clamp n)), clamp (clamp d + max 0 (clamp n))⟩ else ⟨0, 0, 0, 0⟩
theorem refGrow_any (a b c d n : Int) (w : World) : Calls Try.prog 38 #[rectV a b c d, .int .i64 n] w fun e w' => e = .returned (growI a b c d n).v ∧ w.Plus w' := by
  have b1 := clamp_bd a
  have b2 := clamp_bd b
  have b3 := clamp_bd c
  have b4 := clamp_bd d
  have b5 := clamp_bd n
  cases hd : noneB a b c d
  · have e0 : growI a b c d n = ⟨clamp (clamp a - max 0 (clamp n)), clamp (clamp b - max 0 (clamp n)), clamp (clamp c + max 0 (clamp n)), clamp (clamp d + max 0 (clamp n))⟩ := if_pos (by simp [noneB] at hd; omega)
    rw [e0]
    clear e0
    by_cases h0 : clamp n < 0
    · obtain ⟨m, hm⟩ : ∃ m, m = max 0 (clamp n) := ⟨_, rfl⟩
      rw [← hm]
      obtain rfl : m = 0 := by omega
      clear hm
      go_enter Try.func38, Try.ntmps38
      go_wp2_with (first | (go_at_call 43; (with_reducible refine (fixedClamp _ _).mono ?_); rintro e w' ⟨rfl, ey, rfl⟩) | (go_at_call 44; (with_reducible refine (refClamp _ _).mono ?_); rintro e w' ⟨rfl, ey, rfl⟩) | (go_at_call 42; (with_reducible refine (off_any _ _ _ _ (by omega) (by omega) (by omega)).mono ?_); rintro e w' ⟨rfl, ey, rfl⟩) | (go_at_call 41; (with_reducible refine (box_any _ _ _ _ _).mono ?_); rintro e w' ⟨rfl, ey, rfl⟩) | (go_at_call 28; (with_reducible refine (gap_any _ _ _ _ _ _ _).mono ?_); rintro e w' ⟨rfl, ey, rfl⟩) | (go_at_call 32; (with_reducible refine (has_any _ _ _ _ _ _ _).mono ?_); rintro e w' ⟨rfl, ey, rfl⟩) | (go_at_call 47; (with_reducible refine (size_any _ (by omega) _).mono ?_); rintro e w' ⟨rfl, ey, rfl⟩) | (go_at_call 39; (with_reducible refine (refNone_any _ _ _ _ _).mono ?_); rintro e w' ⟨rfl, ey, rfl⟩) | (go_at_call 35; (with_reducible refine (refHas_any _ _ _ _ _ _ _).mono ?_); rintro e w' ⟨rfl, ey, rfl⟩))
      refine wp_region_grow_tail 25 (by kernel_rfl) (by kernel_rfl) ?_
      simp only [List.take_succ_cons, List.take_zero, List.drop_succ_cons, List.drop_zero]
      repeat (go_big_quiet_step ((first | (go_at_call 43; exact Calls.plus_of (fixedClamp _ _)) | (go_at_call 44; exact Calls.plus_of (refClamp _ _)) | (go_at_call 42; exact Calls.plus_of (off_any _ _ _ _ (by omega) (by omega) (by omega))) | (go_at_call 41; exact Calls.plus_of (box_any _ _ _ _ _)) | (go_at_call 28; exact Calls.plus_of (gap_any _ _ _ _ _ _ _)) | (go_at_call 32; exact Calls.plus_of (has_any _ _ _ _ _ _ _)) | (go_at_call 47; exact Calls.plus_of (size_any _ (by omega) _)) | (go_at_call 39; exact Calls.plus_of (refNone_any _ _ _ _ _)) | (go_at_call 35; exact Calls.plus_of (refHas_any _ _ _ _ _ _ _)))))
      refine wpQuiet_nil ?_
      intro ex
      go_wp2_with (first | (go_at_call 43; (with_reducible refine (fixedClamp _ _).mono ?_); rintro e w' ⟨rfl, ey, rfl⟩) | (go_at_call 44; (with_reducible refine (refClamp _ _).mono ?_); rintro e w' ⟨rfl, ey, rfl⟩) | (go_at_call 42; (with_reducible refine (off_any _ _ _ _ (by omega) (by omega) (by omega)).mono ?_); rintro e w' ⟨rfl, ey, rfl⟩) | (go_at_call 41; (with_reducible refine (box_any _ _ _ _ _).mono ?_); rintro e w' ⟨rfl, ey, rfl⟩) | (go_at_call 28; (with_reducible refine (gap_any _ _ _ _ _ _ _).mono ?_); rintro e w' ⟨rfl, ey, rfl⟩) | (go_at_call 32; (with_reducible refine (has_any _ _ _ _ _ _ _).mono ?_); rintro e w' ⟨rfl, ey, rfl⟩) | (go_at_call 47; (with_reducible refine (size_any _ (by omega) _).mono ?_); rintro e w' ⟨rfl, ey, rfl⟩) | (go_at_call 39; (with_reducible refine (refNone_any _ _ _ _ _).mono ?_); rintro e w' ⟨rfl, ey, rfl⟩) | (go_at_call 35; (with_reducible refine (refHas_any _ _ _ _ _ _ _).mono ?_); rintro e w' ⟨rfl, ey, rfl⟩))
      exact bodyPost_ret (v := rectV _ _ _ _) (by simp [results, Try.results38, go_sem]) rfl ⟨rfl, by (repeat (first | exact Plus.refl _ | apply Plus.plus | apply Plus.alloc | apply Plus.drew))⟩
    · obtain ⟨m, hm⟩ : ∃ m, m = max 0 (clamp n) := ⟨_, rfl⟩
      rw [← hm]
      obtain rfl : m = clamp n := by omega
      clear hm
      go_enter Try.func38, Try.ntmps38
      go_wp2_with (first | (go_at_call 43; (with_reducible refine (fixedClamp _ _).mono ?_); rintro e w' ⟨rfl, ey, rfl⟩) | (go_at_call 44; (with_reducible refine (refClamp _ _).mono ?_); rintro e w' ⟨rfl, ey, rfl⟩) | (go_at_call 42; (with_reducible refine (off_any _ _ _ _ (by omega) (by omega) (by omega)).mono ?_); rintro e w' ⟨rfl, ey, rfl⟩) | (go_at_call 41; (with_reducible refine (box_any _ _ _ _ _).mono ?_); rintro e w' ⟨rfl, ey, rfl⟩) | (go_at_call 28; (with_reducible refine (gap_any _ _ _ _ _ _ _).mono ?_); rintro e w' ⟨rfl, ey, rfl⟩) | (go_at_call 32; (with_reducible refine (has_any _ _ _ _ _ _ _).mono ?_); rintro e w' ⟨rfl, ey, rfl⟩) | (go_at_call 47; (with_reducible refine (size_any _ (by omega) _).mono ?_); rintro e w' ⟨rfl, ey, rfl⟩) | (go_at_call 39; (with_reducible refine (refNone_any _ _ _ _ _).mono ?_); rintro e w' ⟨rfl, ey, rfl⟩) | (go_at_call 35; (with_reducible refine (refHas_any _ _ _ _ _ _ _).mono ?_); rintro e w' ⟨rfl, ey, rfl⟩))
      refine wp_region_grow_tail 25 (by kernel_rfl) (by kernel_rfl) ?_
      simp only [List.take_succ_cons, List.take_zero, List.drop_succ_cons, List.drop_zero]
      repeat (go_big_quiet_step ((first | (go_at_call 43; exact Calls.plus_of (fixedClamp _ _)) | (go_at_call 44; exact Calls.plus_of (refClamp _ _)) | (go_at_call 42; exact Calls.plus_of (off_any _ _ _ _ (by omega) (by omega) (by omega))) | (go_at_call 41; exact Calls.plus_of (box_any _ _ _ _ _)) | (go_at_call 28; exact Calls.plus_of (gap_any _ _ _ _ _ _ _)) | (go_at_call 32; exact Calls.plus_of (has_any _ _ _ _ _ _ _)) | (go_at_call 47; exact Calls.plus_of (size_any _ (by omega) _)) | (go_at_call 39; exact Calls.plus_of (refNone_any _ _ _ _ _)) | (go_at_call 35; exact Calls.plus_of (refHas_any _ _ _ _ _ _ _)))))
      refine wpQuiet_nil ?_
      intro ex
      go_wp2_with (first | (go_at_call 43; (with_reducible refine (fixedClamp _ _).mono ?_); rintro e w' ⟨rfl, ey, rfl⟩) | (go_at_call 44; (with_reducible refine (refClamp _ _).mono ?_); rintro e w' ⟨rfl, ey, rfl⟩) | (go_at_call 42; (with_reducible refine (off_any _ _ _ _ (by omega) (by omega) (by omega)).mono ?_); rintro e w' ⟨rfl, ey, rfl⟩) | (go_at_call 41; (with_reducible refine (box_any _ _ _ _ _).mono ?_); rintro e w' ⟨rfl, ey, rfl⟩) | (go_at_call 28; (with_reducible refine (gap_any _ _ _ _ _ _ _).mono ?_); rintro e w' ⟨rfl, ey, rfl⟩) | (go_at_call 32; (with_reducible refine (has_any _ _ _ _ _ _ _).mono ?_); rintro e w' ⟨rfl, ey, rfl⟩) | (go_at_call 47; (with_reducible refine (size_any _ (by omega) _).mono ?_); rintro e w' ⟨rfl, ey, rfl⟩) | (go_at_call 39; (with_reducible refine (refNone_any _ _ _ _ _).mono ?_); rintro e w' ⟨rfl, ey, rfl⟩) | (go_at_call 35; (with_reducible refine (refHas_any _ _ _ _ _ _ _).mono ?_); rintro e w' ⟨rfl, ey, rfl⟩))
      exact bodyPost_ret (v := rectV _ _ _ _) (by simp [results, Try.results38, go_sem]) rfl ⟨rfl, by (repeat (first | exact Plus.refl _ | apply Plus.plus | apply Plus.alloc | apply Plus.drew))⟩
  · have e0 : growI a b c d n = ⟨0, 0, 0, 0⟩ := if_neg (by simp [noneB] at hd; omega)
    rw [e0]
    clear e0
    go_enter Try.func38, Try.ntmps38
    go_wp2_with (first | (go_at_call 43; (with_reducible refine (fixedClamp _ _).mono ?_); rintro e w' ⟨rfl, ey, rfl⟩) | (go_at_call 44; (with_reducible refine (refClamp _ _).mono ?_); rintro e w' ⟨rfl, ey, rfl⟩) | (go_at_call 42; (with_reducible refine (off_any _ _ _ _ (by omega) (by omega) (by omega)).mono ?_); rintro e w' ⟨rfl, ey, rfl⟩) | (go_at_call 41; (with_reducible refine (box_any _ _ _ _ _).mono ?_); rintro e w' ⟨rfl, ey, rfl⟩) | (go_at_call 28; (with_reducible refine (gap_any _ _ _ _ _ _ _).mono ?_); rintro e w' ⟨rfl, ey, rfl⟩) | (go_at_call 32; (with_reducible refine (has_any _ _ _ _ _ _ _).mono ?_); rintro e w' ⟨rfl, ey, rfl⟩) | (go_at_call 47; (with_reducible refine (size_any _ (by omega) _).mono ?_); rintro e w' ⟨rfl, ey, rfl⟩) | (go_at_call 39; (with_reducible refine (refNone_any _ _ _ _ _).mono ?_); rintro e w' ⟨rfl, ey, rfl⟩) | (go_at_call 35; (with_reducible refine (refHas_any _ _ _ _ _ _ _).mono ?_); rintro e w' ⟨rfl, ey, rfl⟩))
    exact bodyPost_ret (v := rectV 0 0 0 0) (by simp [results, Try.results38, go_sem]) rfl ⟨rfl, by (repeat (first | exact Plus.refl _ | apply Plus.plus | apply Plus.alloc | apply Plus.drew))⟩
end Go.Proofs.Yteaikedgbgdcnaa
