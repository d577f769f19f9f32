/- The laws of rectangles return true: the walks, out of the contracts. -/
import Derived.Test.YtmmnidkmblfcbaaCut
set_option linter.unusedSimpArgs false
set_option linter.unusedVariables false
namespace Go.Proofs.Ytmmnidkmblfcbaa
open Go.RowKit
theorem RowsAt.new {w : World} {A : Option Addr} {size n : Nat} {f : Nat → Nat → Value} (cs : Array Value) (t : TypeId) (hA : A = some ⟨w.heap.size, 0, none⟩) (h : ∀ i j, i < n → j < size → cs[i * size + j]? = some (f i j)) : RowsAt (w.alloc (.cells cs t)) A size n f :=
  fun _ => ⟨w.heap.size, 0, hA, by simp, fun i j hi hj => by rw [World.cell?_alloc_new, Nat.zero_add]; exact h i j hi hj⟩
set_option maxHeartbeats 2000000 in
theorem awake_any (w : World) : Calls Try.prog 12 #[] w fun e w' => e = .returned (.bool true) ∧ w.Plus w' := by
  have a1 : gapI 0 0 10 10 9 9 = 0 := by decide
  have a2 : ¬ gapI 0 0 10 10 10 0 = 0 := by decide
  have a3 : gapI 0 0 10 10 12 5 = 3 := by decide
  have a4 : gapI 0 0 10 10 (-2) 20 = 11 := by decide
  have a5 : farI 1 2 4 0 = 3 := by decide
  have a6 : cutI [⟨0, 0, 10, 10⟩, ⟨5, 5, 20, 20⟩] = ⟨5, 5, 10, 10⟩ := by decide
  have a7 : growI 0 0 10 10 2 = ⟨-2, -2, 12, 12⟩ := by decide
  go_enter Try.func12, Try.ntmps12
  go_wp2_with (first | (go_at_call 15; refine (cut_any [⟨0, 0, 10, 10⟩, ⟨5, 5, 20, 20⟩] _ _ _ (by simp) ?hcut).mono ?_; rotate_left; rintro e w' ⟨rfl, ey, rfl⟩) | (go_at_call 23; (with_reducible refine (fixedClamp _ _).mono ?_); rintro e w' ⟨rfl, ey, rfl⟩) | (go_at_call 22; (with_reducible refine (refClamp _ _).mono ?_); rintro e w' ⟨rfl, ey, rfl⟩) | (go_at_call 28; (with_reducible refine (off_any _ _ _ _ (by omega) (by omega) (by omega)).mono ?_); rintro e w' ⟨rfl, ey, rfl⟩) | (go_at_call 25; (with_reducible refine (box_any _ _ _ _ _).mono ?_); rintro e w' ⟨rfl, ey, rfl⟩) | (go_at_call 19; (with_reducible refine (gap_any _ _ _ _ _ _ _).mono ?_); rintro e w' ⟨rfl, ey, rfl⟩) | (go_at_call 10; (with_reducible refine (has_any _ _ _ _ _ _ _).mono ?_); rintro e w' ⟨rfl, ey, rfl⟩) | (go_at_call 21; (with_reducible refine (near_any _ _ _ _ _ _ _ _).mono ?_); rintro e w' ⟨rfl, ey, rfl⟩) | (go_at_call 13; (with_reducible refine (far_any _ _ _ _ _).mono ?_); rintro e w' ⟨rfl, ey, rfl⟩) | (go_at_call 17; (with_reducible refine (grow_any _ _ _ _ _ _).mono ?_); rintro e w' ⟨rfl, ey, rfl⟩) | (go_at_call 24; (with_reducible refine (size_any _ (by omega) _).mono ?_); rintro e w' ⟨rfl, ey, rfl⟩) | (go_at_call 14; (with_reducible refine (refFar_any _ _ _ _ _).mono ?_); rintro e w' ⟨rfl, ey, rfl⟩) | (go_at_call 27; (with_reducible refine (refNone_any _ _ _ _ _).mono ?_); rintro e w' ⟨rfl, ey, rfl⟩) | (go_at_call 11; (with_reducible refine (refHas_any _ _ _ _ _ _ _).mono ?_); rintro e w' ⟨rfl, ey, rfl⟩) | (go_at_call 18; (with_reducible refine (refGrow_any _ _ _ _ _ _).mono ?_); rintro e w' ⟨rfl, ey, rfl⟩) | (go_at_call 20; (with_reducible refine (half_any _ (by omega) _).mono ?_); rintro e w' ⟨rfl, ey, rfl⟩))
  case hcut =>
    exact RowsAt.new _ _ (by simp [go_sem]) (fun i j hi hj => by
      simp only [List.length_cons, List.length_nil] at hi
      have h1 : i = 0 ∨ i = 1 := by omega
      have h2 : j = 0 ∨ j = 1 ∨ j = 2 ∨ j = 3 := by omega
      rcases h1 with rfl | rfl <;> rcases h2 with rfl | rfl | rfl | rfl <;> rfl)
  go_ret
  exact ⟨rfl, by (repeat (first | exact Plus.refl _ | apply Plus.plus | apply Plus.alloc | apply Plus.drew))⟩

/-! ### the plain laws -/
theorem gap_zero (a b c d x y : Int) : gapI a b c d x y = 0 ↔ clamp a ≤ clamp x ∧ clamp x < clamp c ∧ clamp b ≤ clamp y ∧ clamp y < clamp d := by
  unfold gapI
  by_cases h : clamp a < clamp c ∧ clamp b < clamp d
  · rw [if_pos h]; unfold offI; omega
  · rw [if_neg h]; omega
theorem has_same (a b c d x y : Int) : (decide (gapI a b c d x y = 0) == hasB a b c d x y) = true := by
  unfold hasB
  rw [decide_eq_decide.2 (gap_zero a b c d x y)]
  exact beq_self_eq_true _
theorem gap_bd (a b c d x y : Int) : -1 ≤ gapI a b c d x y ∧ gapI a b c d x y ≤ 8589934592 := by
  have b1 := clamp_bd a
  have b2 := clamp_bd b
  have b3 := clamp_bd c
  have b4 := clamp_bd d
  have b5 := clamp_bd x
  have b6 := clamp_bd y
  have h1 := offI_bd (clamp x) (clamp a) (clamp c - 1) (by omega) (by omega) (by omega)
  have h2 := offI_bd (clamp y) (clamp b) (clamp d - 1) (by omega) (by omega) (by omega)
  unfold gapI
  split <;> omega
theorem far_bd (x y u v : Int) : 0 ≤ farI x y u v ∧ farI x y u v ≤ 8589934592 := by
  have b1 := clamp_bd x
  have b2 := clamp_bd y
  have b3 := clamp_bd u
  have b4 := clamp_bd v
  unfold farI
  omega
theorem off_step (n m lo hi : Int) : offI n lo hi - offI m lo hi ≤ max (n - m) (m - n) := by unfold offI; omega
theorem off_nonneg (n lo hi : Int) : 0 ≤ offI n lo hi := by unfold offI; omega
theorem gap_neg (a b c d x y : Int) : gapI a b c d x y < 0 ↔ ¬ (clamp a < clamp c ∧ clamp b < clamp d) := by
  unfold gapI
  have h1 := off_nonneg (clamp x) (clamp a) (clamp c - 1)
  have h2 := off_nonneg (clamp y) (clamp b) (clamp d - 1)
  split <;> omega
theorem gap_step (a b c d x y u v : Int) : gapI a b c d x y - gapI a b c d u v ≤ farI x y u v := by
  have h1 := off_step (clamp x) (clamp u) (clamp a) (clamp c - 1)
  have h2 := off_step (clamp y) (clamp v) (clamp b) (clamp d - 1)
  unfold gapI farI
  split <;> omega
theorem far_comm (x y u v : Int) : farI x y u v = farI u v x y := by unfold farI; omega
theorem far_nonneg (x y u v : Int) : 0 ≤ farI x y u v := by unfold farI; omega
theorem far_tri (x y u v s t : Int) : farI x y s t ≤ farI x y u v + farI u v s t := by unfold farI; omega
theorem half_bd (n : Int) : -268435456 < n.tmod 268435456 ∧ n.tmod 268435456 < 268435456 := by
  rcases Int.le_total 0 n with h | h
  · rw [Int.tmod_eq_emod_of_nonneg h]; omega
  · have e : n.tmod 268435456 = -((-n).tmod 268435456) := by rw [Int.neg_tmod, Int.neg_neg]
    rw [e, Int.tmod_eq_emod_of_nonneg (by omega)]; omega
theorem clamp_in {n : Int} (h : -1073741824 ≤ n ∧ n ≤ 1073741824) : clamp n = n := by unfold clamp; omega
theorem off_le (n lo hi e : Int) (he : 0 ≤ e) : offI n lo hi ≤ e ↔ lo - e ≤ n ∧ n ≤ hi + e := by unfold offI; omega
theorem within_same (a b c d x y e : Int) (ha : -268435456 < a ∧ a < 268435456) (hb : -268435456 < b ∧ b < 268435456) (hc : -268435456 < c ∧ c < 268435456) (hd : -268435456 < d ∧ d < 268435456)
    (hx : -268435456 < x ∧ x < 268435456) (hy : -268435456 < y ∧ y < 268435456) (he : 0 ≤ e ∧ e < 268435456) :
    (decide (0 ≤ gapI a b c d x y ∧ gapI a b c d x y ≤ e) == decide (gapI (growI a b c d e).a (growI a b c d e).b (growI a b c d e).c (growI a b c d e).d x y = 0)) = true := by
  rw [beq_iff_eq, decide_eq_decide, gap_zero]
  have e1 := clamp_in (n := a) (by omega)
  have e2 := clamp_in (n := b) (by omega)
  have e3 := clamp_in (n := c) (by omega)
  have e4 := clamp_in (n := d) (by omega)
  have e5 := clamp_in (n := x) (by omega)
  have e6 := clamp_in (n := y) (by omega)
  have e7 := clamp_in (n := e) (by omega)
  by_cases h : a < c ∧ b < d
  · have hg : growI a b c d e = ⟨a - e, b - e, c + e, d + e⟩ := by
      unfold growI
      rw [e1, e2, e3, e4, e7, if_pos h, show max 0 e = e by omega, clamp_in (by omega), clamp_in (by omega), clamp_in (by omega), clamp_in (by omega)]
    rw [hg]
    simp only
    rw [clamp_in (n := a - e) (by omega), clamp_in (n := b - e) (by omega), clamp_in (n := c + e) (by omega), clamp_in (n := d + e) (by omega), e5, e6]
    unfold gapI
    rw [e1, e2, e3, e4, e5, e6, if_pos h, Int.max_le]
    have h1 := off_le x a (c - 1) e he.1
    have h2 := off_le y b (d - 1) e he.1
    have h3 := off_nonneg x a (c - 1)
    have h4 := off_nonneg y b (d - 1)
    omega
  · have hg : growI a b c d e = ⟨0, 0, 0, 0⟩ := by
      unfold growI
      rw [e1, e2, e3, e4, if_neg h]
    rw [hg]
    unfold gapI
    rw [e1, e2, e3, e4, if_neg h]
    simp only
    omega

/-! ### the walks -/
abbrev i64 (n : Int) : Prop := -9223372036854775808 ≤ n ∧ n ≤ 9223372036854775807
theorem i64_wf {n : Int} (h : (Lit.int .i64 n).wf = true) : i64 n := by simpa [Lit.wf, IntKind.min, IntKind.max, IntKind.signed, IntKind.bits] using h
abbrev pairV (x y : Int) : Value := .agg #[.int .i64 x, .int .i64 y]
theorem rectHas_walk (a b c d x y : Int) (w : World) : Calls Try.prog 3 #[rectV a b c d, .int .i64 x, .int .i64 y] w fun e w' => e = .returned (.bool true) ∧ w.Plus w' := by
  have h := has_same a b c d x y
  go_enter Try.func3, Try.ntmps3
  go_wp2_with (first | (go_at_call 23; (with_reducible refine (fixedClamp _ _).mono ?_); rintro e w' ⟨rfl, ey, rfl⟩) | (go_at_call 22; (with_reducible refine (refClamp _ _).mono ?_); rintro e w' ⟨rfl, ey, rfl⟩) | (go_at_call 28; (with_reducible refine (off_any _ _ _ _ (by omega) (by omega) (by omega)).mono ?_); rintro e w' ⟨rfl, ey, rfl⟩) | (go_at_call 25; (with_reducible refine (box_any _ _ _ _ _).mono ?_); rintro e w' ⟨rfl, ey, rfl⟩) | (go_at_call 19; (with_reducible refine (gap_any _ _ _ _ _ _ _).mono ?_); rintro e w' ⟨rfl, ey, rfl⟩) | (go_at_call 10; (with_reducible refine (has_any _ _ _ _ _ _ _).mono ?_); rintro e w' ⟨rfl, ey, rfl⟩) | (go_at_call 21; (with_reducible refine (near_any _ _ _ _ _ _ _ _).mono ?_); rintro e w' ⟨rfl, ey, rfl⟩) | (go_at_call 13; (with_reducible refine (far_any _ _ _ _ _).mono ?_); rintro e w' ⟨rfl, ey, rfl⟩) | (go_at_call 17; (with_reducible refine (grow_any _ _ _ _ _ _).mono ?_); rintro e w' ⟨rfl, ey, rfl⟩) | (go_at_call 24; (with_reducible refine (size_any _ (by omega) _).mono ?_); rintro e w' ⟨rfl, ey, rfl⟩) | (go_at_call 14; (with_reducible refine (refFar_any _ _ _ _ _).mono ?_); rintro e w' ⟨rfl, ey, rfl⟩) | (go_at_call 27; (with_reducible refine (refNone_any _ _ _ _ _).mono ?_); rintro e w' ⟨rfl, ey, rfl⟩) | (go_at_call 11; (with_reducible refine (refHas_any _ _ _ _ _ _ _).mono ?_); rintro e w' ⟨rfl, ey, rfl⟩) | (go_at_call 18; (with_reducible refine (refGrow_any _ _ _ _ _ _).mono ?_); rintro e w' ⟨rfl, ey, rfl⟩) | (go_at_call 20; (with_reducible refine (half_any _ (by omega) _).mono ?_); rintro e w' ⟨rfl, ey, rfl⟩) | (go_at_call 12; (with_reducible refine (awake_any _).mono ?_); rintro e w' ⟨rfl, ey, rfl⟩))
  refine wp_region_grow (by kernel_rfl) (by kernel_rfl) ?_
  repeat (go_big_quiet_step ((first | (go_at_call 23; exact Calls.plus_of (fixedClamp _ _)) | (go_at_call 22; exact Calls.plus_of (refClamp _ _)) | (go_at_call 28; exact Calls.plus_of (off_any _ _ _ _ (by omega) (by omega) (by omega))) | (go_at_call 25; exact Calls.plus_of (box_any _ _ _ _ _)) | (go_at_call 19; exact Calls.plus_of (gap_any _ _ _ _ _ _ _)) | (go_at_call 10; exact Calls.plus_of (has_any _ _ _ _ _ _ _)) | (go_at_call 21; exact Calls.plus_of (near_any _ _ _ _ _ _ _ _)) | (go_at_call 13; exact Calls.plus_of (far_any _ _ _ _ _)) | (go_at_call 17; exact Calls.plus_of (grow_any _ _ _ _ _ _)) | (go_at_call 24; exact Calls.plus_of (size_any _ (by omega) _)) | (go_at_call 14; exact Calls.plus_of (refFar_any _ _ _ _ _)) | (go_at_call 27; exact Calls.plus_of (refNone_any _ _ _ _ _)) | (go_at_call 11; exact Calls.plus_of (refHas_any _ _ _ _ _ _ _)) | (go_at_call 18; exact Calls.plus_of (refGrow_any _ _ _ _ _ _)) | (go_at_call 20; exact Calls.plus_of (half_any _ (by omega) _)) | (go_at_call 12; exact Calls.plus_of (awake_any _)))))
  refine wpQuiet_nil ?_
  intro ex
  go_wp2_with (first | (go_at_call 23; (with_reducible refine (fixedClamp _ _).mono ?_); rintro e w' ⟨rfl, ey, rfl⟩) | (go_at_call 22; (with_reducible refine (refClamp _ _).mono ?_); rintro e w' ⟨rfl, ey, rfl⟩) | (go_at_call 28; (with_reducible refine (off_any _ _ _ _ (by omega) (by omega) (by omega)).mono ?_); rintro e w' ⟨rfl, ey, rfl⟩) | (go_at_call 25; (with_reducible refine (box_any _ _ _ _ _).mono ?_); rintro e w' ⟨rfl, ey, rfl⟩) | (go_at_call 19; (with_reducible refine (gap_any _ _ _ _ _ _ _).mono ?_); rintro e w' ⟨rfl, ey, rfl⟩) | (go_at_call 10; (with_reducible refine (has_any _ _ _ _ _ _ _).mono ?_); rintro e w' ⟨rfl, ey, rfl⟩) | (go_at_call 21; (with_reducible refine (near_any _ _ _ _ _ _ _ _).mono ?_); rintro e w' ⟨rfl, ey, rfl⟩) | (go_at_call 13; (with_reducible refine (far_any _ _ _ _ _).mono ?_); rintro e w' ⟨rfl, ey, rfl⟩) | (go_at_call 17; (with_reducible refine (grow_any _ _ _ _ _ _).mono ?_); rintro e w' ⟨rfl, ey, rfl⟩) | (go_at_call 24; (with_reducible refine (size_any _ (by omega) _).mono ?_); rintro e w' ⟨rfl, ey, rfl⟩) | (go_at_call 14; (with_reducible refine (refFar_any _ _ _ _ _).mono ?_); rintro e w' ⟨rfl, ey, rfl⟩) | (go_at_call 27; (with_reducible refine (refNone_any _ _ _ _ _).mono ?_); rintro e w' ⟨rfl, ey, rfl⟩) | (go_at_call 11; (with_reducible refine (refHas_any _ _ _ _ _ _ _).mono ?_); rintro e w' ⟨rfl, ey, rfl⟩) | (go_at_call 18; (with_reducible refine (refGrow_any _ _ _ _ _ _).mono ?_); rintro e w' ⟨rfl, ey, rfl⟩) | (go_at_call 20; (with_reducible refine (half_any _ (by omega) _).mono ?_); rintro e w' ⟨rfl, ey, rfl⟩) | (go_at_call 12; (with_reducible refine (awake_any _).mono ?_); rintro e w' ⟨rfl, ey, rfl⟩))
  go_ret
  exact ⟨rfl, by (repeat (first | exact Plus.refl _ | apply Plus.plus | apply Plus.alloc | apply Plus.drew))⟩
theorem rectFars_walk (x y u v : Int) (w : World) : Calls Try.prog 4 #[pairV x y, pairV u v] w fun e w' => e = .returned (.bool true) ∧ w.Plus w' := by
  go_enter Try.func4, Try.ntmps4
  go_wp2_with (first | (go_at_call 23; (with_reducible refine (fixedClamp _ _).mono ?_); rintro e w' ⟨rfl, ey, rfl⟩) | (go_at_call 22; (with_reducible refine (refClamp _ _).mono ?_); rintro e w' ⟨rfl, ey, rfl⟩) | (go_at_call 28; (with_reducible refine (off_any _ _ _ _ (by omega) (by omega) (by omega)).mono ?_); rintro e w' ⟨rfl, ey, rfl⟩) | (go_at_call 25; (with_reducible refine (box_any _ _ _ _ _).mono ?_); rintro e w' ⟨rfl, ey, rfl⟩) | (go_at_call 19; (with_reducible refine (gap_any _ _ _ _ _ _ _).mono ?_); rintro e w' ⟨rfl, ey, rfl⟩) | (go_at_call 10; (with_reducible refine (has_any _ _ _ _ _ _ _).mono ?_); rintro e w' ⟨rfl, ey, rfl⟩) | (go_at_call 21; (with_reducible refine (near_any _ _ _ _ _ _ _ _).mono ?_); rintro e w' ⟨rfl, ey, rfl⟩) | (go_at_call 13; (with_reducible refine (far_any _ _ _ _ _).mono ?_); rintro e w' ⟨rfl, ey, rfl⟩) | (go_at_call 17; (with_reducible refine (grow_any _ _ _ _ _ _).mono ?_); rintro e w' ⟨rfl, ey, rfl⟩) | (go_at_call 24; (with_reducible refine (size_any _ (by omega) _).mono ?_); rintro e w' ⟨rfl, ey, rfl⟩) | (go_at_call 14; (with_reducible refine (refFar_any _ _ _ _ _).mono ?_); rintro e w' ⟨rfl, ey, rfl⟩) | (go_at_call 27; (with_reducible refine (refNone_any _ _ _ _ _).mono ?_); rintro e w' ⟨rfl, ey, rfl⟩) | (go_at_call 11; (with_reducible refine (refHas_any _ _ _ _ _ _ _).mono ?_); rintro e w' ⟨rfl, ey, rfl⟩) | (go_at_call 18; (with_reducible refine (refGrow_any _ _ _ _ _ _).mono ?_); rintro e w' ⟨rfl, ey, rfl⟩) | (go_at_call 20; (with_reducible refine (half_any _ (by omega) _).mono ?_); rintro e w' ⟨rfl, ey, rfl⟩) | (go_at_call 12; (with_reducible refine (awake_any _).mono ?_); rintro e w' ⟨rfl, ey, rfl⟩))
  refine wp_region_grow (by kernel_rfl) (by kernel_rfl) ?_
  repeat (go_big_quiet_step ((first | (go_at_call 23; exact Calls.plus_of (fixedClamp _ _)) | (go_at_call 22; exact Calls.plus_of (refClamp _ _)) | (go_at_call 28; exact Calls.plus_of (off_any _ _ _ _ (by omega) (by omega) (by omega))) | (go_at_call 25; exact Calls.plus_of (box_any _ _ _ _ _)) | (go_at_call 19; exact Calls.plus_of (gap_any _ _ _ _ _ _ _)) | (go_at_call 10; exact Calls.plus_of (has_any _ _ _ _ _ _ _)) | (go_at_call 21; exact Calls.plus_of (near_any _ _ _ _ _ _ _ _)) | (go_at_call 13; exact Calls.plus_of (far_any _ _ _ _ _)) | (go_at_call 17; exact Calls.plus_of (grow_any _ _ _ _ _ _)) | (go_at_call 24; exact Calls.plus_of (size_any _ (by omega) _)) | (go_at_call 14; exact Calls.plus_of (refFar_any _ _ _ _ _)) | (go_at_call 27; exact Calls.plus_of (refNone_any _ _ _ _ _)) | (go_at_call 11; exact Calls.plus_of (refHas_any _ _ _ _ _ _ _)) | (go_at_call 18; exact Calls.plus_of (refGrow_any _ _ _ _ _ _)) | (go_at_call 20; exact Calls.plus_of (half_any _ (by omega) _)) | (go_at_call 12; exact Calls.plus_of (awake_any _)))))
  refine wpQuiet_nil ?_
  intro ex
  go_wp2_with (first | (go_at_call 23; (with_reducible refine (fixedClamp _ _).mono ?_); rintro e w' ⟨rfl, ey, rfl⟩) | (go_at_call 22; (with_reducible refine (refClamp _ _).mono ?_); rintro e w' ⟨rfl, ey, rfl⟩) | (go_at_call 28; (with_reducible refine (off_any _ _ _ _ (by omega) (by omega) (by omega)).mono ?_); rintro e w' ⟨rfl, ey, rfl⟩) | (go_at_call 25; (with_reducible refine (box_any _ _ _ _ _).mono ?_); rintro e w' ⟨rfl, ey, rfl⟩) | (go_at_call 19; (with_reducible refine (gap_any _ _ _ _ _ _ _).mono ?_); rintro e w' ⟨rfl, ey, rfl⟩) | (go_at_call 10; (with_reducible refine (has_any _ _ _ _ _ _ _).mono ?_); rintro e w' ⟨rfl, ey, rfl⟩) | (go_at_call 21; (with_reducible refine (near_any _ _ _ _ _ _ _ _).mono ?_); rintro e w' ⟨rfl, ey, rfl⟩) | (go_at_call 13; (with_reducible refine (far_any _ _ _ _ _).mono ?_); rintro e w' ⟨rfl, ey, rfl⟩) | (go_at_call 17; (with_reducible refine (grow_any _ _ _ _ _ _).mono ?_); rintro e w' ⟨rfl, ey, rfl⟩) | (go_at_call 24; (with_reducible refine (size_any _ (by omega) _).mono ?_); rintro e w' ⟨rfl, ey, rfl⟩) | (go_at_call 14; (with_reducible refine (refFar_any _ _ _ _ _).mono ?_); rintro e w' ⟨rfl, ey, rfl⟩) | (go_at_call 27; (with_reducible refine (refNone_any _ _ _ _ _).mono ?_); rintro e w' ⟨rfl, ey, rfl⟩) | (go_at_call 11; (with_reducible refine (refHas_any _ _ _ _ _ _ _).mono ?_); rintro e w' ⟨rfl, ey, rfl⟩) | (go_at_call 18; (with_reducible refine (refGrow_any _ _ _ _ _ _).mono ?_); rintro e w' ⟨rfl, ey, rfl⟩) | (go_at_call 20; (with_reducible refine (half_any _ (by omega) _).mono ?_); rintro e w' ⟨rfl, ey, rfl⟩) | (go_at_call 12; (with_reducible refine (awake_any _).mono ?_); rintro e w' ⟨rfl, ey, rfl⟩))
  go_ret
  exact ⟨rfl, by (repeat (first | exact Plus.refl _ | apply Plus.plus | apply Plus.alloc | apply Plus.drew))⟩
theorem rectGrows_walk (a b c d n : Int) (w : World) : Calls Try.prog 6 #[rectV a b c d, .int .i64 n] w fun e w' => e = .returned (.bool true) ∧ w.Plus w' := by
  go_enter Try.func6, Try.ntmps6
  go_wp2_with (first | (go_at_call 23; (with_reducible refine (fixedClamp _ _).mono ?_); rintro e w' ⟨rfl, ey, rfl⟩) | (go_at_call 22; (with_reducible refine (refClamp _ _).mono ?_); rintro e w' ⟨rfl, ey, rfl⟩) | (go_at_call 28; (with_reducible refine (off_any _ _ _ _ (by omega) (by omega) (by omega)).mono ?_); rintro e w' ⟨rfl, ey, rfl⟩) | (go_at_call 25; (with_reducible refine (box_any _ _ _ _ _).mono ?_); rintro e w' ⟨rfl, ey, rfl⟩) | (go_at_call 19; (with_reducible refine (gap_any _ _ _ _ _ _ _).mono ?_); rintro e w' ⟨rfl, ey, rfl⟩) | (go_at_call 10; (with_reducible refine (has_any _ _ _ _ _ _ _).mono ?_); rintro e w' ⟨rfl, ey, rfl⟩) | (go_at_call 21; (with_reducible refine (near_any _ _ _ _ _ _ _ _).mono ?_); rintro e w' ⟨rfl, ey, rfl⟩) | (go_at_call 13; (with_reducible refine (far_any _ _ _ _ _).mono ?_); rintro e w' ⟨rfl, ey, rfl⟩) | (go_at_call 17; (with_reducible refine (grow_any _ _ _ _ _ _).mono ?_); rintro e w' ⟨rfl, ey, rfl⟩) | (go_at_call 24; (with_reducible refine (size_any _ (by omega) _).mono ?_); rintro e w' ⟨rfl, ey, rfl⟩) | (go_at_call 14; (with_reducible refine (refFar_any _ _ _ _ _).mono ?_); rintro e w' ⟨rfl, ey, rfl⟩) | (go_at_call 27; (with_reducible refine (refNone_any _ _ _ _ _).mono ?_); rintro e w' ⟨rfl, ey, rfl⟩) | (go_at_call 11; (with_reducible refine (refHas_any _ _ _ _ _ _ _).mono ?_); rintro e w' ⟨rfl, ey, rfl⟩) | (go_at_call 18; (with_reducible refine (refGrow_any _ _ _ _ _ _).mono ?_); rintro e w' ⟨rfl, ey, rfl⟩) | (go_at_call 20; (with_reducible refine (half_any _ (by omega) _).mono ?_); rintro e w' ⟨rfl, ey, rfl⟩) | (go_at_call 12; (with_reducible refine (awake_any _).mono ?_); rintro e w' ⟨rfl, ey, rfl⟩))
  refine wp_region_grow (by kernel_rfl) (by kernel_rfl) ?_
  repeat (go_big_quiet_step ((first | (go_at_call 23; exact Calls.plus_of (fixedClamp _ _)) | (go_at_call 22; exact Calls.plus_of (refClamp _ _)) | (go_at_call 28; exact Calls.plus_of (off_any _ _ _ _ (by omega) (by omega) (by omega))) | (go_at_call 25; exact Calls.plus_of (box_any _ _ _ _ _)) | (go_at_call 19; exact Calls.plus_of (gap_any _ _ _ _ _ _ _)) | (go_at_call 10; exact Calls.plus_of (has_any _ _ _ _ _ _ _)) | (go_at_call 21; exact Calls.plus_of (near_any _ _ _ _ _ _ _ _)) | (go_at_call 13; exact Calls.plus_of (far_any _ _ _ _ _)) | (go_at_call 17; exact Calls.plus_of (grow_any _ _ _ _ _ _)) | (go_at_call 24; exact Calls.plus_of (size_any _ (by omega) _)) | (go_at_call 14; exact Calls.plus_of (refFar_any _ _ _ _ _)) | (go_at_call 27; exact Calls.plus_of (refNone_any _ _ _ _ _)) | (go_at_call 11; exact Calls.plus_of (refHas_any _ _ _ _ _ _ _)) | (go_at_call 18; exact Calls.plus_of (refGrow_any _ _ _ _ _ _)) | (go_at_call 20; exact Calls.plus_of (half_any _ (by omega) _)) | (go_at_call 12; exact Calls.plus_of (awake_any _)))))
  refine wpQuiet_nil ?_
  intro ex
  go_wp2_with (first | (go_at_call 23; (with_reducible refine (fixedClamp _ _).mono ?_); rintro e w' ⟨rfl, ey, rfl⟩) | (go_at_call 22; (with_reducible refine (refClamp _ _).mono ?_); rintro e w' ⟨rfl, ey, rfl⟩) | (go_at_call 28; (with_reducible refine (off_any _ _ _ _ (by omega) (by omega) (by omega)).mono ?_); rintro e w' ⟨rfl, ey, rfl⟩) | (go_at_call 25; (with_reducible refine (box_any _ _ _ _ _).mono ?_); rintro e w' ⟨rfl, ey, rfl⟩) | (go_at_call 19; (with_reducible refine (gap_any _ _ _ _ _ _ _).mono ?_); rintro e w' ⟨rfl, ey, rfl⟩) | (go_at_call 10; (with_reducible refine (has_any _ _ _ _ _ _ _).mono ?_); rintro e w' ⟨rfl, ey, rfl⟩) | (go_at_call 21; (with_reducible refine (near_any _ _ _ _ _ _ _ _).mono ?_); rintro e w' ⟨rfl, ey, rfl⟩) | (go_at_call 13; (with_reducible refine (far_any _ _ _ _ _).mono ?_); rintro e w' ⟨rfl, ey, rfl⟩) | (go_at_call 17; (with_reducible refine (grow_any _ _ _ _ _ _).mono ?_); rintro e w' ⟨rfl, ey, rfl⟩) | (go_at_call 24; (with_reducible refine (size_any _ (by omega) _).mono ?_); rintro e w' ⟨rfl, ey, rfl⟩) | (go_at_call 14; (with_reducible refine (refFar_any _ _ _ _ _).mono ?_); rintro e w' ⟨rfl, ey, rfl⟩) | (go_at_call 27; (with_reducible refine (refNone_any _ _ _ _ _).mono ?_); rintro e w' ⟨rfl, ey, rfl⟩) | (go_at_call 11; (with_reducible refine (refHas_any _ _ _ _ _ _ _).mono ?_); rintro e w' ⟨rfl, ey, rfl⟩) | (go_at_call 18; (with_reducible refine (refGrow_any _ _ _ _ _ _).mono ?_); rintro e w' ⟨rfl, ey, rfl⟩) | (go_at_call 20; (with_reducible refine (half_any _ (by omega) _).mono ?_); rintro e w' ⟨rfl, ey, rfl⟩) | (go_at_call 12; (with_reducible refine (awake_any _).mono ?_); rintro e w' ⟨rfl, ey, rfl⟩))
  go_ret
  exact ⟨rfl, by (repeat (first | exact Plus.refl _ | apply Plus.plus | apply Plus.alloc | apply Plus.drew))⟩
set_option maxHeartbeats 1000000 in
theorem rectSteps_walk (a b c d x y u v : Int) (w : World) : Calls Try.prog 7 #[rectV a b c d, pairV x y, pairV u v] w fun e w' => e = .returned (.bool true) ∧ w.Plus w' := by
  have h1 : (decide (gapI a b c d x y < 0) == decide (gapI a b c d u v < 0)) = true := by rw [beq_iff_eq, decide_eq_decide, gap_neg, gap_neg]
  have h2 := gap_step a b c d x y u v
  have h3 := gap_step a b c d u v x y
  rw [far_comm] at h3
  have h4 : decide (gapI a b c d x y - gapI a b c d u v ≤ farI x y u v) = true := by simpa using h2
  have h5 : decide (gapI a b c d u v - gapI a b c d x y ≤ farI x y u v) = true := by simpa using h3
  have b1 : -1 ≤ gapI a b c d x y ∧ gapI a b c d x y ≤ 8589934592 := gap_bd _ _ _ _ _ _
  have b2 : -1 ≤ gapI a b c d u v ∧ gapI a b c d u v ≤ 8589934592 := gap_bd _ _ _ _ _ _
  clear h2 h3
  go_enter Try.func7, Try.ntmps7
  go_wp2_with (first | (go_at_call 23; (with_reducible refine (fixedClamp _ _).mono ?_); rintro e w' ⟨rfl, ey, rfl⟩) | (go_at_call 22; (with_reducible refine (refClamp _ _).mono ?_); rintro e w' ⟨rfl, ey, rfl⟩) | (go_at_call 28; (with_reducible refine (off_any _ _ _ _ (by omega) (by omega) (by omega)).mono ?_); rintro e w' ⟨rfl, ey, rfl⟩) | (go_at_call 25; (with_reducible refine (box_any _ _ _ _ _).mono ?_); rintro e w' ⟨rfl, ey, rfl⟩) | (go_at_call 19; (with_reducible refine (gap_any _ _ _ _ _ _ _).mono ?_); rintro e w' ⟨rfl, ey, rfl⟩) | (go_at_call 10; (with_reducible refine (has_any _ _ _ _ _ _ _).mono ?_); rintro e w' ⟨rfl, ey, rfl⟩) | (go_at_call 21; (with_reducible refine (near_any _ _ _ _ _ _ _ _).mono ?_); rintro e w' ⟨rfl, ey, rfl⟩) | (go_at_call 13; (with_reducible refine (far_any _ _ _ _ _).mono ?_); rintro e w' ⟨rfl, ey, rfl⟩) | (go_at_call 17; (with_reducible refine (grow_any _ _ _ _ _ _).mono ?_); rintro e w' ⟨rfl, ey, rfl⟩) | (go_at_call 24; (with_reducible refine (size_any _ (by omega) _).mono ?_); rintro e w' ⟨rfl, ey, rfl⟩) | (go_at_call 14; (with_reducible refine (refFar_any _ _ _ _ _).mono ?_); rintro e w' ⟨rfl, ey, rfl⟩) | (go_at_call 27; (with_reducible refine (refNone_any _ _ _ _ _).mono ?_); rintro e w' ⟨rfl, ey, rfl⟩) | (go_at_call 11; (with_reducible refine (refHas_any _ _ _ _ _ _ _).mono ?_); rintro e w' ⟨rfl, ey, rfl⟩) | (go_at_call 18; (with_reducible refine (refGrow_any _ _ _ _ _ _).mono ?_); rintro e w' ⟨rfl, ey, rfl⟩) | (go_at_call 20; (with_reducible refine (half_any _ (by omega) _).mono ?_); rintro e w' ⟨rfl, ey, rfl⟩) | (go_at_call 12; (with_reducible refine (awake_any _).mono ?_); rintro e w' ⟨rfl, ey, rfl⟩))
  refine wp_region_grow (by kernel_rfl) (by kernel_rfl) ?_
  repeat (go_big_quiet_step ((first | (go_at_call 23; exact Calls.plus_of (fixedClamp _ _)) | (go_at_call 22; exact Calls.plus_of (refClamp _ _)) | (go_at_call 28; exact Calls.plus_of (off_any _ _ _ _ (by omega) (by omega) (by omega))) | (go_at_call 25; exact Calls.plus_of (box_any _ _ _ _ _)) | (go_at_call 19; exact Calls.plus_of (gap_any _ _ _ _ _ _ _)) | (go_at_call 10; exact Calls.plus_of (has_any _ _ _ _ _ _ _)) | (go_at_call 21; exact Calls.plus_of (near_any _ _ _ _ _ _ _ _)) | (go_at_call 13; exact Calls.plus_of (far_any _ _ _ _ _)) | (go_at_call 17; exact Calls.plus_of (grow_any _ _ _ _ _ _)) | (go_at_call 24; exact Calls.plus_of (size_any _ (by omega) _)) | (go_at_call 14; exact Calls.plus_of (refFar_any _ _ _ _ _)) | (go_at_call 27; exact Calls.plus_of (refNone_any _ _ _ _ _)) | (go_at_call 11; exact Calls.plus_of (refHas_any _ _ _ _ _ _ _)) | (go_at_call 18; exact Calls.plus_of (refGrow_any _ _ _ _ _ _)) | (go_at_call 20; exact Calls.plus_of (half_any _ (by omega) _)) | (go_at_call 12; exact Calls.plus_of (awake_any _)))))
  refine wpQuiet_nil ?_
  intro ex
  go_wp2_with (first | (go_at_call 23; (with_reducible refine (fixedClamp _ _).mono ?_); rintro e w' ⟨rfl, ey, rfl⟩) | (go_at_call 22; (with_reducible refine (refClamp _ _).mono ?_); rintro e w' ⟨rfl, ey, rfl⟩) | (go_at_call 28; (with_reducible refine (off_any _ _ _ _ (by omega) (by omega) (by omega)).mono ?_); rintro e w' ⟨rfl, ey, rfl⟩) | (go_at_call 25; (with_reducible refine (box_any _ _ _ _ _).mono ?_); rintro e w' ⟨rfl, ey, rfl⟩) | (go_at_call 19; (with_reducible refine (gap_any _ _ _ _ _ _ _).mono ?_); rintro e w' ⟨rfl, ey, rfl⟩) | (go_at_call 10; (with_reducible refine (has_any _ _ _ _ _ _ _).mono ?_); rintro e w' ⟨rfl, ey, rfl⟩) | (go_at_call 21; (with_reducible refine (near_any _ _ _ _ _ _ _ _).mono ?_); rintro e w' ⟨rfl, ey, rfl⟩) | (go_at_call 13; (with_reducible refine (far_any _ _ _ _ _).mono ?_); rintro e w' ⟨rfl, ey, rfl⟩) | (go_at_call 17; (with_reducible refine (grow_any _ _ _ _ _ _).mono ?_); rintro e w' ⟨rfl, ey, rfl⟩) | (go_at_call 24; (with_reducible refine (size_any _ (by omega) _).mono ?_); rintro e w' ⟨rfl, ey, rfl⟩) | (go_at_call 14; (with_reducible refine (refFar_any _ _ _ _ _).mono ?_); rintro e w' ⟨rfl, ey, rfl⟩) | (go_at_call 27; (with_reducible refine (refNone_any _ _ _ _ _).mono ?_); rintro e w' ⟨rfl, ey, rfl⟩) | (go_at_call 11; (with_reducible refine (refHas_any _ _ _ _ _ _ _).mono ?_); rintro e w' ⟨rfl, ey, rfl⟩) | (go_at_call 18; (with_reducible refine (refGrow_any _ _ _ _ _ _).mono ?_); rintro e w' ⟨rfl, ey, rfl⟩) | (go_at_call 20; (with_reducible refine (half_any _ (by omega) _).mono ?_); rintro e w' ⟨rfl, ey, rfl⟩) | (go_at_call 12; (with_reducible refine (awake_any _).mono ?_); rintro e w' ⟨rfl, ey, rfl⟩))
  go_ret
  exact ⟨rfl, by (repeat (first | exact Plus.refl _ | apply Plus.plus | apply Plus.alloc | apply Plus.drew))⟩
set_option maxHeartbeats 1000000 in
theorem rectApart_walk (x y u v s t : Int) (w : World) : Calls Try.prog 8 #[pairV x y, pairV u v, pairV s t] w fun e w' => e = .returned (.bool true) ∧ w.Plus w' := by
  have h1 : (farI x y u v == farI u v x y) = true := by rw [far_comm, beq_self_eq_true]
  have h2 := far_nonneg x y u v
  have h3 := far_tri x y u v s t
  have h6 : decide (0 ≤ farI x y u v) = true := by simpa using h2
  have h7 : decide (farI x y s t ≤ farI x y u v + farI u v s t) = true := by simpa using h3
  have b1 := far_bd x y u v
  have b2 := far_bd u v s t
  go_enter Try.func8, Try.ntmps8
  go_wp2_with (first | (go_at_call 23; (with_reducible refine (fixedClamp _ _).mono ?_); rintro e w' ⟨rfl, ey, rfl⟩) | (go_at_call 22; (with_reducible refine (refClamp _ _).mono ?_); rintro e w' ⟨rfl, ey, rfl⟩) | (go_at_call 28; (with_reducible refine (off_any _ _ _ _ (by omega) (by omega) (by omega)).mono ?_); rintro e w' ⟨rfl, ey, rfl⟩) | (go_at_call 25; (with_reducible refine (box_any _ _ _ _ _).mono ?_); rintro e w' ⟨rfl, ey, rfl⟩) | (go_at_call 19; (with_reducible refine (gap_any _ _ _ _ _ _ _).mono ?_); rintro e w' ⟨rfl, ey, rfl⟩) | (go_at_call 10; (with_reducible refine (has_any _ _ _ _ _ _ _).mono ?_); rintro e w' ⟨rfl, ey, rfl⟩) | (go_at_call 21; (with_reducible refine (near_any _ _ _ _ _ _ _ _).mono ?_); rintro e w' ⟨rfl, ey, rfl⟩) | (go_at_call 13; (with_reducible refine (far_any _ _ _ _ _).mono ?_); rintro e w' ⟨rfl, ey, rfl⟩) | (go_at_call 17; (with_reducible refine (grow_any _ _ _ _ _ _).mono ?_); rintro e w' ⟨rfl, ey, rfl⟩) | (go_at_call 24; (with_reducible refine (size_any _ (by omega) _).mono ?_); rintro e w' ⟨rfl, ey, rfl⟩) | (go_at_call 14; (with_reducible refine (refFar_any _ _ _ _ _).mono ?_); rintro e w' ⟨rfl, ey, rfl⟩) | (go_at_call 27; (with_reducible refine (refNone_any _ _ _ _ _).mono ?_); rintro e w' ⟨rfl, ey, rfl⟩) | (go_at_call 11; (with_reducible refine (refHas_any _ _ _ _ _ _ _).mono ?_); rintro e w' ⟨rfl, ey, rfl⟩) | (go_at_call 18; (with_reducible refine (refGrow_any _ _ _ _ _ _).mono ?_); rintro e w' ⟨rfl, ey, rfl⟩) | (go_at_call 20; (with_reducible refine (half_any _ (by omega) _).mono ?_); rintro e w' ⟨rfl, ey, rfl⟩) | (go_at_call 12; (with_reducible refine (awake_any _).mono ?_); rintro e w' ⟨rfl, ey, rfl⟩))
  refine wp_region_grow (by kernel_rfl) (by kernel_rfl) ?_
  repeat (go_big_quiet_step ((first | (go_at_call 23; exact Calls.plus_of (fixedClamp _ _)) | (go_at_call 22; exact Calls.plus_of (refClamp _ _)) | (go_at_call 28; exact Calls.plus_of (off_any _ _ _ _ (by omega) (by omega) (by omega))) | (go_at_call 25; exact Calls.plus_of (box_any _ _ _ _ _)) | (go_at_call 19; exact Calls.plus_of (gap_any _ _ _ _ _ _ _)) | (go_at_call 10; exact Calls.plus_of (has_any _ _ _ _ _ _ _)) | (go_at_call 21; exact Calls.plus_of (near_any _ _ _ _ _ _ _ _)) | (go_at_call 13; exact Calls.plus_of (far_any _ _ _ _ _)) | (go_at_call 17; exact Calls.plus_of (grow_any _ _ _ _ _ _)) | (go_at_call 24; exact Calls.plus_of (size_any _ (by omega) _)) | (go_at_call 14; exact Calls.plus_of (refFar_any _ _ _ _ _)) | (go_at_call 27; exact Calls.plus_of (refNone_any _ _ _ _ _)) | (go_at_call 11; exact Calls.plus_of (refHas_any _ _ _ _ _ _ _)) | (go_at_call 18; exact Calls.plus_of (refGrow_any _ _ _ _ _ _)) | (go_at_call 20; exact Calls.plus_of (half_any _ (by omega) _)) | (go_at_call 12; exact Calls.plus_of (awake_any _)))))
  refine wpQuiet_nil ?_
  intro ex
  go_wp2_with (first | (go_at_call 23; (with_reducible refine (fixedClamp _ _).mono ?_); rintro e w' ⟨rfl, ey, rfl⟩) | (go_at_call 22; (with_reducible refine (refClamp _ _).mono ?_); rintro e w' ⟨rfl, ey, rfl⟩) | (go_at_call 28; (with_reducible refine (off_any _ _ _ _ (by omega) (by omega) (by omega)).mono ?_); rintro e w' ⟨rfl, ey, rfl⟩) | (go_at_call 25; (with_reducible refine (box_any _ _ _ _ _).mono ?_); rintro e w' ⟨rfl, ey, rfl⟩) | (go_at_call 19; (with_reducible refine (gap_any _ _ _ _ _ _ _).mono ?_); rintro e w' ⟨rfl, ey, rfl⟩) | (go_at_call 10; (with_reducible refine (has_any _ _ _ _ _ _ _).mono ?_); rintro e w' ⟨rfl, ey, rfl⟩) | (go_at_call 21; (with_reducible refine (near_any _ _ _ _ _ _ _ _).mono ?_); rintro e w' ⟨rfl, ey, rfl⟩) | (go_at_call 13; (with_reducible refine (far_any _ _ _ _ _).mono ?_); rintro e w' ⟨rfl, ey, rfl⟩) | (go_at_call 17; (with_reducible refine (grow_any _ _ _ _ _ _).mono ?_); rintro e w' ⟨rfl, ey, rfl⟩) | (go_at_call 24; (with_reducible refine (size_any _ (by omega) _).mono ?_); rintro e w' ⟨rfl, ey, rfl⟩) | (go_at_call 14; (with_reducible refine (refFar_any _ _ _ _ _).mono ?_); rintro e w' ⟨rfl, ey, rfl⟩) | (go_at_call 27; (with_reducible refine (refNone_any _ _ _ _ _).mono ?_); rintro e w' ⟨rfl, ey, rfl⟩) | (go_at_call 11; (with_reducible refine (refHas_any _ _ _ _ _ _ _).mono ?_); rintro e w' ⟨rfl, ey, rfl⟩) | (go_at_call 18; (with_reducible refine (refGrow_any _ _ _ _ _ _).mono ?_); rintro e w' ⟨rfl, ey, rfl⟩) | (go_at_call 20; (with_reducible refine (half_any _ (by omega) _).mono ?_); rintro e w' ⟨rfl, ey, rfl⟩) | (go_at_call 12; (with_reducible refine (awake_any _).mono ?_); rintro e w' ⟨rfl, ey, rfl⟩))
  go_ret
  exact ⟨rfl, by (repeat (first | exact Plus.refl _ | apply Plus.plus | apply Plus.alloc | apply Plus.drew))⟩
set_option maxHeartbeats 1000000 in
theorem rectWithin_walk (a b c d x y n : Int) (ha : i64 a) (hb : i64 b) (hc : i64 c) (hd : i64 d) (hx : i64 x) (hy : i64 y) (hn : i64 n) (w : World) : Calls Try.prog 9 #[rectV a b c d, pairV x y, .int .i64 n] w fun e w' => e = .returned (.bool true) ∧ w.Plus w' := by
  have h1 := within_same (a.tmod 268435456) (b.tmod 268435456) (c.tmod 268435456) (d.tmod 268435456) (x.tmod 268435456) (y.tmod 268435456) (max 0 (n.tmod 268435456)) (half_bd a) (half_bd b) (half_bd c) (half_bd d) (half_bd x) (half_bd y) (by have := half_bd n; omega)
  rw [Bool.decide_and] at h1
  unfold i64 at *
  go_enter Try.func9, Try.ntmps9
  go_wp2_with (first | (go_at_call 23; (with_reducible refine (fixedClamp _ _).mono ?_); rintro e w' ⟨rfl, ey, rfl⟩) | (go_at_call 22; (with_reducible refine (refClamp _ _).mono ?_); rintro e w' ⟨rfl, ey, rfl⟩) | (go_at_call 28; (with_reducible refine (off_any _ _ _ _ (by omega) (by omega) (by omega)).mono ?_); rintro e w' ⟨rfl, ey, rfl⟩) | (go_at_call 25; (with_reducible refine (box_any _ _ _ _ _).mono ?_); rintro e w' ⟨rfl, ey, rfl⟩) | (go_at_call 19; (with_reducible refine (gap_any _ _ _ _ _ _ _).mono ?_); rintro e w' ⟨rfl, ey, rfl⟩) | (go_at_call 10; (with_reducible refine (has_any _ _ _ _ _ _ _).mono ?_); rintro e w' ⟨rfl, ey, rfl⟩) | (go_at_call 21; (with_reducible refine (near_any _ _ _ _ _ _ _ _).mono ?_); rintro e w' ⟨rfl, ey, rfl⟩) | (go_at_call 13; (with_reducible refine (far_any _ _ _ _ _).mono ?_); rintro e w' ⟨rfl, ey, rfl⟩) | (go_at_call 17; (with_reducible refine (grow_any _ _ _ _ _ _).mono ?_); rintro e w' ⟨rfl, ey, rfl⟩) | (go_at_call 24; (with_reducible refine (size_any _ (by omega) _).mono ?_); rintro e w' ⟨rfl, ey, rfl⟩) | (go_at_call 14; (with_reducible refine (refFar_any _ _ _ _ _).mono ?_); rintro e w' ⟨rfl, ey, rfl⟩) | (go_at_call 27; (with_reducible refine (refNone_any _ _ _ _ _).mono ?_); rintro e w' ⟨rfl, ey, rfl⟩) | (go_at_call 11; (with_reducible refine (refHas_any _ _ _ _ _ _ _).mono ?_); rintro e w' ⟨rfl, ey, rfl⟩) | (go_at_call 18; (with_reducible refine (refGrow_any _ _ _ _ _ _).mono ?_); rintro e w' ⟨rfl, ey, rfl⟩) | (go_at_call 20; (with_reducible refine (half_any _ (by omega) _).mono ?_); rintro e w' ⟨rfl, ey, rfl⟩) | (go_at_call 12; (with_reducible refine (awake_any _).mono ?_); rintro e w' ⟨rfl, ey, rfl⟩))
  refine wp_region_grow_tail 13 (by kernel_rfl) (by kernel_rfl) ?_
  simp only [List.take_succ_cons, List.take_zero, List.drop_succ_cons, List.drop_zero]
  repeat (go_big_quiet_step ((first | (go_at_call 23; exact Calls.plus_of (fixedClamp _ _)) | (go_at_call 22; exact Calls.plus_of (refClamp _ _)) | (go_at_call 28; exact Calls.plus_of (off_any _ _ _ _ (by omega) (by omega) (by omega))) | (go_at_call 25; exact Calls.plus_of (box_any _ _ _ _ _)) | (go_at_call 19; exact Calls.plus_of (gap_any _ _ _ _ _ _ _)) | (go_at_call 10; exact Calls.plus_of (has_any _ _ _ _ _ _ _)) | (go_at_call 21; exact Calls.plus_of (near_any _ _ _ _ _ _ _ _)) | (go_at_call 13; exact Calls.plus_of (far_any _ _ _ _ _)) | (go_at_call 17; exact Calls.plus_of (grow_any _ _ _ _ _ _)) | (go_at_call 24; exact Calls.plus_of (size_any _ (by omega) _)) | (go_at_call 14; exact Calls.plus_of (refFar_any _ _ _ _ _)) | (go_at_call 27; exact Calls.plus_of (refNone_any _ _ _ _ _)) | (go_at_call 11; exact Calls.plus_of (refHas_any _ _ _ _ _ _ _)) | (go_at_call 18; exact Calls.plus_of (refGrow_any _ _ _ _ _ _)) | (go_at_call 20; exact Calls.plus_of (half_any _ (by omega) _)) | (go_at_call 12; exact Calls.plus_of (awake_any _)))))
  refine wpQuiet_nil ?_
  intro ex
  go_wp2_with fail
  refine wp_region_grow (by kernel_rfl) (by kernel_rfl) ?_
  repeat (go_big_quiet_step ((first | (go_at_call 23; exact Calls.plus_of (fixedClamp _ _)) | (go_at_call 22; exact Calls.plus_of (refClamp _ _)) | (go_at_call 28; exact Calls.plus_of (off_any _ _ _ _ (by omega) (by omega) (by omega))) | (go_at_call 25; exact Calls.plus_of (box_any _ _ _ _ _)) | (go_at_call 19; exact Calls.plus_of (gap_any _ _ _ _ _ _ _)) | (go_at_call 10; exact Calls.plus_of (has_any _ _ _ _ _ _ _)) | (go_at_call 21; exact Calls.plus_of (near_any _ _ _ _ _ _ _ _)) | (go_at_call 13; exact Calls.plus_of (far_any _ _ _ _ _)) | (go_at_call 17; exact Calls.plus_of (grow_any _ _ _ _ _ _)) | (go_at_call 24; exact Calls.plus_of (size_any _ (by omega) _)) | (go_at_call 14; exact Calls.plus_of (refFar_any _ _ _ _ _)) | (go_at_call 27; exact Calls.plus_of (refNone_any _ _ _ _ _)) | (go_at_call 11; exact Calls.plus_of (refHas_any _ _ _ _ _ _ _)) | (go_at_call 18; exact Calls.plus_of (refGrow_any _ _ _ _ _ _)) | (go_at_call 20; exact Calls.plus_of (half_any _ (by omega) _)) | (go_at_call 12; exact Calls.plus_of (awake_any _)))))
  refine wpQuiet_nil ?_
  intro ex
  go_wp2_with fail
  refine wp_region_grow (by kernel_rfl) (by kernel_rfl) ?_
  repeat (go_big_quiet_step ((first | (go_at_call 23; exact Calls.plus_of (fixedClamp _ _)) | (go_at_call 22; exact Calls.plus_of (refClamp _ _)) | (go_at_call 28; exact Calls.plus_of (off_any _ _ _ _ (by omega) (by omega) (by omega))) | (go_at_call 25; exact Calls.plus_of (box_any _ _ _ _ _)) | (go_at_call 19; exact Calls.plus_of (gap_any _ _ _ _ _ _ _)) | (go_at_call 10; exact Calls.plus_of (has_any _ _ _ _ _ _ _)) | (go_at_call 21; exact Calls.plus_of (near_any _ _ _ _ _ _ _ _)) | (go_at_call 13; exact Calls.plus_of (far_any _ _ _ _ _)) | (go_at_call 17; exact Calls.plus_of (grow_any _ _ _ _ _ _)) | (go_at_call 24; exact Calls.plus_of (size_any _ (by omega) _)) | (go_at_call 14; exact Calls.plus_of (refFar_any _ _ _ _ _)) | (go_at_call 27; exact Calls.plus_of (refNone_any _ _ _ _ _)) | (go_at_call 11; exact Calls.plus_of (refHas_any _ _ _ _ _ _ _)) | (go_at_call 18; exact Calls.plus_of (refGrow_any _ _ _ _ _ _)) | (go_at_call 20; exact Calls.plus_of (half_any _ (by omega) _)) | (go_at_call 12; exact Calls.plus_of (awake_any _)))))
  refine wpQuiet_nil ?_
  intro ex
  go_wp2_with fail
  go_ret
  exact ⟨rfl, by (repeat (first | exact Plus.refl _ | apply Plus.plus | apply Plus.alloc | apply Plus.drew))⟩
end Go.Proofs.Ytmmnidkmblfcbaa
