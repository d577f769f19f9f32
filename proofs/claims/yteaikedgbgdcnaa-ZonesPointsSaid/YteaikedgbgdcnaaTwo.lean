/- What two rectangles, and a list of them, have in common: contracts. -/
import Derived.Test.YteaikedgbgdcnaaRect
set_option linter.unusedSimpArgs false
set_option linter.unusedVariables false
namespace Go.Proofs.Yteaikedgbgdcnaa
open Go.RowKit

/-- the numbers that two rectangles have in common -/
def meet (p q : R4) : R4 := ⟨max (clamp p.a) (clamp q.a), max (clamp p.b) (clamp q.b), min (clamp p.c) (clamp q.c), min (clamp p.d) (clamp q.d)⟩
def R4.ok (r : R4) : Bool := decide (r.a < r.c) && decide (r.b < r.d)
def twoI (p q : R4) : R4 := if (meet p q).ok = true then meet p q else ⟨0, 0, 0, 0⟩
theorem clamp_clamp (n : Int) : clamp (clamp n) = clamp n := by unfold clamp; omega
theorem clamp_max (a b : Int) : clamp (max (clamp a) (clamp b)) = max (clamp a) (clamp b) := by unfold clamp; omega
theorem clamp_min (a b : Int) : clamp (min (clamp a) (clamp b)) = min (clamp a) (clamp b) := by unfold clamp; omega
theorem none_meet (p q : R4) : noneB (meet p q).a (meet p q).b (meet p q).c (meet p q).d = !(meet p q).ok := by
  have h1 : clamp (meet p q).a = (meet p q).a := clamp_max _ _
  have h2 : clamp (meet p q).b = (meet p q).b := clamp_max _ _
  have h3 : clamp (meet p q).c = (meet p q).c := clamp_min _ _
  have h4 : clamp (meet p q).d = (meet p q).d := clamp_min _ _
  unfold noneB R4.ok
  rw [h1, h2, h3, h4, Bool.decide_and]
set_option maxHeartbeats 1000000 in
theorem two_any (p q : R4) (w : World) : Calls Try.prog 40 #[p.v, q.v] w fun e w' => e = .returned (twoI p q).v ∧ w.Plus w' := by
  obtain ⟨a, b, c, d⟩ := p
  obtain ⟨a', b', c', d'⟩ := q
  obtain ⟨L, hL⟩ : ∃ L, L = ((w.alloc (.cells #[.int .i64 a, .int .i64 b, .int .i64 c, .int .i64 d] 52)).alloc (.cells #[.int .i64 a', .int .i64 b', .int .i64 c', .int .i64 d'] 52)).alloc (.cells #[.int .i64 0, .int .i64 0, .int .i64 0, .int .i64 0] 52) := ⟨_, rfl⟩
  have HL := Lib.hid hL
  clear hL
  go_enter Try.func40, Try.ntmps40
  go_upto_region 1 with fail
  go_cut [5] (fun s5 wx => ∃ n, s5 = .pointer (some ⟨n, 0, none⟩) ∧ NewIn L 52 #[.int .i64 (clamp a), .int .i64 (clamp b), .int .i64 (clamp c), .int .i64 (clamp d)] n wx)
  case first =>
    go_region_held3 (fun w' => w'.cell? ⟨w.heap.size, 0, none⟩ = some (.int .i64 a) ∧ w'.cell? ⟨w.heap.size, 1, none⟩ = some (.int .i64 b) ∧ w'.cell? ⟨w.heap.size, 2, none⟩ = some (.int .i64 c) ∧ w'.cell? ⟨w.heap.size, 3, none⟩ = some (.int .i64 d)) (simp [go_sem])
      (first | (go_at_call 44; refine (refClamp _ _).mono ?_; rintro e w' ⟨rfl, ey, rfl⟩))
    all_goals (go_wp2_with fail; go_meet)
    all_goals
      refine ⟨_, rfl, ?_⟩
      rw [HL.out]
      repeat (first | apply NewIn.plus | apply NewIn.drew)
      exact NewIn.mk (by (repeat (first | exact Plus.refl _ | apply Plus.plus | apply Plus.alloc | apply Plus.drew))) _ _ (by simp [go_sem])
  have hL := HL.out
  subst hL
  clear HL
  obtain ⟨n, rfl, e1, e2, hn, rfl⟩ := hcut
  simp only [World.size_plus, World.size_alloc] at hn
  subst hn
  go_wp2_with fail
  refine wp_region_grow (by kernel_rfl) (by kernel_rfl) ?_
  repeat (go_big_quiet_step ((first | (go_at_call 43; exact Calls.plus_of (fixedClamp _ _)) | (go_at_call 44; exact Calls.plus_of (refClamp _ _)) | (go_at_call 42; exact Calls.plus_of (off_any _ _ _ _ (by omega) (by omega) (by omega))) | (go_at_call 41; exact Calls.plus_of (box_any _ _ _ _ _)) | (go_at_call 28; exact Calls.plus_of (gap_any _ _ _ _ _ _ _)) | (go_at_call 32; exact Calls.plus_of (has_any _ _ _ _ _ _ _)) | (go_at_call 36; exact Calls.plus_of (near_any _ _ _ _ _ _ _ _)) | (go_at_call 47; exact Calls.plus_of (size_any _ (by omega) _)) | (go_at_call 45; exact Calls.plus_of (refFar_any _ _ _ _ _)) | (go_at_call 39; exact Calls.plus_of (refNone_any _ _ _ _ _)) | (go_at_call 35; exact Calls.plus_of (refHas_any _ _ _ _ _ _ _)) | (go_at_call 38; exact Calls.plus_of (refGrow_any _ _ _ _ _ _)))))
  refine wpQuiet_nil ?_
  intro ex
  go_upto_if 24 with fail
  go_cut [] (fun wx => ∃ v, v = max (clamp a) (clamp a') ∧ World.Plus (((((w.alloc (.cells #[.int .i64 a, .int .i64 b, .int .i64 c, .int .i64 d] 52)).alloc (.cells #[.int .i64 a', .int .i64 b', .int .i64 c', .int .i64 d'] 52)).alloc (.cells #[.int .i64 0, .int .i64 0, .int .i64 0, .int .i64 0] 52)).plus e1).alloc (.cells #[.int .i64 v, .int .i64 (clamp b), .int .i64 (clamp c), .int .i64 (clamp d)] 52)) wx)
  case first =>
    go_wp2_with (first | (go_at_call 43; (with_reducible refine (fixedClamp _ _).mono ?_); rintro e w' ⟨rfl, ey, rfl⟩) | (go_at_call 44; (with_reducible refine (refClamp _ _).mono ?_); rintro e w' ⟨rfl, ey, rfl⟩) | (go_at_call 42; (with_reducible refine (off_any _ _ _ _ (by omega) (by omega) (by omega)).mono ?_); rintro e w' ⟨rfl, ey, rfl⟩) | (go_at_call 41; (with_reducible refine (box_any _ _ _ _ _).mono ?_); rintro e w' ⟨rfl, ey, rfl⟩) | (go_at_call 28; (with_reducible refine (gap_any _ _ _ _ _ _ _).mono ?_); rintro e w' ⟨rfl, ey, rfl⟩) | (go_at_call 32; (with_reducible refine (has_any _ _ _ _ _ _ _).mono ?_); rintro e w' ⟨rfl, ey, rfl⟩) | (go_at_call 36; (with_reducible refine (near_any _ _ _ _ _ _ _ _).mono ?_); rintro e w' ⟨rfl, ey, rfl⟩) | (go_at_call 47; (with_reducible refine (size_any _ (by omega) _).mono ?_); rintro e w' ⟨rfl, ey, rfl⟩) | (go_at_call 45; (with_reducible refine (refFar_any _ _ _ _ _).mono ?_); rintro e w' ⟨rfl, ey, rfl⟩) | (go_at_call 39; (with_reducible refine (refNone_any _ _ _ _ _).mono ?_); rintro e w' ⟨rfl, ey, rfl⟩) | (go_at_call 35; (with_reducible refine (refHas_any _ _ _ _ _ _ _).mono ?_); rintro e w' ⟨rfl, ey, rfl⟩) | (go_at_call 38; (with_reducible refine (refGrow_any _ _ _ _ _ _).mono ?_); rintro e w' ⟨rfl, ey, rfl⟩))
    all_goals (go_meet; apply Exists.intro; refine And.intro ?_ ?_; rotate_left; (repeat (first | exact Plus.refl _ | apply Plus.plus | apply Plus.alloc | apply Plus.drew)); omega)
  obtain ⟨v1, hv1, e3, rfl⟩ := hcut
  have HV1 := Lib.hid hv1
  clear hv1
  go_wp2_with fail
  refine wp_region_grow (by kernel_rfl) (by kernel_rfl) ?_
  repeat (go_big_quiet_step ((first | (go_at_call 43; exact Calls.plus_of (fixedClamp _ _)) | (go_at_call 44; exact Calls.plus_of (refClamp _ _)) | (go_at_call 42; exact Calls.plus_of (off_any _ _ _ _ (by omega) (by omega) (by omega))) | (go_at_call 41; exact Calls.plus_of (box_any _ _ _ _ _)) | (go_at_call 28; exact Calls.plus_of (gap_any _ _ _ _ _ _ _)) | (go_at_call 32; exact Calls.plus_of (has_any _ _ _ _ _ _ _)) | (go_at_call 36; exact Calls.plus_of (near_any _ _ _ _ _ _ _ _)) | (go_at_call 47; exact Calls.plus_of (size_any _ (by omega) _)) | (go_at_call 45; exact Calls.plus_of (refFar_any _ _ _ _ _)) | (go_at_call 39; exact Calls.plus_of (refNone_any _ _ _ _ _)) | (go_at_call 35; exact Calls.plus_of (refHas_any _ _ _ _ _ _ _)) | (go_at_call 38; exact Calls.plus_of (refGrow_any _ _ _ _ _ _)))))
  refine wpQuiet_nil ?_
  intro ex
  go_upto_if 34 with fail
  go_cut [] (fun wx => ∃ v, v = max (clamp b) (clamp b') ∧ World.Plus (((((w.alloc (.cells #[.int .i64 a, .int .i64 b, .int .i64 c, .int .i64 d] 52)).alloc (.cells #[.int .i64 a', .int .i64 b', .int .i64 c', .int .i64 d'] 52)).alloc (.cells #[.int .i64 0, .int .i64 0, .int .i64 0, .int .i64 0] 52)).plus e1).alloc (.cells #[.int .i64 v1, .int .i64 v, .int .i64 (clamp c), .int .i64 (clamp d)] 52)) wx)
  case first =>
    go_wp2_with (first | (go_at_call 43; (with_reducible refine (fixedClamp _ _).mono ?_); rintro e w' ⟨rfl, ey, rfl⟩) | (go_at_call 44; (with_reducible refine (refClamp _ _).mono ?_); rintro e w' ⟨rfl, ey, rfl⟩) | (go_at_call 42; (with_reducible refine (off_any _ _ _ _ (by omega) (by omega) (by omega)).mono ?_); rintro e w' ⟨rfl, ey, rfl⟩) | (go_at_call 41; (with_reducible refine (box_any _ _ _ _ _).mono ?_); rintro e w' ⟨rfl, ey, rfl⟩) | (go_at_call 28; (with_reducible refine (gap_any _ _ _ _ _ _ _).mono ?_); rintro e w' ⟨rfl, ey, rfl⟩) | (go_at_call 32; (with_reducible refine (has_any _ _ _ _ _ _ _).mono ?_); rintro e w' ⟨rfl, ey, rfl⟩) | (go_at_call 36; (with_reducible refine (near_any _ _ _ _ _ _ _ _).mono ?_); rintro e w' ⟨rfl, ey, rfl⟩) | (go_at_call 47; (with_reducible refine (size_any _ (by omega) _).mono ?_); rintro e w' ⟨rfl, ey, rfl⟩) | (go_at_call 45; (with_reducible refine (refFar_any _ _ _ _ _).mono ?_); rintro e w' ⟨rfl, ey, rfl⟩) | (go_at_call 39; (with_reducible refine (refNone_any _ _ _ _ _).mono ?_); rintro e w' ⟨rfl, ey, rfl⟩) | (go_at_call 35; (with_reducible refine (refHas_any _ _ _ _ _ _ _).mono ?_); rintro e w' ⟨rfl, ey, rfl⟩) | (go_at_call 38; (with_reducible refine (refGrow_any _ _ _ _ _ _).mono ?_); rintro e w' ⟨rfl, ey, rfl⟩))
    all_goals (go_meet; apply Exists.intro; refine And.intro ?_ ?_; rotate_left; (repeat (first | exact Plus.refl _ | apply Plus.plus | apply Plus.alloc | apply Plus.drew)); omega)
  obtain ⟨v2, hv2, e3, rfl⟩ := hcut
  have HV2 := Lib.hid hv2
  clear hv2
  go_wp2_with fail
  refine wp_region_grow (by kernel_rfl) (by kernel_rfl) ?_
  repeat (go_big_quiet_step ((first | (go_at_call 43; exact Calls.plus_of (fixedClamp _ _)) | (go_at_call 44; exact Calls.plus_of (refClamp _ _)) | (go_at_call 42; exact Calls.plus_of (off_any _ _ _ _ (by omega) (by omega) (by omega))) | (go_at_call 41; exact Calls.plus_of (box_any _ _ _ _ _)) | (go_at_call 28; exact Calls.plus_of (gap_any _ _ _ _ _ _ _)) | (go_at_call 32; exact Calls.plus_of (has_any _ _ _ _ _ _ _)) | (go_at_call 36; exact Calls.plus_of (near_any _ _ _ _ _ _ _ _)) | (go_at_call 47; exact Calls.plus_of (size_any _ (by omega) _)) | (go_at_call 45; exact Calls.plus_of (refFar_any _ _ _ _ _)) | (go_at_call 39; exact Calls.plus_of (refNone_any _ _ _ _ _)) | (go_at_call 35; exact Calls.plus_of (refHas_any _ _ _ _ _ _ _)) | (go_at_call 38; exact Calls.plus_of (refGrow_any _ _ _ _ _ _)))))
  refine wpQuiet_nil ?_
  intro ex
  go_upto_if 44 with fail
  go_cut [] (fun wx => ∃ v, v = min (clamp c) (clamp c') ∧ World.Plus (((((w.alloc (.cells #[.int .i64 a, .int .i64 b, .int .i64 c, .int .i64 d] 52)).alloc (.cells #[.int .i64 a', .int .i64 b', .int .i64 c', .int .i64 d'] 52)).alloc (.cells #[.int .i64 0, .int .i64 0, .int .i64 0, .int .i64 0] 52)).plus e1).alloc (.cells #[.int .i64 v1, .int .i64 v2, .int .i64 v, .int .i64 (clamp d)] 52)) wx)
  case first =>
    go_wp2_with (first | (go_at_call 43; (with_reducible refine (fixedClamp _ _).mono ?_); rintro e w' ⟨rfl, ey, rfl⟩) | (go_at_call 44; (with_reducible refine (refClamp _ _).mono ?_); rintro e w' ⟨rfl, ey, rfl⟩) | (go_at_call 42; (with_reducible refine (off_any _ _ _ _ (by omega) (by omega) (by omega)).mono ?_); rintro e w' ⟨rfl, ey, rfl⟩) | (go_at_call 41; (with_reducible refine (box_any _ _ _ _ _).mono ?_); rintro e w' ⟨rfl, ey, rfl⟩) | (go_at_call 28; (with_reducible refine (gap_any _ _ _ _ _ _ _).mono ?_); rintro e w' ⟨rfl, ey, rfl⟩) | (go_at_call 32; (with_reducible refine (has_any _ _ _ _ _ _ _).mono ?_); rintro e w' ⟨rfl, ey, rfl⟩) | (go_at_call 36; (with_reducible refine (near_any _ _ _ _ _ _ _ _).mono ?_); rintro e w' ⟨rfl, ey, rfl⟩) | (go_at_call 47; (with_reducible refine (size_any _ (by omega) _).mono ?_); rintro e w' ⟨rfl, ey, rfl⟩) | (go_at_call 45; (with_reducible refine (refFar_any _ _ _ _ _).mono ?_); rintro e w' ⟨rfl, ey, rfl⟩) | (go_at_call 39; (with_reducible refine (refNone_any _ _ _ _ _).mono ?_); rintro e w' ⟨rfl, ey, rfl⟩) | (go_at_call 35; (with_reducible refine (refHas_any _ _ _ _ _ _ _).mono ?_); rintro e w' ⟨rfl, ey, rfl⟩) | (go_at_call 38; (with_reducible refine (refGrow_any _ _ _ _ _ _).mono ?_); rintro e w' ⟨rfl, ey, rfl⟩))
    all_goals (go_meet; apply Exists.intro; refine And.intro ?_ ?_; rotate_left; (repeat (first | exact Plus.refl _ | apply Plus.plus | apply Plus.alloc | apply Plus.drew)); omega)
  obtain ⟨v3, hv3, e3, rfl⟩ := hcut
  have HV3 := Lib.hid hv3
  clear hv3
  go_wp2_with fail
  refine wp_region_grow (by kernel_rfl) (by kernel_rfl) ?_
  repeat (go_big_quiet_step ((first | (go_at_call 43; exact Calls.plus_of (fixedClamp _ _)) | (go_at_call 44; exact Calls.plus_of (refClamp _ _)) | (go_at_call 42; exact Calls.plus_of (off_any _ _ _ _ (by omega) (by omega) (by omega))) | (go_at_call 41; exact Calls.plus_of (box_any _ _ _ _ _)) | (go_at_call 28; exact Calls.plus_of (gap_any _ _ _ _ _ _ _)) | (go_at_call 32; exact Calls.plus_of (has_any _ _ _ _ _ _ _)) | (go_at_call 36; exact Calls.plus_of (near_any _ _ _ _ _ _ _ _)) | (go_at_call 47; exact Calls.plus_of (size_any _ (by omega) _)) | (go_at_call 45; exact Calls.plus_of (refFar_any _ _ _ _ _)) | (go_at_call 39; exact Calls.plus_of (refNone_any _ _ _ _ _)) | (go_at_call 35; exact Calls.plus_of (refHas_any _ _ _ _ _ _ _)) | (go_at_call 38; exact Calls.plus_of (refGrow_any _ _ _ _ _ _)))))
  refine wpQuiet_nil ?_
  intro ex
  go_upto_if 54 with fail
  go_cut [] (fun wx => ∃ v, v = min (clamp d) (clamp d') ∧ World.Plus (((((w.alloc (.cells #[.int .i64 a, .int .i64 b, .int .i64 c, .int .i64 d] 52)).alloc (.cells #[.int .i64 a', .int .i64 b', .int .i64 c', .int .i64 d'] 52)).alloc (.cells #[.int .i64 0, .int .i64 0, .int .i64 0, .int .i64 0] 52)).plus e1).alloc (.cells #[.int .i64 v1, .int .i64 v2, .int .i64 v3, .int .i64 v] 52)) wx)
  case first =>
    go_wp2_with (first | (go_at_call 43; (with_reducible refine (fixedClamp _ _).mono ?_); rintro e w' ⟨rfl, ey, rfl⟩) | (go_at_call 44; (with_reducible refine (refClamp _ _).mono ?_); rintro e w' ⟨rfl, ey, rfl⟩) | (go_at_call 42; (with_reducible refine (off_any _ _ _ _ (by omega) (by omega) (by omega)).mono ?_); rintro e w' ⟨rfl, ey, rfl⟩) | (go_at_call 41; (with_reducible refine (box_any _ _ _ _ _).mono ?_); rintro e w' ⟨rfl, ey, rfl⟩) | (go_at_call 28; (with_reducible refine (gap_any _ _ _ _ _ _ _).mono ?_); rintro e w' ⟨rfl, ey, rfl⟩) | (go_at_call 32; (with_reducible refine (has_any _ _ _ _ _ _ _).mono ?_); rintro e w' ⟨rfl, ey, rfl⟩) | (go_at_call 36; (with_reducible refine (near_any _ _ _ _ _ _ _ _).mono ?_); rintro e w' ⟨rfl, ey, rfl⟩) | (go_at_call 47; (with_reducible refine (size_any _ (by omega) _).mono ?_); rintro e w' ⟨rfl, ey, rfl⟩) | (go_at_call 45; (with_reducible refine (refFar_any _ _ _ _ _).mono ?_); rintro e w' ⟨rfl, ey, rfl⟩) | (go_at_call 39; (with_reducible refine (refNone_any _ _ _ _ _).mono ?_); rintro e w' ⟨rfl, ey, rfl⟩) | (go_at_call 35; (with_reducible refine (refHas_any _ _ _ _ _ _ _).mono ?_); rintro e w' ⟨rfl, ey, rfl⟩) | (go_at_call 38; (with_reducible refine (refGrow_any _ _ _ _ _ _).mono ?_); rintro e w' ⟨rfl, ey, rfl⟩))
    all_goals (go_meet; apply Exists.intro; refine And.intro ?_ ?_; rotate_left; (repeat (first | exact Plus.refl _ | apply Plus.plus | apply Plus.alloc | apply Plus.drew)); omega)
  obtain ⟨v4, hv4, e3, rfl⟩ := hcut
  have HV4 := Lib.hid hv4
  clear hv4
  have ht : twoI ⟨a, b, c, d⟩ ⟨a', b', c', d'⟩ = if noneB v1 v2 v3 v4 = true then ⟨0, 0, 0, 0⟩ else ⟨v1, v2, v3, v4⟩ := by
    have hm : meet ⟨a, b, c, d⟩ ⟨a', b', c', d'⟩ = ⟨v1, v2, v3, v4⟩ := by simp [meet, HV1.out, HV2.out, HV3.out, HV4.out]
    have hn := none_meet ⟨a, b, c, d⟩ ⟨a', b', c', d'⟩
    rw [hm] at hn
    unfold twoI
    rw [hm]
    simp only at hn
    rw [hn]
    cases R4.ok ⟨v1, v2, v3, v4⟩ <;> rfl
  have HT := Lib.hid ht
  clear HV1 HV2 HV3 HV4 ht
  cases hd : noneB v1 v2 v3 v4
  · go_wp2_with (first | (go_at_call 43; (with_reducible refine (fixedClamp _ _).mono ?_); rintro e w' ⟨rfl, ey, rfl⟩) | (go_at_call 44; (with_reducible refine (refClamp _ _).mono ?_); rintro e w' ⟨rfl, ey, rfl⟩) | (go_at_call 42; (with_reducible refine (off_any _ _ _ _ (by omega) (by omega) (by omega)).mono ?_); rintro e w' ⟨rfl, ey, rfl⟩) | (go_at_call 41; (with_reducible refine (box_any _ _ _ _ _).mono ?_); rintro e w' ⟨rfl, ey, rfl⟩) | (go_at_call 28; (with_reducible refine (gap_any _ _ _ _ _ _ _).mono ?_); rintro e w' ⟨rfl, ey, rfl⟩) | (go_at_call 32; (with_reducible refine (has_any _ _ _ _ _ _ _).mono ?_); rintro e w' ⟨rfl, ey, rfl⟩) | (go_at_call 36; (with_reducible refine (near_any _ _ _ _ _ _ _ _).mono ?_); rintro e w' ⟨rfl, ey, rfl⟩) | (go_at_call 47; (with_reducible refine (size_any _ (by omega) _).mono ?_); rintro e w' ⟨rfl, ey, rfl⟩) | (go_at_call 45; (with_reducible refine (refFar_any _ _ _ _ _).mono ?_); rintro e w' ⟨rfl, ey, rfl⟩) | (go_at_call 39; (with_reducible refine (refNone_any _ _ _ _ _).mono ?_); rintro e w' ⟨rfl, ey, rfl⟩) | (go_at_call 35; (with_reducible refine (refHas_any _ _ _ _ _ _ _).mono ?_); rintro e w' ⟨rfl, ey, rfl⟩) | (go_at_call 38; (with_reducible refine (refGrow_any _ _ _ _ _ _).mono ?_); rintro e w' ⟨rfl, ey, rfl⟩))
    exact bodyPost_ret (v := rectV v1 v2 v3 v4) (by simp [results, Try.results40, go_sem]) rfl ⟨by rw [HT.out, hd]; rfl, by (repeat (first | exact Plus.refl _ | apply Plus.plus | apply Plus.alloc | apply Plus.drew))⟩
  · go_wp2_with (first | (go_at_call 43; (with_reducible refine (fixedClamp _ _).mono ?_); rintro e w' ⟨rfl, ey, rfl⟩) | (go_at_call 44; (with_reducible refine (refClamp _ _).mono ?_); rintro e w' ⟨rfl, ey, rfl⟩) | (go_at_call 42; (with_reducible refine (off_any _ _ _ _ (by omega) (by omega) (by omega)).mono ?_); rintro e w' ⟨rfl, ey, rfl⟩) | (go_at_call 41; (with_reducible refine (box_any _ _ _ _ _).mono ?_); rintro e w' ⟨rfl, ey, rfl⟩) | (go_at_call 28; (with_reducible refine (gap_any _ _ _ _ _ _ _).mono ?_); rintro e w' ⟨rfl, ey, rfl⟩) | (go_at_call 32; (with_reducible refine (has_any _ _ _ _ _ _ _).mono ?_); rintro e w' ⟨rfl, ey, rfl⟩) | (go_at_call 36; (with_reducible refine (near_any _ _ _ _ _ _ _ _).mono ?_); rintro e w' ⟨rfl, ey, rfl⟩) | (go_at_call 47; (with_reducible refine (size_any _ (by omega) _).mono ?_); rintro e w' ⟨rfl, ey, rfl⟩) | (go_at_call 45; (with_reducible refine (refFar_any _ _ _ _ _).mono ?_); rintro e w' ⟨rfl, ey, rfl⟩) | (go_at_call 39; (with_reducible refine (refNone_any _ _ _ _ _).mono ?_); rintro e w' ⟨rfl, ey, rfl⟩) | (go_at_call 35; (with_reducible refine (refHas_any _ _ _ _ _ _ _).mono ?_); rintro e w' ⟨rfl, ey, rfl⟩) | (go_at_call 38; (with_reducible refine (refGrow_any _ _ _ _ _ _).mono ?_); rintro e w' ⟨rfl, ey, rfl⟩))
    exact bodyPost_ret (v := rectV 0 0 0 0) (by simp [results, Try.results40, go_sem]) rfl ⟨by rw [HT.out, hd]; rfl, by (repeat (first | exact Plus.refl _ | apply Plus.plus | apply Plus.alloc | apply Plus.drew))⟩
end Go.Proofs.Yteaikedgbgdcnaa
