/- What a list of rectangles has in common: contracts of the program's and of the reference's function. -/
import Derived.Test.YtmmnidkmblfcbaaTwo
set_option linter.unusedSimpArgs false
set_option linter.unusedVariables false
namespace Go.Proofs.Ytmmnidkmblfcbaa
open Go.RowKit
def R4.cell (r : R4) (j : Nat) : Value := .int .i64 (match j with | 0 => r.a | 1 => r.b | 2 => r.c | _ => r.d)
def R4.at (xs : List R4) (i j : Nat) : Value := (xs.getD i ⟨0, 0, 0, 0⟩).cell j
def step4 (s r : R4) : R4 := ⟨max s.a r.a, max s.b r.b, min s.c r.c, min s.d r.d⟩
def start4 : R4 := ⟨-1073741824, -1073741824, 1073741824, 1073741824⟩
def fold4 (xs : List R4) : R4 := xs.foldl step4 start4
theorem fold4_succ (xs : List R4) (k : Nat) (h : k < xs.length) : fold4 (xs.take (k + 1)) = step4 (fold4 (xs.take k)) (xs.getD k ⟨0, 0, 0, 0⟩) := by
  unfold fold4
  rw [List.take_succ_eq_append_getElem h, List.foldl_append]
  simp [List.getD, h]
/-- what a list has in common -/
def cutF (n : Nat) (f : R4) : R4 := if 0 < n ∧ clamp f.a < clamp f.c ∧ clamp f.b < clamp f.d then ⟨clamp f.a, clamp f.b, clamp f.c, clamp f.d⟩ else ⟨0, 0, 0, 0⟩
theorem cutF_no {n : Nat} {f : R4} (h : ¬ (0 < n ∧ clamp f.a < clamp f.c ∧ clamp f.b < clamp f.d)) : cutF n f = ⟨0, 0, 0, 0⟩ := if_neg h
theorem cutF_yes {n : Nat} {f : R4} (h : 0 < n ∧ clamp f.a < clamp f.c ∧ clamp f.b < clamp f.d) : cutF n f = ⟨clamp f.a, clamp f.b, clamp f.c, clamp f.d⟩ := if_pos h
def cutI (xs : List R4) : R4 := cutF xs.length (fold4 xs)
theorem cut_any (xs : List R4) (A : Option Addr) (c : Nat) (w : World) (hx : xs.length ≤ 1000) (hr : RowsAt w A 4 xs.length (R4.at xs)) :
    Calls Try.prog 15 #[.slice A xs.length c] w fun e w' => e = .returned (cutI xs).v ∧ w.Plus w' := by
  go_enter Try.func15, Try.ntmps15
  go_wp2
  go_loopw [5, 10] (fun p i wr => ∃ k : Nat, k ≤ xs.length ∧ i = .int .i64 k ∧ World.Plus ((w.alloc (.cells #[.int .i64 0, .int .i64 0, .int .i64 0, .int .i64 0] 23)).alloc (.cells #[.int .i64 (fold4 (xs.take k)).a, .int .i64 (fold4 (xs.take k)).b, .int .i64 (fold4 (xs.take k)).c, .int .i64 (fold4 (xs.take k)).d] 23)) wr) (fun _ i _ => xs.length - (intOf i).toNat)
  case atStart => exact ⟨0, Nat.zero_le _, rfl, by (repeat (first | exact Plus.refl _ | apply Plus.plus | apply Plus.alloc | apply Plus.drew))⟩
  case round =>
    obtain ⟨k, hk, rfl, e, rfl⟩ := hrel
    by_cases hlt : k < xs.length
    · obtain ⟨b, off, rfl, hb, hc⟩ := hr (by omega)
      haveI : InW b w := ⟨hb⟩
      have HF := Lib.hid (fold4_succ xs k hlt)
      have c0 := hc k 0 hlt (by omega)
      have c1 := hc k 1 hlt (by omega)
      have c2 := hc k 2 hlt (by omega)
      have c3 := hc k 3 hlt (by omega)
      clear hc hr
      unfold R4.at at c0 c1 c2 c3
      generalize xs.getD k ⟨0, 0, 0, 0⟩ = r at c0 c1 c2 c3 HF
      obtain ⟨r0, r1, r2, r3⟩ := r
      simp only [R4.cell, Nat.add_zero, ← Nat.add_assoc] at c0 c1 c2 c3
      go_wp2
      go_roundw
      case rel => exact ⟨k + 1, by omega, by go_num, by rw [HF.out]; unfold step4; (repeat (first | exact Plus.refl _ | apply Plus.plus | apply Plus.alloc | apply Plus.drew))⟩
      case measure => simp [intOf]; omega
    · obtain rfl : k = xs.length := by omega
      rw [List.take_length]
      have HC := Lib.hid (show cutI xs = cutF xs.length (fold4 xs) from rfl)
      generalize fold4 xs = f at HC
      obtain ⟨f0, f1, f2, f3⟩ := f
      clear hr
      cases h0 : ((xs.length : Int) == 0) <;> cases hd : decide (clamp f0 < clamp f2 ∧ clamp f1 < clamp f3)
      all_goals go_wp2_with (first | (go_at_call 23; (with_reducible refine (fixedClamp _ _).mono ?_); rintro e w' ⟨rfl, ey, rfl⟩) | (go_at_call 22; (with_reducible refine (refClamp _ _).mono ?_); rintro e w' ⟨rfl, ey, rfl⟩) | (go_at_call 28; (with_reducible refine (off_any _ _ _ _ (by omega) (by omega) (by omega)).mono ?_); rintro e w' ⟨rfl, ey, rfl⟩) | (go_at_call 25; (with_reducible refine (box_any _ _ _ _ _).mono ?_); rintro e w' ⟨rfl, ey, rfl⟩) | (go_at_call 19; (with_reducible refine (gap_any _ _ _ _ _ _ _).mono ?_); rintro e w' ⟨rfl, ey, rfl⟩) | (go_at_call 10; (with_reducible refine (has_any _ _ _ _ _ _ _).mono ?_); rintro e w' ⟨rfl, ey, rfl⟩) | (go_at_call 21; (with_reducible refine (near_any _ _ _ _ _ _ _ _).mono ?_); rintro e w' ⟨rfl, ey, rfl⟩) | (go_at_call 13; (with_reducible refine (far_any _ _ _ _ _).mono ?_); rintro e w' ⟨rfl, ey, rfl⟩) | (go_at_call 17; (with_reducible refine (grow_any _ _ _ _ _ _).mono ?_); rintro e w' ⟨rfl, ey, rfl⟩) | (go_at_call 24; (with_reducible refine (size_any _ (by omega) _).mono ?_); rintro e w' ⟨rfl, ey, rfl⟩) | (go_at_call 14; (with_reducible refine (refFar_any _ _ _ _ _).mono ?_); rintro e w' ⟨rfl, ey, rfl⟩) | (go_at_call 27; (with_reducible refine (refNone_any _ _ _ _ _).mono ?_); rintro e w' ⟨rfl, ey, rfl⟩) | (go_at_call 11; (with_reducible refine (refHas_any _ _ _ _ _ _ _).mono ?_); rintro e w' ⟨rfl, ey, rfl⟩) | (go_at_call 18; (with_reducible refine (refGrow_any _ _ _ _ _ _).mono ?_); rintro e w' ⟨rfl, ey, rfl⟩) | (go_at_call 20; (with_reducible refine (half_any _ (by omega) _).mono ?_); rintro e w' ⟨rfl, ey, rfl⟩) | (go_at_call 26; (with_reducible refine (two_any _ _ _).mono ?_); rintro e w' ⟨rfl, ey, rfl⟩))
      all_goals simp only [decide_eq_false_iff_not, decide_eq_true_eq, beq_iff_eq, beq_eq_false_iff_ne, ne_eq] at hd h0
      all_goals first
        | (exfalso; omega)
        | exact bodyPost_ret (v := rectV 0 0 0 0) (by simp [results, Try.results15, go_sem]) rfl ⟨by rw [HC.out, cutF_no (by simp only; omega)], by (repeat (first | exact Plus.refl _ | apply Plus.plus | apply Plus.alloc | apply Plus.drew))⟩
        | exact bodyPost_ret (v := rectV (clamp f0) (clamp f1) (clamp f2) (clamp f3)) (by simp [results, Try.results15, go_sem] <;> omega) rfl ⟨by rw [HC.out, cutF_yes (by simp only; omega)], by (repeat (first | exact Plus.refl _ | apply Plus.plus | apply Plus.alloc | apply Plus.drew))⟩
theorem clamp_mono {a b : Int} (h : a ≤ b) : clamp a ≤ clamp b := by unfold clamp; omega
theorem cmax (f r : Int) : max (clamp (clamp f)) (clamp r) = clamp (max f r) := by unfold clamp; omega
theorem cmin (f r : Int) : min (clamp (clamp f)) (clamp r) = clamp (min f r) := by unfold clamp; omega
theorem cmax1 (r : Int) : max (clamp r) (clamp r) = clamp (max (-1073741824) r) := by unfold clamp; omega
theorem cmin1 (r : Int) : min (clamp r) (clamp r) = clamp (min 1073741824 r) := by unfold clamp; omega
theorem R4.ok_iff (r : R4) : r.ok = true ↔ r.a < r.c ∧ r.b < r.d := by simp [R4.ok]
theorem two_as {p q : R4} {n : Nat} {f : R4} (hn : 0 < n) (hm : meet p q = ⟨clamp f.a, clamp f.b, clamp f.c, clamp f.d⟩) : twoI p q = cutF n f := by
  unfold twoI
  rw [hm]
  by_cases h2 : clamp f.a < clamp f.c ∧ clamp f.b < clamp f.d
  · rw [if_pos ((R4.ok_iff _).2 h2), cutF_yes ⟨hn, h2⟩]
  · rw [if_neg (fun k => h2 ((R4.ok_iff _).1 k)), cutF_no (fun k => h2 k.2)]
theorem two_cut (n : Nat) (hn : 0 < n) (f r : R4) : twoI (cutF n f) r = cutF (n + 1) (step4 f r) := by
  by_cases h : clamp f.a < clamp f.c ∧ clamp f.b < clamp f.d
  · rw [cutF_yes ⟨hn, h⟩]
    exact two_as (by omega) (by unfold meet step4; simp only [cmax, cmin])
  · rw [cutF_no (fun k => h k.2), cutF_no]
    · unfold twoI
      rw [if_neg]
      rw [R4.ok_iff]
      have h0 : clamp 0 = 0 := rfl
      simp only [meet, h0]
      omega
    · rintro ⟨_, h1, h2⟩
      have e1 := clamp_mono (Int.le_max_left f.a r.a)
      have e2 := clamp_mono (Int.le_max_left f.b r.b)
      have e3 := clamp_mono (Int.min_le_left f.c r.c)
      have e4 := clamp_mono (Int.min_le_left f.d r.d)
      simp only [step4] at h1 h2
      exact h ⟨by omega, by omega⟩
theorem two_one (r : R4) : twoI r r = cutF 1 (step4 start4 r) :=
  two_as (by omega) (by unfold meet step4 start4; simp only [cmax1, cmin1])
set_option maxHeartbeats 2000000 in
theorem refCut_any (xs : List R4) (A : Option Addr) (c : Nat) (w : World) (hx : xs.length ≤ 1000) (hr : RowsAt w A 4 xs.length (R4.at xs)) :
    Calls Try.prog 16 #[.slice A xs.length c] w fun e w' => e = .returned (cutI xs).v ∧ w.Plus w' := by
  cases h0 : ((xs.length : Int) == 0)
  · simp only [beq_eq_false_iff_ne, ne_eq] at h0
    obtain ⟨b, off, rfl, hb, hc⟩ := hr (by omega)
    haveI : InW b w := ⟨hb⟩
    have h0' : ((xs.length : Int) == 0) = false := by simpa using h0
    have hp : 0 < xs.length := by omega
    have c0 := hc 0 0 hp (by omega)
    have c1 := hc 0 1 hp (by omega)
    have c2 := hc 0 2 hp (by omega)
    have c3 := hc 0 3 hp (by omega)
    have HC := Lib.hid hc
    clear hc hr
    unfold R4.at at c0 c1 c2 c3
    have hf : twoI (xs.getD 0 ⟨0, 0, 0, 0⟩) (xs.getD 0 ⟨0, 0, 0, 0⟩) = cutF 1 (fold4 (xs.take 1)) := by
      rw [two_one, fold4_succ xs 0 hp]
      rfl
    generalize xs.getD 0 ⟨0, 0, 0, 0⟩ = r at c0 c1 c2 c3 hf
    have HR := Lib.hid hf
    clear hf
    obtain ⟨r0, r1, r2, r3⟩ := r
    simp only [R4.cell, Nat.add_zero, Nat.zero_mul, Nat.zero_add] at c0 c1 c2 c3
    go_enter Try.func16, Try.ntmps16
    go_upto_region 3 with fail
    go_cut [3] (fun s3 wx => ∃ n, s3 = .pointer (some ⟨n, 0, none⟩) ∧ NewIn (w.alloc (.cells #[.int .i64 0, .int .i64 0, .int .i64 0, .int .i64 0] 23)) 23 (R4.v (twoI ⟨r0, r1, r2, r3⟩ ⟨r0, r1, r2, r3⟩)).cells n wx)
    case first =>
      go_region_held3 (fun w' => w'.cell? ⟨b, off, none⟩ = some (.int .i64 r0) ∧ w'.cell? ⟨b, off + 1, none⟩ = some (.int .i64 r1) ∧ w'.cell? ⟨b, off + 2, none⟩ = some (.int .i64 r2) ∧ w'.cell? ⟨b, off + 3, none⟩ = some (.int .i64 r3)) (simp [go_sem, *])
        (first | (go_at_call 26; refine (two_any ⟨r0, r1, r2, r3⟩ ⟨r0, r1, r2, r3⟩ _).mono ?_; rintro e w' ⟨rfl, ey, rfl⟩))
      all_goals (go_wp2_with fail; go_meet)
      all_goals
        refine ⟨_, rfl, ?_⟩
        repeat (first | apply NewIn.plus | apply NewIn.drew)
        exact NewIn.mk (by (repeat (first | exact Plus.refl _ | apply Plus.plus | apply Plus.alloc | apply Plus.drew))) _ _ (by simp [go_sem])
    obtain ⟨n, rfl, e1, e2, hn, rfl⟩ := hcut
    simp only [World.size_plus, World.size_alloc] at hn
    subst hn
    rw [HR.out]
    clear HR c0 c1 c2 c3
    go_wp2_with fail
    go_loopw [4] (fun i wr => ∃ k : Nat, 1 ≤ k ∧ k ≤ xs.length ∧ i = .int .i64 k ∧ World.Plus (((w.alloc (.cells #[.int .i64 0, .int .i64 0, .int .i64 0, .int .i64 0] 23)).plus e1).alloc (.cells (cutF k (fold4 (xs.take k))).v.cells 23)) wr) (fun i _ => xs.length - (intOf i).toNat)
    case atStart => exact ⟨1, by omega, by omega, rfl, by (repeat (first | exact Plus.refl _ | apply Plus.plus | apply Plus.alloc | apply Plus.drew))⟩
    case round =>
      obtain ⟨k, hk1, hk, rfl, e, rfl⟩ := hrel
      have hc := HC.out
      by_cases hlt : k < xs.length
      · have hs := fold4_succ xs k hlt
        have c0 := hc k 0 hlt (by omega)
        have c1 := hc k 1 hlt (by omega)
        have c2 := hc k 2 hlt (by omega)
        have c3 := hc k 3 hlt (by omega)
        clear hc HC
        unfold R4.at at c0 c1 c2 c3
        generalize xs.getD k ⟨0, 0, 0, 0⟩ = r at c0 c1 c2 c3 hs
        have HF : Hid (twoI (cutF k (fold4 (xs.take k))) r = cutF (k + 1) (fold4 (xs.take (k + 1)))) := by rw [hs]; exact two_cut k (by omega) _ _
        clear hs
        generalize cutF k (fold4 (xs.take k)) = g at HF
        obtain ⟨r0, r1, r2, r3⟩ := r
        obtain ⟨g0, g1, g2, g3⟩ := g
        simp only [R4.cell, Nat.add_zero, ← Nat.add_assoc, Value.cells] at c0 c1 c2 c3
        simp only [Value.cells]
        go_wp2_with fail
        refine wp_region_grow_tail 6 (by kernel_rfl) (by kernel_rfl) ?_
        simp only [List.take_succ_cons, List.take_zero, List.drop_succ_cons, List.drop_zero]
        repeat (go_big_quiet_step ((go_at_call 26; exact Calls.plus_of (two_any ⟨g0, g1, g2, g3⟩ ⟨r0, r1, r2, r3⟩ _))))
        refine wpQuiet_nil ?_
        intro ex
        go_wp2_with fail
        go_roundw
        case rel => exact ⟨k + 1, by omega, by omega, by go_num, by rw [← HF.out]; (repeat (first | exact Plus.refl _ | apply Plus.plus | apply Plus.alloc | apply Plus.drew))⟩
        case measure => simp [intOf]; omega
      · obtain rfl : k = xs.length := by omega
        rw [List.take_length]
        have HI := Lib.hid (show cutI xs = cutF xs.length (fold4 xs) from rfl)
        generalize cutF xs.length (fold4 xs) = g at HI
        obtain ⟨g0, g1, g2, g3⟩ := g
        simp only [Value.cells]
        clear hc HC
        go_wp2_with fail
        exact bodyPost_ret (v := rectV g0 g1 g2 g3) (by simp [results, Try.results16, go_sem]) rfl ⟨by rw [HI.out], by (repeat (first | exact Plus.refl _ | apply Plus.plus | apply Plus.alloc | apply Plus.drew))⟩
  · simp only [beq_iff_eq] at h0
    have h0' : xs.length = 0 := by omega
    obtain rfl : xs = [] := List.eq_nil_of_length_eq_zero h0'
    go_enter Try.func16, Try.ntmps16
    go_wp2_with fail
    exact bodyPost_ret (v := rectV 0 0 0 0) (by simp [results, Try.results16, go_sem]) rfl ⟨by rfl, by (repeat (first | exact Plus.refl _ | apply Plus.plus | apply Plus.alloc | apply Plus.drew))⟩
end Go.Proofs.Ytmmnidkmblfcbaa
