/- RectCuts: any rectangles have in common what the document says: just the points that each of them has. For every input, no condition. -/
import Derived.Test.YtmmnidkmblfcbaaRows
import Derived.Test.YtmmnidkmblfcbaaRectLaws
import Derived.Test.YtmmnidkmblfcbaaLift
import Derived.ProofKit
set_option linter.unusedSimpArgs false
set_option linter.unusedVariables false
namespace Go.Proofs.Ytmmnidkmblfcbaa.lawRectCuts
open Go.ChangeShapes Go.WideShapes Go.ChangeAt Go.RowKit
def In4 (f : R4) (x y : Int) : Prop := clamp f.a ≤ clamp x ∧ clamp x < clamp f.c ∧ clamp f.b ≤ clamp y ∧ clamp y < clamp f.d
theorem clamp_max' (a b : Int) : clamp (max a b) = max (clamp a) (clamp b) := by unfold clamp; omega
theorem clamp_min' (a b : Int) : clamp (min a b) = min (clamp a) (clamp b) := by unfold clamp; omega
theorem in_step (f r : R4) (x y : Int) : In4 (step4 f r) x y ↔ In4 f x y ∧ In4 r x y := by
  unfold In4 step4
  simp only [clamp_max', clamp_min', Int.max_le, Int.lt_min]
  constructor
  · rintro ⟨⟨h1, h2⟩, ⟨h3, h4⟩, ⟨h5, h6⟩, h7, h8⟩
    exact ⟨⟨h1, h3, h5, h7⟩, h2, h4, h6, h8⟩
  · rintro ⟨⟨h1, h3, h5, h7⟩, h2, h4, h6, h8⟩
    exact ⟨⟨h1, h2⟩, ⟨h3, h4⟩, ⟨h5, h6⟩, h7, h8⟩
theorem in_fold (xs : List R4) (x y : Int) : ∀ s, In4 (xs.foldl step4 s) x y ↔ In4 s x y ∧ ∀ r ∈ xs, In4 r x y := by
  induction xs with
  | nil => intro s; simp
  | cons r xs ih =>
    intro s
    rw [List.foldl_cons, ih, in_step]
    simp only [List.mem_cons, forall_eq_or_imp, and_assoc]
theorem in_start {r : R4} {x y : Int} (h : In4 r x y) : In4 start4 x y := by
  have b1 := clamp_bd x
  have b2 := clamp_bd y
  have b3 := clamp_bd r.c
  have b4 := clamp_bd r.d
  obtain ⟨_, h2, _, h4⟩ := h
  have e1 : clamp (-1073741824) = -1073741824 := rfl
  have e2 : clamp 1073741824 = 1073741824 := rfl
  unfold In4 start4
  rw [e1, e2]
  omega
def allB (xs : List R4) (x y : Int) (k : Nat) : Bool := decide (0 < (xs.length : Int)) && (xs.take k).all fun r => hasB r.a r.b r.c r.d x y
theorem allB_succ (xs : List R4) (x y : Int) (k : Nat) (h : k < xs.length) : allB xs x y (k + 1) = (allB xs x y k && hasB (xs.getD k ⟨0, 0, 0, 0⟩).a (xs.getD k ⟨0, 0, 0, 0⟩).b (xs.getD k ⟨0, 0, 0, 0⟩).c (xs.getD k ⟨0, 0, 0, 0⟩).d x y) := by
  unfold allB
  rw [List.take_succ_eq_append_getElem h, List.all_append, Bool.and_assoc]
  simp [List.getD, h]
theorem has_iff (r : R4) (x y : Int) : hasB r.a r.b r.c r.d x y = true ↔ In4 r x y := by
  unfold hasB In4
  exact decide_eq_true_iff
theorem cut_has (xs : List R4) (x y : Int) : hasB (cutI xs).a (cutI xs).b (cutI xs).c (cutI xs).d x y = allB xs x y xs.length := by
  rw [Bool.eq_iff_iff, has_iff]
  unfold allB
  rw [List.take_length, Bool.and_eq_true, decide_eq_true_eq, List.all_eq_true]
  have hf := in_fold xs x y start4
  unfold cutI
  by_cases hn : 0 < xs.length
  · have hi : In4 (fold4 xs) x y ↔ ∀ r ∈ xs, In4 r x y := by
      unfold fold4
      rw [hf]
      refine ⟨fun h => h.2, fun h => ⟨?_, h⟩⟩
      exact in_start (h _ (List.getElem_mem hn))
    have hc : In4 (cutF xs.length (fold4 xs)) x y ↔ In4 (fold4 xs) x y := by
      by_cases h : clamp (fold4 xs).a < clamp (fold4 xs).c ∧ clamp (fold4 xs).b < clamp (fold4 xs).d
      · rw [cutF_yes ⟨hn, h⟩]
        unfold In4
        simp only [clamp_clamp]
      · rw [cutF_no (fun k => h k.2)]
        unfold In4
        have h0 : clamp 0 = 0 := rfl
        simp only [h0]
        omega
    rw [hc, hi]
    constructor
    · intro h
      exact ⟨by omega, fun r hr => (has_iff r x y).2 (h r hr)⟩
    · intro h r hr
      exact (has_iff r x y).1 (h.2 r hr)
  · rw [cutF_no (fun k => hn k.1)]
    unfold In4
    have h0 : clamp 0 = 0 := rfl
    simp only [h0]
    constructor
    · intro h; omega
    · intro h; omega
theorem eq_refl4 (r : R4) (w : World) : (binOp .eql 23 r.v r.v).run Try.prog w = .ok (.bool true) w := by
  have h : ∀ a b c d : Int, (binOp .eql 23 (rectV a b c d) (rectV a b c d)).run Try.prog w = .ok (.bool true) w := by
    intro a b c d
    simp [go_sem]
  exact h _ _ _ _
set_option maxHeartbeats 2000000 in
theorem walk (xs : List R4) (A : Option Addr) (c : Nat) (x y : Int) (w : World) (hm : xs.length ≤ 9223372036854775807) (hr : RowsAt w A 4 xs.length (R4.at xs)) :
    Calls Try.prog 5 #[.slice A xs.length c, .int .i64 x, .int .i64 y] w fun e w' => e = .returned (.bool true) ∧ w.Plus w' := by
  by_cases hx : xs.length ≤ 1000
  · have hd : decide ((1000 : Int) < (xs.length : Int)) = false := by simp; omega
    go_enter Try.func5, Try.ntmps5
    go_wp2_with (first | (go_at_call 15; (with_reducible refine (cut_any xs _ _ _ hx hr).mono ?_); rintro e w' ⟨rfl, ey, rfl⟩) | (go_at_call 23; (with_reducible refine (fixedClamp _ _).mono ?_); rintro e w' ⟨rfl, ey, rfl⟩) | (go_at_call 22; (with_reducible refine (refClamp _ _).mono ?_); rintro e w' ⟨rfl, ey, rfl⟩) | (go_at_call 28; (with_reducible refine (off_any _ _ _ _ (by omega) (by omega) (by omega)).mono ?_); rintro e w' ⟨rfl, ey, rfl⟩) | (go_at_call 25; (with_reducible refine (box_any _ _ _ _ _).mono ?_); rintro e w' ⟨rfl, ey, rfl⟩) | (go_at_call 19; (with_reducible refine (gap_any _ _ _ _ _ _ _).mono ?_); rintro e w' ⟨rfl, ey, rfl⟩) | (go_at_call 10; (with_reducible refine (has_any _ _ _ _ _ _ _).mono ?_); rintro e w' ⟨rfl, ey, rfl⟩) | (go_at_call 21; (with_reducible refine (near_any _ _ _ _ _ _ _ _).mono ?_); rintro e w' ⟨rfl, ey, rfl⟩) | (go_at_call 13; (with_reducible refine (far_any _ _ _ _ _).mono ?_); rintro e w' ⟨rfl, ey, rfl⟩) | (go_at_call 17; (with_reducible refine (grow_any _ _ _ _ _ _).mono ?_); rintro e w' ⟨rfl, ey, rfl⟩) | (go_at_call 24; (with_reducible refine (size_any _ (by omega) _).mono ?_); rintro e w' ⟨rfl, ey, rfl⟩) | (go_at_call 14; (with_reducible refine (refFar_any _ _ _ _ _).mono ?_); rintro e w' ⟨rfl, ey, rfl⟩) | (go_at_call 27; (with_reducible refine (refNone_any _ _ _ _ _).mono ?_); rintro e w' ⟨rfl, ey, rfl⟩) | (go_at_call 11; (with_reducible refine (refHas_any _ _ _ _ _ _ _).mono ?_); rintro e w' ⟨rfl, ey, rfl⟩) | (go_at_call 18; (with_reducible refine (refGrow_any _ _ _ _ _ _).mono ?_); rintro e w' ⟨rfl, ey, rfl⟩) | (go_at_call 20; (with_reducible refine (half_any _ (by omega) _).mono ?_); rintro e w' ⟨rfl, ey, rfl⟩) | (go_at_call 12; (with_reducible refine (awake_any _).mono ?_); rintro e w' ⟨rfl, ey, rfl⟩))
    go_loopw [8, 9] (fun p i wr => ∃ k : Nat, k ≤ xs.length ∧ i = .int .i64 k ∧ p = .bool (allB xs x y k) ∧ World.Plus ((w.plus ey).alloc (.cells (cutI xs).v.cells 23)) wr) (fun _ i _ => xs.length - (intOf i).toNat)
    case atStart => exact ⟨0, Nat.zero_le _, rfl, by simp [allB], by (repeat (first | exact Plus.refl _ | apply Plus.plus | apply Plus.alloc | apply Plus.drew))⟩
    case round =>
      obtain ⟨k, hk, rfl, rfl, e, rfl⟩ := hrel
      by_cases hlt : k < xs.length
      · obtain ⟨b, off, rfl, hb, hc⟩ := hr (by omega)
        haveI : InW b w := ⟨hb⟩
        have HF := Lib.hid (allB_succ xs x y k hlt)
        have c0 := hc k 0 hlt (by omega)
        have c1 := hc k 1 hlt (by omega)
        have c2 := hc k 2 hlt (by omega)
        have c3 := hc k 3 hlt (by omega)
        clear hc hr
        unfold R4.at at c0 c1 c2 c3
        generalize xs.getD k ⟨0, 0, 0, 0⟩ = r at c0 c1 c2 c3 HF
        obtain ⟨r0, r1, r2, r3⟩ := r
        simp only [R4.cell, Nat.add_zero, ← Nat.add_assoc] at c0 c1 c2 c3
        generalize allB xs x y k = p at HF
        cases p
        all_goals
          go_wp2_with (first | (go_at_call 23; (with_reducible refine (fixedClamp _ _).mono ?_); rintro e w' ⟨rfl, ey, rfl⟩) | (go_at_call 22; (with_reducible refine (refClamp _ _).mono ?_); rintro e w' ⟨rfl, ey, rfl⟩) | (go_at_call 28; (with_reducible refine (off_any _ _ _ _ (by omega) (by omega) (by omega)).mono ?_); rintro e w' ⟨rfl, ey, rfl⟩) | (go_at_call 25; (with_reducible refine (box_any _ _ _ _ _).mono ?_); rintro e w' ⟨rfl, ey, rfl⟩) | (go_at_call 19; (with_reducible refine (gap_any _ _ _ _ _ _ _).mono ?_); rintro e w' ⟨rfl, ey, rfl⟩) | (go_at_call 10; (with_reducible refine (has_any _ _ _ _ _ _ _).mono ?_); rintro e w' ⟨rfl, ey, rfl⟩) | (go_at_call 21; (with_reducible refine (near_any _ _ _ _ _ _ _ _).mono ?_); rintro e w' ⟨rfl, ey, rfl⟩) | (go_at_call 13; (with_reducible refine (far_any _ _ _ _ _).mono ?_); rintro e w' ⟨rfl, ey, rfl⟩) | (go_at_call 17; (with_reducible refine (grow_any _ _ _ _ _ _).mono ?_); rintro e w' ⟨rfl, ey, rfl⟩) | (go_at_call 24; (with_reducible refine (size_any _ (by omega) _).mono ?_); rintro e w' ⟨rfl, ey, rfl⟩) | (go_at_call 14; (with_reducible refine (refFar_any _ _ _ _ _).mono ?_); rintro e w' ⟨rfl, ey, rfl⟩) | (go_at_call 27; (with_reducible refine (refNone_any _ _ _ _ _).mono ?_); rintro e w' ⟨rfl, ey, rfl⟩) | (go_at_call 11; (with_reducible refine (refHas_any _ _ _ _ _ _ _).mono ?_); rintro e w' ⟨rfl, ey, rfl⟩) | (go_at_call 18; (with_reducible refine (refGrow_any _ _ _ _ _ _).mono ?_); rintro e w' ⟨rfl, ey, rfl⟩) | (go_at_call 20; (with_reducible refine (half_any _ (by omega) _).mono ?_); rintro e w' ⟨rfl, ey, rfl⟩) | (go_at_call 12; (with_reducible refine (awake_any _).mono ?_); rintro e w' ⟨rfl, ey, rfl⟩))
          go_roundw
          case rel => exact ⟨k + 1, by omega, by go_num, by rw [HF.out]; simp, by (repeat (first | exact Plus.refl _ | apply Plus.plus | apply Plus.alloc | apply Plus.drew))⟩
          case measure => simp [intOf]; omega
      · obtain rfl : k = xs.length := by omega
        have he : (hasB (cutI xs).a (cutI xs).b (cutI xs).c (cutI xs).d x y == allB xs x y xs.length) = true := by rw [cut_has xs x y, beq_self_eq_true]
        have hk2 : ∀ W, w.Plus W → Calls Try.prog 16 #[.slice A xs.length c] W fun e w' => e = .returned (cutI xs).v ∧ W.Plus w' := fun W hp => refCut_any xs A c W hx (hr.plus hp)
        clear hr
        generalize cutI xs = g at he hk2
        have KC := Lib.hid hk2
        clear hk2
        obtain ⟨g0, g1, g2, g3⟩ := g
        simp only at he
        simp only [Value.cells]
        go_wp2_with fail
        refine wp_region_grow (by kernel_rfl) (by kernel_rfl) ?_
        repeat (go_big_quiet_step ((first | (go_at_call 16; exact Calls.plus_of (KC.out _ (by (repeat (first | exact Plus.refl _ | apply Plus.plus | apply Plus.alloc | apply Plus.drew))))) | (go_at_call 11; exact Calls.plus_of (refHas_any _ _ _ _ _ _ _)) | (go_at_call 12; exact Calls.plus_of (awake_any _)))))
        refine wpQuiet_nil ?_
        intro ex
        go_wp2_with fail
        go_ret
        exact ⟨rfl, by (repeat (first | exact Plus.refl _ | apply Plus.plus | apply Plus.alloc | apply Plus.drew))⟩
  · have hd : decide ((1000 : Int) < (xs.length : Int)) = true := by simp; omega
    go_enter Try.func5, Try.ntmps5
    go_wp2_with (first | (go_at_call 23; (with_reducible refine (fixedClamp _ _).mono ?_); rintro e w' ⟨rfl, ey, rfl⟩) | (go_at_call 22; (with_reducible refine (refClamp _ _).mono ?_); rintro e w' ⟨rfl, ey, rfl⟩) | (go_at_call 28; (with_reducible refine (off_any _ _ _ _ (by omega) (by omega) (by omega)).mono ?_); rintro e w' ⟨rfl, ey, rfl⟩) | (go_at_call 25; (with_reducible refine (box_any _ _ _ _ _).mono ?_); rintro e w' ⟨rfl, ey, rfl⟩) | (go_at_call 19; (with_reducible refine (gap_any _ _ _ _ _ _ _).mono ?_); rintro e w' ⟨rfl, ey, rfl⟩) | (go_at_call 10; (with_reducible refine (has_any _ _ _ _ _ _ _).mono ?_); rintro e w' ⟨rfl, ey, rfl⟩) | (go_at_call 21; (with_reducible refine (near_any _ _ _ _ _ _ _ _).mono ?_); rintro e w' ⟨rfl, ey, rfl⟩) | (go_at_call 13; (with_reducible refine (far_any _ _ _ _ _).mono ?_); rintro e w' ⟨rfl, ey, rfl⟩) | (go_at_call 17; (with_reducible refine (grow_any _ _ _ _ _ _).mono ?_); rintro e w' ⟨rfl, ey, rfl⟩) | (go_at_call 24; (with_reducible refine (size_any _ (by omega) _).mono ?_); rintro e w' ⟨rfl, ey, rfl⟩) | (go_at_call 14; (with_reducible refine (refFar_any _ _ _ _ _).mono ?_); rintro e w' ⟨rfl, ey, rfl⟩) | (go_at_call 27; (with_reducible refine (refNone_any _ _ _ _ _).mono ?_); rintro e w' ⟨rfl, ey, rfl⟩) | (go_at_call 11; (with_reducible refine (refHas_any _ _ _ _ _ _ _).mono ?_); rintro e w' ⟨rfl, ey, rfl⟩) | (go_at_call 18; (with_reducible refine (refGrow_any _ _ _ _ _ _).mono ?_); rintro e w' ⟨rfl, ey, rfl⟩) | (go_at_call 20; (with_reducible refine (half_any _ (by omega) _).mono ?_); rintro e w' ⟨rfl, ey, rfl⟩) | (go_at_call 12; (with_reducible refine (awake_any _).mono ?_); rintro e w' ⟨rfl, ey, rfl⟩))
    go_ret
    exact ⟨rfl, by (repeat (first | exact Plus.refl _ | apply Plus.plus | apply Plus.alloc | apply Plus.drew))⟩
theorem laidOut : laidOutB Try.prog = true := by kernel_rfl
theorem own : ownKnob Try.prog.godebug = none := by kernel_rfl
set_option maxRecDepth 100000 in
set_option maxHeartbeats 1000000 in
theorem lifted (os : Os) (started : os.Started) (H : Type) (enc : TypeId × Value → H) :
    ReturnsInHanded {} Try.checked os 5 .any (Rows.rectCutsSpec.pre6 enc Try.prog Try.f5 Rows.rectCutsRow.domain false) (Rows.rectCutsSpec.post enc Try.prog Try.f5 false true false false) := by
  refine returnsInHanded_of_change_sized (C := Try.checked) own started (by kernel_rfl) Try.func5
    (ChangeSpec.witness6 (enc := enc) (C := Try.checked) false ⟨#[], #[.slice none 0 0, .int .i64 0, .int .i64 0], []⟩ 8 (by kernel_rfl) (by kernel_rfl) (by kernel_rfl) (by kernel_rfl)) ?_
  intro W base args ds gs before hval0 hW hcnd hsz0 _
  have hval : ∀ (j : Nat) t v, Try.f5.params[j]? = some t → args[j]? = some v → Value.okWide Try.prog W .any base t v := hval0
  have hsz : (DataW.weightsEach Try.prog (Try.f5.params.toList ++ Rows.rectCutsSpec.plain.varTypes Try.prog) (ds ++ gs)).all (· ≤ reachBytes) = true := hsz0
  have hW' : DataW.Whole enc Try.prog Try.f5.params.toList Rows.rectCutsSpec.vars false W args.toList ds gs before := hW
  obtain ⟨p, q, hA0, hV, rfl, hfz, hnd⟩ := hW
  have hA : DataW.TrodAll enc Try.prog W 0 (fun _ => true) true Try.f5.params.toList args.toList ds p := hA0
  rw [Try.params5] at hA hval hsz
  obtain ⟨v0, vs0, d0, ds0, p0, q0, hargs, rfl, rfl, h0, r0⟩ := trodAll_cons hA
  obtain ⟨v1, vs1, d1, ds1, p1, q1, rfl, rfl, rfl, h1, r1⟩ := trodAll_cons r0
  obtain ⟨v2, vs2, d2, ds2, p2, q2, rfl, rfl, rfl, h2, r2⟩ := trodAll_cons r1
  obtain ⟨rfl, rfl, rfl⟩ := trodAll_nil r2
  obtain rfl : args = #[v0, v1, v2] := by cases args; simp_all
  obtain ⟨rfl, rfl⟩ := trodVars_none hV
  have light : ∀ (j : Nat) (t : TypeId) (d : DataW H), (Try.f5.params.toList ++ Rows.rectCutsSpec.plain.varTypes Try.prog)[j]? = some t → ([d0, d1, d2] : List (DataW H))[j]? = some d → Light Try.prog t d := fun j t d hj hd m hm => by
    have h := List.all_eq_true.1 hsz m (DataW.weights_mem_each (j := j) (by rw [Try.params5] at hj; exact hj) (by simpa using hd) m hm)
    simpa using h
  obtain ⟨x0, c0, hh0, hv0⟩ := open_arg (n := 8) (ty := (.slice 32 (.pair (.int .i64) (.pair (.int .i64) (.pair (.int .i64) (.pair (.int .i64) .unit)))))) (by kernel_rfl) (hval 0 _ v0 rfl rfl) h0 (light 0 _ _ rfl rfl)
  obtain ⟨x1, c1, hh1, hv1⟩ := open_arg (n := 8) (ty := (.int .i64)) (by kernel_rfl) (hval 1 _ v1 rfl rfl) h1 (light 1 _ _ rfl rfl)
  obtain ⟨hc1, wf1⟩ := hh1.flat rfl
  rw [hc1] at hv1
  obtain rfl : v1 = .int .i64 x1 := (List.cons.inj hv1).1.symm
  clear hc1 hh1 h1
  obtain ⟨x2, c2, hh2, hv2⟩ := open_arg (n := 8) (ty := (.int .i64)) (by kernel_rfl) (hval 2 _ v2 rfl rfl) h2 (light 2 _ _ rfl rfl)
  obtain ⟨hc2, wf2⟩ := hh2.flat rfl
  rw [hc2] at hv2
  obtain rfl : v2 = .int .i64 x2 := (List.cons.inj hv2).1.symm
  clear hc2 hh2 h2
  clear hA0 hval0 hval light hsz hsz0
  obtain ⟨A, c, hc0, hl, hcap, hmx, _, hr⟩ := hh0.rows rfl
  rw [hc0] at hv0
  obtain rfl : v0 = .slice A x0.length c := (List.cons.inj hv0).1.symm
  have hlen : x0.length = (x0.map fun r : Int × Int × Int × Int × Unit => (⟨r.1, r.2.1, r.2.2.1, r.2.2.2.1⟩ : R4)).length := by simp
  have hrow := hr (R4.at (x0.map fun r : Int × Int × Int × Int × Unit => (⟨r.1, r.2.1, r.2.2.1, r.2.2.2.1⟩ : R4))) (fun i j x hx hj => by
    have hget : (x0.map fun r : Int × Int × Int × Int × Unit => (⟨r.1, r.2.1, r.2.2.1, r.2.2.2.1⟩ : R4)).getD i ⟨0, 0, 0, 0⟩ = ⟨x.1, x.2.1, x.2.2.1, x.2.2.2.1⟩ := by simp [List.getD, hx]
    unfold R4.at
    rw [hget]
    have hj' : j < 4 := hj
    have h4 : j = 0 ∨ j = 1 ∨ j = 2 ∨ j = 3 := by omega
    rcases h4 with rfl | rfl | rfl | rfl <;> rfl)
  have hmax : x0.length ≤ 9223372036854775807 := by unfold maxLen at hmx; omega
  clear hr hc0 hh0 hv0 h0
  generalize (x0.map fun r : Int × Int × Int × Int × Unit => (⟨r.1, r.2.1, r.2.2.1, r.2.2.2.1⟩ : R4)) = xs at hlen hrow
  rw [hlen] at hrow hmax hW' ⊢
  refine (walk xs A c _ _ W hmax hrow).mono fun e W' ⟨he, hp⟩ => ?_
  subst he
  exact ⟨_, rfl, post_true hW' rfl rfl rfl rfl laidOut (by kernel_rfl) rfl (by kernel_rfl) (Plus.below hp)⟩
theorem proved : Rows.RectCutsSaid :=
  OpenClaim.holds_of_wide 5 Try.f5 rfl rfl rfl rfl rfl rfl rfl ⟨rfl, rfl, rfl, rfl, rfl⟩ rfl rfl rfl rfl rfl (by kernel_rfl) Try.func5 (by kernel_rfl)
    (of_decide_eq_true (by kernel_rfl)) (by unfold Func.isWrapper; first | (rw [if_pos (by decide +kernel)]; kernel_rfl) | (rw [if_neg (by decide +kernel)]; exact ⟨rfl, rfl⟩))
    (fun os started H enc _ => lifted os started H enc)
end Go.Proofs.Ytmmnidkmblfcbaa.lawRectCuts
