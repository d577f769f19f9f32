/- FixedFloors: a product and a quotient that may be are the greatest whole numbers that are not above the true ones. For every input, no condition. -/
import Derived.Test.YtndbcjgbcplgcaaDoorRows
import Derived.Test.YtndbcjgbcplgcaaDoorCards
import Derived.Test.YtndbcjgbcplgcaaDoorTie
import Derived.Test.YtndbcjgbcplgcaaDoorFixLaid
set_option linter.unusedSimpArgs false
set_option linter.unusedVariables false
namespace Go.Proofs.YtndbcjgbcplgcaaDoor.lawFixedFloors
open Go.ChangeShapes Go.WideShapes Go.ChangeAt Go.RowKit
theorem mul_floor (a b : Int) : -1073741824 ≤ fmul a b ∧ fmul a b ≤ 1073741824 ∧ (-1073741824 < fmul a b → fmul a b < 1073741824 → 256 * fmul a b ≤ fcl a * fcl b ∧ fcl a * fcl b < 256 * (fmul a b + 1)) := by
  refine ⟨(fcl_in _).1, (fcl_in _).2, fun h1 h2 => ?_⟩
  unfold fmul at *
  generalize fcl a * fcl b = p at *
  unfold fcl at *
  omega
theorem div_floor (x y d : Int) (hd : d = fcl (qd (x * 256) y)) (hy : y ≠ 0) : -1073741824 ≤ d ∧ d ≤ 1073741824 ∧
    (0 < y → -1073741824 < d → d < 1073741824 → y * d ≤ 256 * x ∧ 256 * x < y * (d + 1)) ∧
    (y < 0 → -1073741824 < d → d < 1073741824 → -y * d ≤ 256 * -x ∧ 256 * -x < -y * (d + 1)) := by
  have hb := fcl_in (qd (x * 256) y)
  have hi := qd_is (x * 256) y hy
  have he : -1073741824 < d → d < 1073741824 → d = qd (x * 256) y := fun h1 h2 => by rw [hd] at h1 h2 ⊢; unfold fcl at *; omega
  refine ⟨by omega, by omega, fun h0 h1 h2 => ?_, fun h0 h1 h2 => ?_⟩
  · have := hi.pos h0
    rw [← he h1 h2] at this
    omega
  · have := hi.neg h0
    rw [← he h1 h2] at this
    rw [Int.neg_mul, Int.neg_mul]
    omega
set_option maxRecDepth 100000 in
set_option maxHeartbeats 1000000 in
theorem walk (a b : Int) (w : World) : Calls Tryd.prog 10 #[.int .i64 a, .int .i64 b] w fun e w' => e = .returned (.bool true) ∧ w.Plus w' := by
  have hca := fcl_in a
  have hcb := fcl_in b
  obtain ⟨q, hq⟩ : ∃ q, fmul a b = q := ⟨_, rfl⟩
  obtain ⟨q1, q2, q3⟩ := mul_floor a b
  have hpp := fcl_mul_in a b
  rw [hq] at q1 q2 q3
  have hM := Lib.hid (fun w => by have := mul_any w a b; rw [hq] at this; exact this)
  replace hq := Lib.hid hq
  have hC1 := Lib.hid (fun w => clamp_any w a)
  have hC2 := Lib.hid (fun w => clamp_any w b)
  have hV : fdivV a b = if fcl b = 0 then (0, 11) else (fcl (qd (fcl a * 256) (fcl b)), 0) := rfl
  have hD := fun w => div_any w a b
  rw [hV] at hD
  clear hV
  have hF := fun d hd hy => div_floor (fcl a) (fcl b) d hd hy
  by_cases hy0 : fcl b = 0
  · rw [if_pos hy0] at hD
    rw [hy0] at hC2 q3 hpp
    rw [Int.mul_zero] at q3
    replace hD := Lib.hid hD
    clear hF hpp hy0 hcb
    generalize fcl a = X at *
    go_enter Tryd.func10, Tryd.ntmps10
    go_upto_region 3 with (first | (go_at_call 13; (with_reducible refine (hC1.out _).mono ?_); rintro e w' ⟨rfl, e1, rfl⟩) | (go_at_call 13; (with_reducible refine (hC2.out _).mono ?_); rintro e w' ⟨rfl, e2, rfl⟩) | (go_at_call 18; (with_reducible refine (hM.out _).mono ?_); rintro e w' ⟨rfl, e3, rfl⟩))
    go_cut [39] (fun t wx => t = .bool false ∧ w.Plus wx)
    case first =>
      by_cases k1 : -1073741824 < q
      · by_cases k2 : q < 1073741824
        · obtain ⟨k3, k4⟩ := q3 k1 k2
          have k5 : decide (0 < 256 * q) = false := decide_eq_false (by omega)
          have k6 : decide (256 * (q + 1) ≤ 0) = false := decide_eq_false (by omega)
          have k7 : wrap64 (X * 0) = 0 := by rw [show X * 0 = 0 by first | rfl | exact Int.neg_mul_neg _ _ | exact Int.mul_zero _]; exact w64_id (by omega) (by omega)
          clear q3
          go_wp2_with fail
          go_meet
          exact ⟨rfl, by (repeat (first | exact Plus.refl _ | apply Plus.plus | apply Plus.alloc | apply Plus.drew))⟩
        · clear q3
          go_wp2_with fail
          go_meet
          exact ⟨rfl, by (repeat (first | exact Plus.refl _ | apply Plus.plus | apply Plus.alloc | apply Plus.drew))⟩
      · clear q3
        go_wp2_with fail
        go_meet
        exact ⟨rfl, by (repeat (first | exact Plus.refl _ | apply Plus.plus | apply Plus.alloc | apply Plus.drew))⟩
    obtain ⟨rfl, hp⟩ := hcut
    clear q3

    go_wp2_with (first | (go_at_call 20; (with_reducible refine (hD.out _).mono ?_); rintro e w' ⟨rfl, e1, rfl⟩) | (go_at_call 15; (with_reducible refine (awake_any _).mono ?_); rintro e w' ⟨rfl, ey, rfl⟩))
    go_ret
    exact ⟨rfl, Plus.trans hp (by (repeat (first | exact Plus.refl _ | apply Plus.plus | apply Plus.alloc | apply Plus.drew)))⟩
  rw [if_neg hy0] at hD
  obtain ⟨d, hd⟩ : ∃ d, fcl (qd (fcl a * 256) (fcl b)) = d := ⟨_, rfl⟩
  rw [hd] at hD
  simp only at hD
  obtain ⟨d1, d2, d3, d4⟩ := hF d hd.symm hy0
  clear hF
  replace hD := Lib.hid hD
  replace hd := Lib.hid hd
  by_cases hneg : fcl b < 0
  · obtain ⟨Y, hY⟩ : ∃ Y : Nat, fcl b = -(Y : Int) := ⟨(-fcl b).toNat, by omega⟩
    obtain ⟨X, hX⟩ : ∃ X : Int, fcl a = -X := ⟨-fcl a, by omega⟩
    have d5 := d4 hneg
    clear d3 d4
    rw [hY, hX] at q3 d5 hpp
    rw [hY] at hC2 hneg hcb hy0
    rw [hX] at hC1 hca
    rw [Int.neg_neg, Int.neg_neg] at d5
    rw [Int.neg_mul_neg] at q3 hpp
    replace hY := Lib.hid hY
    replace hX := Lib.hid hX
    go_enter Tryd.func10, Tryd.ntmps10
    go_upto_region 3 with (first | (go_at_call 13; (with_reducible refine (hC1.out _).mono ?_); rintro e w' ⟨rfl, e1, rfl⟩) | (go_at_call 13; (with_reducible refine (hC2.out _).mono ?_); rintro e w' ⟨rfl, e2, rfl⟩) | (go_at_call 18; (with_reducible refine (hM.out _).mono ?_); rintro e w' ⟨rfl, e3, rfl⟩))
    go_cut [39] (fun t wx => t = .bool false ∧ w.Plus wx)
    case first =>
      by_cases k1 : -1073741824 < q
      · by_cases k2 : q < 1073741824
        · obtain ⟨k3, k4⟩ := q3 k1 k2
          have k5 : decide (X * (Y:Int) < 256 * q) = false := decide_eq_false (by omega)
          have k6 : decide (256 * (q + 1) ≤ X * (Y:Int)) = false := decide_eq_false (by omega)
          have k7 : wrap64 ((-X * -(Y:Int))) = X * (Y:Int) := by rw [show (-X * -(Y:Int)) = X * (Y:Int) by first | rfl | exact Int.neg_mul_neg _ _ | exact Int.mul_zero _]; exact w64_id (by omega) (by omega)
          clear q3
          go_wp2_with fail
          go_meet
          exact ⟨rfl, by (repeat (first | exact Plus.refl _ | apply Plus.plus | apply Plus.alloc | apply Plus.drew))⟩
        · clear q3
          go_wp2_with fail
          go_meet
          exact ⟨rfl, by (repeat (first | exact Plus.refl _ | apply Plus.plus | apply Plus.alloc | apply Plus.drew))⟩
      · clear q3
        go_wp2_with fail
        go_meet
        exact ⟨rfl, by (repeat (first | exact Plus.refl _ | apply Plus.plus | apply Plus.alloc | apply Plus.drew))⟩
    obtain ⟨rfl, hp⟩ := hcut
    clear q3

    have m1 := mul_in (x := (Y:Int)) (y := d) (a := 1073741824) (b := 1073741824) (by omega) (by omega)
    have m2 := mul_in (x := (Y:Int)) (y := d + 1) (a := 1073741824) (b := 1073741825) (by omega) (by omega)
    simp only [show ((1073741824 * 1073741824 : Nat) : Int) = 1152921504606846976 from rfl, show ((1073741824 * 1073741825 : Nat) : Int) = 1152921505680588800 from rfl] at m1 m2
    have m3 : wrap64 ((Y:Int) * d) = (Y:Int) * d := w64_id (by omega) (by omega)
    have m4 : wrap64 ((Y:Int) * (d + 1)) = (Y:Int) * (d + 1) := w64_id (by omega) (by omega)
    by_cases k1 : d ≤ -1073741824
    · clear d5
      have k1b : decide (d ≤ -1073741824) = true := decide_eq_true k1
      go_wp2_with (first | (go_at_call 20; (with_reducible refine (hD.out _).mono ?_); rintro e w' ⟨rfl, e1, rfl⟩) | (go_at_call 15; (with_reducible refine (awake_any _).mono ?_); rintro e w' ⟨rfl, ey, rfl⟩))
      go_ret
      exact ⟨rfl, Plus.trans hp (by (repeat (first | exact Plus.refl _ | apply Plus.plus | apply Plus.alloc | apply Plus.drew)))⟩
    have k1b : decide (d ≤ -1073741824) = false := decide_eq_false k1
    by_cases k2 : 1073741824 ≤ d
    · clear d5
      have k2b : decide (1073741824 ≤ d) = true := decide_eq_true k2
      go_wp2_with (first | (go_at_call 20; (with_reducible refine (hD.out _).mono ?_); rintro e w' ⟨rfl, e1, rfl⟩) | (go_at_call 15; (with_reducible refine (awake_any _).mono ?_); rintro e w' ⟨rfl, ey, rfl⟩))
      go_ret
      exact ⟨rfl, Plus.trans hp (by (repeat (first | exact Plus.refl _ | apply Plus.plus | apply Plus.alloc | apply Plus.drew)))⟩
    · have k2b : decide (1073741824 ≤ d) = false := decide_eq_false k2
      obtain ⟨k3, k4⟩ := d5 (by omega) (by omega)
      have k3b : decide ((Y:Int) * d ≤ 256 * X) = true := decide_eq_true k3
      have k4b : decide (256 * X < (Y:Int) * (d + 1)) = true := decide_eq_true k4
      clear d5
      go_wp2_with (first | (go_at_call 20; (with_reducible refine (hD.out _).mono ?_); rintro e w' ⟨rfl, e1, rfl⟩) | (go_at_call 15; (with_reducible refine (awake_any _).mono ?_); rintro e w' ⟨rfl, ey, rfl⟩))
      go_ret
      exact ⟨rfl, Plus.trans hp (by (repeat (first | exact Plus.refl _ | apply Plus.plus | apply Plus.alloc | apply Plus.drew)))⟩

  · have hpos : 0 < fcl b := by omega
    have d5 := d3 hpos
    clear d3 d4
    generalize fcl a = X at *
    generalize fcl b = Y at *
    go_enter Tryd.func10, Tryd.ntmps10
    go_upto_region 3 with (first | (go_at_call 13; (with_reducible refine (hC1.out _).mono ?_); rintro e w' ⟨rfl, e1, rfl⟩) | (go_at_call 13; (with_reducible refine (hC2.out _).mono ?_); rintro e w' ⟨rfl, e2, rfl⟩) | (go_at_call 18; (with_reducible refine (hM.out _).mono ?_); rintro e w' ⟨rfl, e3, rfl⟩))
    go_cut [39] (fun t wx => t = .bool false ∧ w.Plus wx)
    case first =>
      by_cases k1 : -1073741824 < q
      · by_cases k2 : q < 1073741824
        · obtain ⟨k3, k4⟩ := q3 k1 k2
          have k5 : decide (X * Y < 256 * q) = false := decide_eq_false (by omega)
          have k6 : decide (256 * (q + 1) ≤ X * Y) = false := decide_eq_false (by omega)
          have k7 : wrap64 (X * Y) = X * Y := by rw [show X * Y = X * Y by first | rfl | exact Int.neg_mul_neg _ _ | exact Int.mul_zero _]; exact w64_id (by omega) (by omega)
          clear q3
          go_wp2_with fail
          go_meet
          exact ⟨rfl, by (repeat (first | exact Plus.refl _ | apply Plus.plus | apply Plus.alloc | apply Plus.drew))⟩
        · clear q3
          go_wp2_with fail
          go_meet
          exact ⟨rfl, by (repeat (first | exact Plus.refl _ | apply Plus.plus | apply Plus.alloc | apply Plus.drew))⟩
      · clear q3
        go_wp2_with fail
        go_meet
        exact ⟨rfl, by (repeat (first | exact Plus.refl _ | apply Plus.plus | apply Plus.alloc | apply Plus.drew))⟩
    obtain ⟨rfl, hp⟩ := hcut
    clear q3

    have m1 := mul_in (x := Y) (y := d) (a := 1073741824) (b := 1073741824) (by omega) (by omega)
    have m2 := mul_in (x := Y) (y := d + 1) (a := 1073741824) (b := 1073741825) (by omega) (by omega)
    simp only [show ((1073741824 * 1073741824 : Nat) : Int) = 1152921504606846976 from rfl, show ((1073741824 * 1073741825 : Nat) : Int) = 1152921505680588800 from rfl] at m1 m2
    have m3 : wrap64 (Y * d) = Y * d := w64_id (by omega) (by omega)
    have m4 : wrap64 (Y * (d + 1)) = Y * (d + 1) := w64_id (by omega) (by omega)
    by_cases k1 : d ≤ -1073741824
    · clear d5
      have k1b : decide (d ≤ -1073741824) = true := decide_eq_true k1
      go_wp2_with (first | (go_at_call 20; (with_reducible refine (hD.out _).mono ?_); rintro e w' ⟨rfl, e1, rfl⟩) | (go_at_call 15; (with_reducible refine (awake_any _).mono ?_); rintro e w' ⟨rfl, ey, rfl⟩))
      go_ret
      exact ⟨rfl, Plus.trans hp (by (repeat (first | exact Plus.refl _ | apply Plus.plus | apply Plus.alloc | apply Plus.drew)))⟩
    have k1b : decide (d ≤ -1073741824) = false := decide_eq_false k1
    by_cases k2 : 1073741824 ≤ d
    · clear d5
      have k2b : decide (1073741824 ≤ d) = true := decide_eq_true k2
      go_wp2_with (first | (go_at_call 20; (with_reducible refine (hD.out _).mono ?_); rintro e w' ⟨rfl, e1, rfl⟩) | (go_at_call 15; (with_reducible refine (awake_any _).mono ?_); rintro e w' ⟨rfl, ey, rfl⟩))
      go_ret
      exact ⟨rfl, Plus.trans hp (by (repeat (first | exact Plus.refl _ | apply Plus.plus | apply Plus.alloc | apply Plus.drew)))⟩
    · have k2b : decide (1073741824 ≤ d) = false := decide_eq_false k2
      obtain ⟨k3, k4⟩ := d5 (by omega) (by omega)
      have k3b : decide (Y * d ≤ 256 * X) = true := decide_eq_true k3
      have k4b : decide (256 * X < Y * (d + 1)) = true := decide_eq_true k4
      clear d5
      go_wp2_with (first | (go_at_call 20; (with_reducible refine (hD.out _).mono ?_); rintro e w' ⟨rfl, e1, rfl⟩) | (go_at_call 15; (with_reducible refine (awake_any _).mono ?_); rintro e w' ⟨rfl, ey, rfl⟩))
      go_ret
      exact ⟨rfl, Plus.trans hp (by (repeat (first | exact Plus.refl _ | apply Plus.plus | apply Plus.alloc | apply Plus.drew)))⟩

theorem laid_met (os : Os) : laidMet Tryd.prog Rows.fixedFloorsRow.laid ((laidWorld os).forCall (fun _ _ => 0) ⟨#[], #[.int .i64 0, .int .i64 0], []⟩).memory :=
  laidMet_of_run' 8 (by kernel_rfl) (by kernel_rfl)
theorem reads (os : Os) {H : Type} (enc : TypeId × Value → H) : ∃ places, DataW.whole enc Tryd.prog ((laidWorld os).forCall (fun _ _ => 0) ⟨#[], #[.int .i64 0, .int .i64 0], []⟩).memory Tryd.f10.params.toList Rows.fixedFloorsSpec.vars false (#[.int .i64 0, .int .i64 0] : Array Value).toList 8 = some ([.lit (.int .i64 0), .lit (.int .i64 0)], [], places) :=
  ⟨[], by kernel_rfl⟩
set_option maxRecDepth 100000 in
set_option maxHeartbeats 1000000 in
theorem lifted (os : Os) (started : os.Started) (H : Type) (enc : TypeId × Value → H) (F : Stop.Interp) :
    ReturnsInHanded {} Tryd.checked os 10 .any ((OpenSpec.ofChange Rows.fixedFloorsSpec).preRow enc Tryd.prog Tryd.f10 Rows.fixedFloorsRow.domain false Rows.fixedFloorsRow.laid) (((OpenSpec.ofChange Rows.fixedFloorsSpec).at F).post enc Tryd.prog Tryd.f10 false true false false) := by
  obtain ⟨places, hx⟩ := reads os enc
  refine returnsInHanded_of_row (C := Tryd.checked) (s := OpenSpec.ofChange Rows.fixedFloorsSpec) own started (by kernel_rfl) Tryd.func10
    (witness_row_at (enc := enc) (C := Tryd.checked) false (laidWorld os) #[.int .i64 0, .int .i64 0] rfl (by kernel_rfl) (by kernel_rfl) (by kernel_rfl)
      (OpenSpec.preRow_of_cond 8 hx (by kernel_rfl) (fun k hk => by cases hk) (by kernel_rfl) (laid_met os))) ?_
  intro W base args ds gs before hval0 hW _ _ hsz0 hL _ _
  have hT := nibOf hL
  have hval : ∀ (j : Nat) t v, Tryd.f10.params[j]? = some t → args[j]? = some v → Value.okWide Tryd.prog W .any base t v := hval0
  have hsz : (DataW.weightsEach Tryd.prog (Tryd.f10.params.toList ++ Rows.fixedFloorsSpec.plain.varTypes Tryd.prog) (ds ++ gs)).all (· ≤ reachBytes) = true := hsz0
  have hW' : DataW.Whole enc Tryd.prog Tryd.f10.params.toList Rows.fixedFloorsSpec.vars false W args.toList ds gs before := hW
  obtain ⟨p, q, hA0, hV, rfl, hfz, hnd⟩ := hW
  have hA : DataW.TrodAll enc Tryd.prog W 0 (fun _ => true) true Tryd.f10.params.toList args.toList ds p := hA0
  rw [Tryd.params10] at hA hval hsz
  obtain ⟨v0, vs0, d0, ds0, p0, q0, hargs, rfl, rfl, h0, r0⟩ := trodAll_cons hA
  obtain ⟨v1, vs1, d1, ds1, p1, q1, rfl, rfl, rfl, h1, r1⟩ := trodAll_cons r0
  obtain ⟨rfl, rfl, rfl⟩ := trodAll_nil r1
  obtain rfl : args = #[v0, v1] := by cases args; simp_all
  obtain ⟨rfl, rfl⟩ := trodVars_none hV
  have light : ∀ (j : Nat) (t : TypeId) (d : DataW H), (Tryd.f10.params.toList ++ Rows.fixedFloorsSpec.plain.varTypes Tryd.prog)[j]? = some t → ([d0, d1] : List (DataW H))[j]? = some d → Light Tryd.prog t d := fun j t d hj hd m hm => by
    have h := List.all_eq_true.1 hsz m (DataW.weights_mem_each (j := j) (by rw [Tryd.params10] at hj; exact hj) (by simpa using hd) m hm)
    simpa using h
  obtain ⟨x0, c0, hh0, hv0⟩ := open_arg (n := 8) (ty := (.int .i64)) (by kernel_rfl) (hval 0 _ v0 rfl rfl) h0 (light 0 _ _ rfl rfl)
  obtain ⟨hc0, wf0⟩ := hh0.flat rfl
  rw [hc0] at hv0
  obtain rfl : v0 = .int .i64 x0 := (List.cons.inj hv0).1.symm
  clear hc0 hh0 h0
  obtain ⟨x1, c1, hh1, hv1⟩ := open_arg (n := 8) (ty := (.int .i64)) (by kernel_rfl) (hval 1 _ v1 rfl rfl) h1 (light 1 _ _ rfl rfl)
  obtain ⟨hc1, wf1⟩ := hh1.flat rfl
  rw [hc1] at hv1
  obtain rfl : v1 = .int .i64 x1 := (List.cons.inj hv1).1.symm
  clear hc1 hh1 h1
  clear hA0 hval0 hval light hsz hsz0
  refine (walk _ _ _).mono fun e W' ⟨he, hp⟩ => ?_
  subst he
  exact ⟨_, rfl, post_true hW' rfl rfl rfl rfl laidOut (by kernel_rfl) rfl (by kernel_rfl) (Plus.below hp)⟩
theorem said : Rows.FixedFloorsSaid :=
  OpenClaim.holds_of_cond 10 Tryd.f10 rfl rfl rfl rfl rfl rfl rfl ⟨rfl, rfl, rfl, rfl, rfl⟩ rfl rfl rfl rfl rfl (by kernel_rfl) Tryd.func10 (by kernel_rfl)
    (of_decide_eq_true (by kernel_rfl)) (by unfold Func.isWrapper; first | (rw [if_pos (by decide +kernel)]; kernel_rfl) | (rw [if_neg (by decide +kernel)]; exact ⟨rfl, rfl⟩))
    (fun os started H enc _ F => by rw [OpenClaim.pre_eq_preRow]; exact lifted os started H enc F)
theorem plain (f : FuncId) (fn : Func) (hf : Tryd.pinned.checked.prog.funcNamed "hedgerow/hedgerowlaw02.FixedFloors" = some f) (hfn : Tryd.pinned.checked.prog.funcs[f]? = some fn) :
    false = Tryd.pinned.checked.prog.looks [] ∧ ∀ (j : Nat) t, fn.params[j]? = some t → Tryd.pinned.checked.prog.wantsStandIn t = false := by
  obtain rfl : f = 10 := Option.some.inj ((show Tryd.prog.funcNamed "hedgerow/hedgerowlaw02.FixedFloors" = some 10 by kernel_rfl).symm.trans hf) |>.symm
  obtain rfl : fn = Tryd.f10 := (Option.some.inj (Tryd.func10.symm.trans hfn)).symm
  refine ⟨by kernel_rfl, fun j t ht => ?_⟩
  rw [Tryd.params10] at ht
  have hall : (Tryd.f10.params.toList.all fun t => Tryd.prog.wantsStandIn t == false) = true := by kernel_rfl
  rw [Tryd.params10] at hall
  have := List.all_eq_true.1 hall t (by simpa using Array.mem_of_getElem? ht)
  exact (show Tryd.prog.wantsStandIn t = false by simpa using this)
theorem card : Rows.FixedFloorsCardSaid :=
  Claim7.holds_tied_plain_at .later [] _ _ _ _ said (fun _ h => by cases h) (by kernel_rfl) (fun _ h => by cases h) fixedFloors_row_tie rfl ⟨rfl, rfl⟩ (by kernel_rfl) rfl plain (by kernel_rfl)
end Go.Proofs.YtndbcjgbcplgcaaDoor.lawFixedFloors
