/- FixedRises: what is not below another number is not below it behind Clamp, with the same added, and multiplied by the same from 0 on. For every input, no condition. -/
import Derived.Test.YtndbcjgbcplgcaaDoorRows
import Derived.Test.YtndbcjgbcplgcaaDoorCards
import Derived.Test.YtndbcjgbcplgcaaDoorTie
import Derived.Test.YtndbcjgbcplgcaaDoorFixLaid
set_option linter.unusedSimpArgs false
set_option linter.unusedVariables false
namespace Go.Proofs.YtndbcjgbcplgcaaDoor.lawFixedRises
open Go.ChangeShapes Go.WideShapes Go.ChangeAt Go.RowKit
theorem two_at (w : World) (b : Nat) (x y : Int) (h0 : b < w.heap.size) (h1 : w.cell? ⟨b, 0, none⟩ = some (.int .i64 x)) (h2 : w.cell? ⟨b, 1, none⟩ = some (.int .i64 y)) :
    Calls Tryd.prog 16 #[.slice (some ⟨b, 0, none⟩) 2 2] w fun e w' => e = .returned (.int .i64 (fadd [x, y])) ∧ w.Plus w' :=
  add_any w (some ⟨b, 0, none⟩) 2 [x, y] (by simp) (fun _ => ⟨b, 0, rfl, h0, fun i j hi hj => by
    have hj0 : j = 0 := by omega
    subst hj0
    have hi3 : i = 0 ∨ i = 1 := by simp at hi; omega
    rcases hi3 with rfl | rfl
    · exact h1
    · exact h2⟩)
theorem fadd2_mono {a b : Int} (c : Int) (h : a ≤ b) : fadd [a, c] ≤ fadd [b, c] := by
  show fcl (fcl (0 + fcl a) + fcl c) ≤ fcl (fcl (0 + fcl b) + fcl c)
  apply fcl_mono
  have := fcl_mono (show 0 + fcl a ≤ 0 + fcl b by have := fcl_mono h; omega)
  omega
set_option maxRecDepth 100000 in
set_option maxHeartbeats 1000000 in
theorem walk (a b c : Int) (w : World) : Calls Tryd.prog 11 #[.int .i64 a, .int .i64 b, .int .i64 c] w fun e w' => e = .returned (.bool true) ∧ w.Plus w' := by
  by_cases hab : b < a
  · skip
    have hle : b ≤ a := by omega
    have h1 := fcl_mono hle
    have h2 := fadd2_mono c hle
    have hM0 : 0 ≤ c → fmul b c ≤ fmul a c := fun h => fmul_mono hle h
    clear hle
    have hA1 := Lib.hid (fun w b0 h0 h1 h2 => two_at w b0 b c h0 h1 h2)
    have hA2 := Lib.hid (fun w b0 h0 h1 h2 => two_at w b0 a c h0 h1 h2)
    have hM1 := Lib.hid (fun w => mul_any w b c)
    have hM2 := Lib.hid (fun w => mul_any w a c)
    have hC1 := Lib.hid (fun w => clamp_any w b)
    have hC2 := Lib.hid (fun w => clamp_any w a)
    generalize fcl b = x1 at *
    generalize fcl a = y1 at *
    generalize fadd [b, c] = x2 at *
    generalize fadd [a, c] = y2 at *
    generalize fmul b c = x3 at *
    generalize fmul a c = y3 at *
    have n1 : ¬ y1 < x1 := by omega
    have n1b : decide (y1 < x1) = false := decide_eq_false n1
    have n2 : ¬ y2 < x2 := by omega
    have n2b : decide (y2 < x2) = false := decide_eq_false n2
    clear h1 h2
    by_cases hc : c < 0
    · have hcb : decide (c < 0) = true := decide_eq_true hc
      replace hM0 := Lib.hid hM0
      go_enter Tryd.func11, Tryd.ntmps11
      go_wp2_with (first | (go_at_call 13; (with_reducible refine (hC1.out _).mono ?_); rintro e w' ⟨rfl, e1, rfl⟩) | (go_at_call 13; (with_reducible refine (hC2.out _).mono ?_); rintro e w' ⟨rfl, e2, rfl⟩) | (go_at_call 16; (with_reducible refine (hA1.out _ _ ?_ ?_ ?_).mono ?_); (focus (simp [go_sem]; done)); (focus (simp [go_sem]; done)); (focus (simp [go_sem]; done)); rintro e w' ⟨rfl, e3, rfl⟩) | (go_at_call 16; (with_reducible refine (hA2.out _ _ ?_ ?_ ?_).mono ?_); (focus (simp [go_sem]; done)); (focus (simp [go_sem]; done)); (focus (simp [go_sem]; done)); rintro e w' ⟨rfl, e4, rfl⟩) | (go_at_call 15; (with_reducible refine (awake_any _).mono ?_); rintro e w' ⟨rfl, ey, rfl⟩) | (go_at_call 13; (with_reducible refine (clamp_any _ _).mono ?_); rintro e w' ⟨rfl, ey, rfl⟩) | (go_at_call 18; (with_reducible refine (mul_any _ _ _).mono ?_); rintro e w' ⟨rfl, ey, rfl⟩))
      go_ret
      exact ⟨rfl, by (repeat (first | exact Plus.refl _ | apply Plus.plus | apply Plus.alloc | apply Plus.drew))⟩
    · have hcb : decide (c < 0) = false := decide_eq_false hc
      have h3 := hM0 (by omega)
      have h3b : decide (x3 ≤ y3) = true := decide_eq_true h3
      clear hM0
      go_enter Tryd.func11, Tryd.ntmps11
      go_wp2_with (first | (go_at_call 13; (with_reducible refine (hC1.out _).mono ?_); rintro e w' ⟨rfl, e1, rfl⟩) | (go_at_call 13; (with_reducible refine (hC2.out _).mono ?_); rintro e w' ⟨rfl, e2, rfl⟩) | (go_at_call 16; (with_reducible refine (hA1.out _ _ ?_ ?_ ?_).mono ?_); (focus (simp [go_sem]; done)); (focus (simp [go_sem]; done)); (focus (simp [go_sem]; done)); rintro e w' ⟨rfl, e3, rfl⟩) | (go_at_call 16; (with_reducible refine (hA2.out _ _ ?_ ?_ ?_).mono ?_); (focus (simp [go_sem]; done)); (focus (simp [go_sem]; done)); (focus (simp [go_sem]; done)); rintro e w' ⟨rfl, e4, rfl⟩) | (go_at_call 18; (with_reducible refine (hM1.out _).mono ?_); rintro e w' ⟨rfl, e5, rfl⟩) | (go_at_call 18; (with_reducible refine (hM2.out _).mono ?_); rintro e w' ⟨rfl, e6, rfl⟩) | (go_at_call 15; (with_reducible refine (awake_any _).mono ?_); rintro e w' ⟨rfl, ey, rfl⟩) | (go_at_call 13; (with_reducible refine (clamp_any _ _).mono ?_); rintro e w' ⟨rfl, ey, rfl⟩) | (go_at_call 18; (with_reducible refine (mul_any _ _ _).mono ?_); rintro e w' ⟨rfl, ey, rfl⟩))
      go_ret
      exact ⟨rfl, by (repeat (first | exact Plus.refl _ | apply Plus.plus | apply Plus.alloc | apply Plus.drew))⟩

  · skip
    have hle : a ≤ b := by omega
    have h1 := fcl_mono hle
    have h2 := fadd2_mono c hle
    have hM0 : 0 ≤ c → fmul a c ≤ fmul b c := fun h => fmul_mono hle h
    clear hle
    have hA1 := Lib.hid (fun w b0 h0 h1 h2 => two_at w b0 a c h0 h1 h2)
    have hA2 := Lib.hid (fun w b0 h0 h1 h2 => two_at w b0 b c h0 h1 h2)
    have hM1 := Lib.hid (fun w => mul_any w a c)
    have hM2 := Lib.hid (fun w => mul_any w b c)
    have hC1 := Lib.hid (fun w => clamp_any w a)
    have hC2 := Lib.hid (fun w => clamp_any w b)
    generalize fcl a = x1 at *
    generalize fcl b = y1 at *
    generalize fadd [a, c] = x2 at *
    generalize fadd [b, c] = y2 at *
    generalize fmul a c = x3 at *
    generalize fmul b c = y3 at *
    have n1 : ¬ y1 < x1 := by omega
    have n1b : decide (y1 < x1) = false := decide_eq_false n1
    have n2 : ¬ y2 < x2 := by omega
    have n2b : decide (y2 < x2) = false := decide_eq_false n2
    clear h1 h2
    by_cases hc : c < 0
    · have hcb : decide (c < 0) = true := decide_eq_true hc
      replace hM0 := Lib.hid hM0
      go_enter Tryd.func11, Tryd.ntmps11
      go_wp2_with (first | (go_at_call 13; (with_reducible refine (hC1.out _).mono ?_); rintro e w' ⟨rfl, e1, rfl⟩) | (go_at_call 13; (with_reducible refine (hC2.out _).mono ?_); rintro e w' ⟨rfl, e2, rfl⟩) | (go_at_call 16; (with_reducible refine (hA1.out _ _ ?_ ?_ ?_).mono ?_); (focus (simp [go_sem]; done)); (focus (simp [go_sem]; done)); (focus (simp [go_sem]; done)); rintro e w' ⟨rfl, e3, rfl⟩) | (go_at_call 16; (with_reducible refine (hA2.out _ _ ?_ ?_ ?_).mono ?_); (focus (simp [go_sem]; done)); (focus (simp [go_sem]; done)); (focus (simp [go_sem]; done)); rintro e w' ⟨rfl, e4, rfl⟩) | (go_at_call 15; (with_reducible refine (awake_any _).mono ?_); rintro e w' ⟨rfl, ey, rfl⟩) | (go_at_call 13; (with_reducible refine (clamp_any _ _).mono ?_); rintro e w' ⟨rfl, ey, rfl⟩) | (go_at_call 18; (with_reducible refine (mul_any _ _ _).mono ?_); rintro e w' ⟨rfl, ey, rfl⟩))
      go_ret
      exact ⟨rfl, by (repeat (first | exact Plus.refl _ | apply Plus.plus | apply Plus.alloc | apply Plus.drew))⟩
    · have hcb : decide (c < 0) = false := decide_eq_false hc
      have h3 := hM0 (by omega)
      have h3b : decide (x3 ≤ y3) = true := decide_eq_true h3
      clear hM0
      go_enter Tryd.func11, Tryd.ntmps11
      go_wp2_with (first | (go_at_call 13; (with_reducible refine (hC1.out _).mono ?_); rintro e w' ⟨rfl, e1, rfl⟩) | (go_at_call 13; (with_reducible refine (hC2.out _).mono ?_); rintro e w' ⟨rfl, e2, rfl⟩) | (go_at_call 16; (with_reducible refine (hA1.out _ _ ?_ ?_ ?_).mono ?_); (focus (simp [go_sem]; done)); (focus (simp [go_sem]; done)); (focus (simp [go_sem]; done)); rintro e w' ⟨rfl, e3, rfl⟩) | (go_at_call 16; (with_reducible refine (hA2.out _ _ ?_ ?_ ?_).mono ?_); (focus (simp [go_sem]; done)); (focus (simp [go_sem]; done)); (focus (simp [go_sem]; done)); rintro e w' ⟨rfl, e4, rfl⟩) | (go_at_call 18; (with_reducible refine (hM1.out _).mono ?_); rintro e w' ⟨rfl, e5, rfl⟩) | (go_at_call 18; (with_reducible refine (hM2.out _).mono ?_); rintro e w' ⟨rfl, e6, rfl⟩) | (go_at_call 15; (with_reducible refine (awake_any _).mono ?_); rintro e w' ⟨rfl, ey, rfl⟩) | (go_at_call 13; (with_reducible refine (clamp_any _ _).mono ?_); rintro e w' ⟨rfl, ey, rfl⟩) | (go_at_call 18; (with_reducible refine (mul_any _ _ _).mono ?_); rintro e w' ⟨rfl, ey, rfl⟩))
      go_ret
      exact ⟨rfl, by (repeat (first | exact Plus.refl _ | apply Plus.plus | apply Plus.alloc | apply Plus.drew))⟩

theorem laid_met (os : Os) : laidMet Tryd.prog Rows.fixedRisesRow.laid ((laidWorld os).forCall (fun _ _ => 0) ⟨#[], #[.int .i64 0, .int .i64 0, .int .i64 0], []⟩).memory :=
  laidMet_of_run' 8 (by kernel_rfl) (by kernel_rfl)
theorem reads (os : Os) {H : Type} (enc : TypeId × Value → H) : ∃ places, DataW.whole enc Tryd.prog ((laidWorld os).forCall (fun _ _ => 0) ⟨#[], #[.int .i64 0, .int .i64 0, .int .i64 0], []⟩).memory Tryd.f11.params.toList Rows.fixedRisesSpec.vars false (#[.int .i64 0, .int .i64 0, .int .i64 0] : Array Value).toList 8 = some ([.lit (.int .i64 0), .lit (.int .i64 0), .lit (.int .i64 0)], [], places) :=
  ⟨[], by kernel_rfl⟩
set_option maxRecDepth 100000 in
set_option maxHeartbeats 1000000 in
theorem lifted (os : Os) (started : os.Started) (H : Type) (enc : TypeId × Value → H) (F : Stop.Interp) :
    ReturnsInHanded {} Tryd.checked os 11 .any ((OpenSpec.ofChange Rows.fixedRisesSpec).preRow enc Tryd.prog Tryd.f11 Rows.fixedRisesRow.domain false Rows.fixedRisesRow.laid) (((OpenSpec.ofChange Rows.fixedRisesSpec).at F).post enc Tryd.prog Tryd.f11 false true false false) := by
  obtain ⟨places, hx⟩ := reads os enc
  refine returnsInHanded_of_row (C := Tryd.checked) (s := OpenSpec.ofChange Rows.fixedRisesSpec) own started (by kernel_rfl) Tryd.func11
    (witness_row_at (enc := enc) (C := Tryd.checked) false (laidWorld os) #[.int .i64 0, .int .i64 0, .int .i64 0] rfl (by kernel_rfl) (by kernel_rfl) (by kernel_rfl)
      (OpenSpec.preRow_of_cond 8 hx (by kernel_rfl) (fun k hk => by cases hk) (by kernel_rfl) (laid_met os))) ?_
  intro W base args ds gs before hval0 hW _ _ hsz0 hL _ _
  have hT := nibOf hL
  have hval : ∀ (j : Nat) t v, Tryd.f11.params[j]? = some t → args[j]? = some v → Value.okWide Tryd.prog W .any base t v := hval0
  have hsz : (DataW.weightsEach Tryd.prog (Tryd.f11.params.toList ++ Rows.fixedRisesSpec.plain.varTypes Tryd.prog) (ds ++ gs)).all (· ≤ reachBytes) = true := hsz0
  have hW' : DataW.Whole enc Tryd.prog Tryd.f11.params.toList Rows.fixedRisesSpec.vars false W args.toList ds gs before := hW
  obtain ⟨p, q, hA0, hV, rfl, hfz, hnd⟩ := hW
  have hA : DataW.TrodAll enc Tryd.prog W 0 (fun _ => true) true Tryd.f11.params.toList args.toList ds p := hA0
  rw [Tryd.params11] at hA hval hsz
  obtain ⟨v0, vs0, d0, ds0, p0, q0, hargs, rfl, rfl, h0, r0⟩ := trodAll_cons hA
  obtain ⟨v1, vs1, d1, ds1, p1, q1, rfl, rfl, rfl, h1, r1⟩ := trodAll_cons r0
  obtain ⟨v2, vs2, d2, ds2, p2, q2, rfl, rfl, rfl, h2, r2⟩ := trodAll_cons r1
  obtain ⟨rfl, rfl, rfl⟩ := trodAll_nil r2
  obtain rfl : args = #[v0, v1, v2] := by cases args; simp_all
  obtain ⟨rfl, rfl⟩ := trodVars_none hV
  have light : ∀ (j : Nat) (t : TypeId) (d : DataW H), (Tryd.f11.params.toList ++ Rows.fixedRisesSpec.plain.varTypes Tryd.prog)[j]? = some t → ([d0, d1, d2] : List (DataW H))[j]? = some d → Light Tryd.prog t d := fun j t d hj hd m hm => by
    have h := List.all_eq_true.1 hsz m (DataW.weights_mem_each (j := j) (by rw [Tryd.params11] at hj; exact hj) (by simpa using hd) m hm)
    simpa using h
  obtain ⟨x0, c0, hh0, hv0⟩ := open_arg (n := 8) (ty := (.int .i64)) (by kernel_rfl) (hval 0 _ v0 rfl rfl) h0 (light 0 _ _ rfl rfl)
  obtain ⟨hc0, wf0⟩ := hh0.flat rfl
  rw [hc0] at hv0
  obtain rfl : v0 = .int .i64 x0 := (List.cons.inj hv0).1.symm
  clear hc0 hh0 h0
  obtain ⟨x1, c1, hh1, hv1⟩ := open_arg (n := 8) (ty := (.int .i64)) (by kernel_rfl) (hval 1 _ v1 rfl rfl) h1 (light 1 _ _ rfl rfl)
  obtain ⟨hc1, wf1⟩ := hh1.flat rfl
  rw [hc1] at hv1
  obtain rfl : v1 = .int .i64 x1 := (List.cons.inj hv1).1.symm
  clear hc1 hh1 h1
  obtain ⟨x2, c2, hh2, hv2⟩ := open_arg (n := 8) (ty := (.int .i64)) (by kernel_rfl) (hval 2 _ v2 rfl rfl) h2 (light 2 _ _ rfl rfl)
  obtain ⟨hc2, wf2⟩ := hh2.flat rfl
  rw [hc2] at hv2
  obtain rfl : v2 = .int .i64 x2 := (List.cons.inj hv2).1.symm
  clear hc2 hh2 h2
  clear hA0 hval0 hval light hsz hsz0
  refine (walk _ _ _ _).mono fun e W' ⟨he, hp⟩ => ?_
  subst he
  exact ⟨_, rfl, post_true hW' rfl rfl rfl rfl laidOut (by kernel_rfl) rfl (by kernel_rfl) (Plus.below hp)⟩
theorem said : Rows.FixedRisesSaid :=
  OpenClaim.holds_of_cond 11 Tryd.f11 rfl rfl rfl rfl rfl rfl rfl ⟨rfl, rfl, rfl, rfl, rfl⟩ rfl rfl rfl rfl rfl (by kernel_rfl) Tryd.func11 (by kernel_rfl)
    (of_decide_eq_true (by kernel_rfl)) (by unfold Func.isWrapper; first | (rw [if_pos (by decide +kernel)]; kernel_rfl) | (rw [if_neg (by decide +kernel)]; exact ⟨rfl, rfl⟩))
    (fun os started H enc _ F => by rw [OpenClaim.pre_eq_preRow]; exact lifted os started H enc F)
theorem plain (f : FuncId) (fn : Func) (hf : Tryd.pinned.checked.prog.funcNamed "hedgerow/hedgerowlaw02.FixedRises" = some f) (hfn : Tryd.pinned.checked.prog.funcs[f]? = some fn) :
    false = Tryd.pinned.checked.prog.looks [] ∧ ∀ (j : Nat) t, fn.params[j]? = some t → Tryd.pinned.checked.prog.wantsStandIn t = false := by
  obtain rfl : f = 11 := Option.some.inj ((show Tryd.prog.funcNamed "hedgerow/hedgerowlaw02.FixedRises" = some 11 by kernel_rfl).symm.trans hf) |>.symm
  obtain rfl : fn = Tryd.f11 := (Option.some.inj (Tryd.func11.symm.trans hfn)).symm
  refine ⟨by kernel_rfl, fun j t ht => ?_⟩
  rw [Tryd.params11] at ht
  have hall : (Tryd.f11.params.toList.all fun t => Tryd.prog.wantsStandIn t == false) = true := by kernel_rfl
  rw [Tryd.params11] at hall
  have := List.all_eq_true.1 hall t (by simpa using Array.mem_of_getElem? ht)
  exact (show Tryd.prog.wantsStandIn t = false by simpa using this)
theorem card : Rows.FixedRisesCardSaid :=
  Claim7.holds_tied_plain_at .later [] _ _ _ _ said (fun _ h => by cases h) (by kernel_rfl) (fun _ h => by cases h) fixedRises_row_tie rfl ⟨rfl, rfl⟩ (by kernel_rfl) rfl plain (by kernel_rfl)
end Go.Proofs.YtndbcjgbcplgcaaDoor.lawFixedRises
