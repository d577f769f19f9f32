/- ZonesMakes: any config is taken or refused as the document says. For every input, no condition. -/
import Derived.Test.YteaikedgbgdcnaaRows
import Derived.Test.YteaikedgbgdcnaaZonesK
import Derived.Test.YteaikedgbgdcnaaLift
import Derived.ProofKit
set_option linter.unusedSimpArgs false
set_option linter.unusedVariables false
namespace Go.Proofs.Yteaikedgbgdcnaa.lawZonesMakes
open Go.ChangeShapes Go.WideShapes Go.ChangeAt Go.RowKit
theorem walk (a b s r p i q : Int) (w : World) : Calls Try.prog 3 #[(Cfg.mk a b s r p i q).v] w fun e w' => e = .returned (.bool true) ∧ w.Plus w' := by
  by_cases hok : (Cfg.mk a b s r p i q).ok
  · have hC : ∀ w, Calls Try.prog 13 #[(Cfg.mk a b s r p i q).v] w fun e w' => e = .returned (.int .i64 0) ∧ w.Plus w' := fun w =>
      (check_any a b s r p i q w).mono fun e w' ⟨⟨n, he, h⟩, hp⟩ => by
        rcases h with ⟨rfl, _⟩ | ⟨_, h⟩
        · exact ⟨he, hp⟩
        · exact absurd hok h
    have hR : ∀ w, Calls Try.prog 12 #[(Cfg.mk a b s r p i q).v] w fun e w' => e = .returned (.int .i64 0) ∧ w.Plus w' := fun w =>
      (refCheck_any a b s r p i q w).mono fun e w' ⟨⟨n, he, h⟩, hp⟩ => by
        rcases h with ⟨rfl, _⟩ | ⟨_, h⟩
        · exact ⟨he, hp⟩
        · exact absurd hok h
    have hN := fun w => new_ok a b s r p i q w hok
    unfold Cfg.v at *
    replace hC := Lib.hid hC
    replace hR := Lib.hid hR
    replace hN := Lib.hid hN
    clear hok
    go_enter Try.func3, Try.ntmps3
    go_wp2_with (first
      | (go_at_call 11; (with_reducible refine (hN.out _).mono ?_); rintro e w' ⟨k, rfl, hm, e0, rfl⟩)
      | (go_at_call 13; (with_reducible refine (hC.out _).mono ?_); rintro e w' ⟨rfl, e1, rfl⟩)
      | (go_at_call 12; (with_reducible refine (hR.out _).mono ?_); rintro e w' ⟨rfl, e2, rfl⟩)
      | (go_at_call 14; (with_reducible refine (awake_any _).mono ?_); rintro e w' ⟨rfl, e3, rfl⟩))
    go_ret
    exact ⟨rfl, by (repeat (first | exact Plus.refl _ | apply Plus.plus | apply Plus.alloc | apply Plus.drew))⟩
  · have hC : ∀ w, Calls Try.prog 13 #[(Cfg.mk a b s r p i q).v] w fun e w' => e = .returned (.int .i64 1) ∧ w.Plus w' := fun w =>
      (check_any a b s r p i q w).mono fun e w' ⟨⟨n, he, h⟩, hp⟩ => by
        rcases h with ⟨_, h⟩ | ⟨rfl, _⟩
        · exact absurd h hok
        · exact ⟨he, hp⟩
    have hR : ∀ w, Calls Try.prog 12 #[(Cfg.mk a b s r p i q).v] w fun e w' => e = .returned (.int .i64 1) ∧ w.Plus w' := fun w =>
      (refCheck_any a b s r p i q w).mono fun e w' ⟨⟨n, he, h⟩, hp⟩ => by
        rcases h with ⟨_, h⟩ | ⟨rfl, _⟩
        · exact absurd h hok
        · exact ⟨he, hp⟩
    have hN := fun w => new_bad a b s r p i q w hok
    unfold Cfg.v at *
    replace hC := Lib.hid hC
    replace hR := Lib.hid hR
    replace hN := Lib.hid hN
    clear hok
    go_enter Try.func3, Try.ntmps3
    go_wp2_with (first
      | (go_at_call 11; (with_reducible refine (hN.out _).mono ?_); rintro e w' ⟨rfl, e0, rfl⟩)
      | (go_at_call 13; (with_reducible refine (hC.out _).mono ?_); rintro e w' ⟨rfl, e1, rfl⟩)
      | (go_at_call 12; (with_reducible refine (hR.out _).mono ?_); rintro e w' ⟨rfl, e2, rfl⟩)
      | (go_at_call 14; (with_reducible refine (awake_any _).mono ?_); rintro e w' ⟨rfl, e3, rfl⟩))
    go_ret
    exact ⟨rfl, by (repeat (first | exact Plus.refl _ | apply Plus.plus | apply Plus.alloc | apply Plus.drew))⟩
theorem laidOut : laidOutB Try.prog = true := by kernel_rfl
theorem own : ownKnob Try.prog.godebug = none := by kernel_rfl
set_option maxRecDepth 100000 in
set_option maxHeartbeats 1000000 in
theorem lifted (os : Os) (started : os.Started) (H : Type) (enc : TypeId × Value → H) :
    ReturnsInHanded {} Try.checked os 3 .any (Rows.zonesMakesSpec.pre6 enc Try.prog Try.f3 Rows.zonesMakesRow.domain false) (Rows.zonesMakesSpec.post enc Try.prog Try.f3 false true false false) := by
  refine returnsInHanded_of_change_sized (C := Try.checked) own started (by kernel_rfl) Try.func3
    (ChangeSpec.witness6 (enc := enc) (C := Try.checked) false ⟨#[], #[.agg #[.int .i64 0, .int .i64 0, .int .i64 0, .int .i64 0, .int .i64 0, .int .i64 0, .int .i64 0]], []⟩ 8 (by kernel_rfl) (by kernel_rfl) (by kernel_rfl) (by kernel_rfl)) ?_
  intro W base args ds gs before hval0 hW hcnd hsz0 _
  have hval : ∀ (j : Nat) t v, Try.f3.params[j]? = some t → args[j]? = some v → Value.okWide Try.prog W .any base t v := hval0
  have hsz : (DataW.weightsEach Try.prog (Try.f3.params.toList ++ Rows.zonesMakesSpec.plain.varTypes Try.prog) (ds ++ gs)).all (· ≤ reachBytes) = true := hsz0
  have hW' : DataW.Whole enc Try.prog Try.f3.params.toList Rows.zonesMakesSpec.vars false W args.toList ds gs before := hW
  obtain ⟨p, q, hA0, hV, rfl, hfz, hnd⟩ := hW
  have hA : DataW.TrodAll enc Try.prog W 0 (fun _ => true) true Try.f3.params.toList args.toList ds p := hA0
  rw [Try.params3] at hA hval hsz
  obtain ⟨v0, vs0, d0, ds0, p0, q0, hargs, rfl, rfl, h0, r0⟩ := trodAll_cons hA
  obtain ⟨rfl, rfl, rfl⟩ := trodAll_nil r0
  obtain rfl : args = #[v0] := by cases args; simp_all
  obtain ⟨rfl, rfl⟩ := trodVars_none hV
  have light : ∀ (j : Nat) (t : TypeId) (d : DataW H), (Try.f3.params.toList ++ Rows.zonesMakesSpec.plain.varTypes Try.prog)[j]? = some t → ([d0] : List (DataW H))[j]? = some d → Light Try.prog t d := fun j t d hj hd m hm => by
    have h := List.all_eq_true.1 hsz m (DataW.weights_mem_each (j := j) (by rw [Try.params3] at hj; exact hj) (by simpa using hd) m hm)
    simpa using h
  obtain ⟨x0, c0, hh0, hv0⟩ := open_arg (n := 8) (ty := (.pair (.int .i64) (.pair (.int .i64) (.pair (.int .i64) (.pair (.int .i64) (.pair (.int .i64) (.pair (.int .i64) (.pair (.int .i64) .unit)))))))) (by kernel_rfl) (hval 0 _ v0 rfl rfl) h0 (light 0 _ _ rfl rfl)
  obtain ⟨hc0, wf0⟩ := hh0.flat rfl
  rw [hc0] at hv0
  obtain rfl : v0 = .agg #[.int .i64 x0.1, .int .i64 x0.2.1, .int .i64 x0.2.2.1, .int .i64 x0.2.2.2.1, .int .i64 x0.2.2.2.2.1, .int .i64 x0.2.2.2.2.2.1, .int .i64 x0.2.2.2.2.2.2.1] := hv0
  clear hc0 hh0 h0
  clear hA0 hval0 hval light hsz hsz0
  refine (walk _ _ _ _ _ _ _ W).mono fun e W' ⟨he, hp⟩ => ?_
  subst he
  exact ⟨_, rfl, post_true hW' rfl rfl rfl rfl laidOut (by kernel_rfl) rfl (by kernel_rfl) (Plus.below hp)⟩
theorem proved : Rows.ZonesMakesSaid :=
  OpenClaim.holds_of_wide 3 Try.f3 rfl rfl rfl rfl rfl rfl rfl ⟨rfl, rfl, rfl, rfl, rfl⟩ rfl rfl rfl rfl rfl (by kernel_rfl) Try.func3 (by kernel_rfl)
    (of_decide_eq_true (by kernel_rfl)) (by unfold Func.isWrapper; first | (rw [if_pos (by decide +kernel)]; kernel_rfl) | (rw [if_neg (by decide +kernel)]; exact ⟨rfl, rfl⟩))
    (fun os started H enc _ => lifted os started H enc)
end Go.Proofs.Yteaikedgbgdcnaa.lawZonesMakes
