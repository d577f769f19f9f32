/- ZonesZones: any zone of any world has the document's rectangle, and all of them make the world. For every input, no condition. -/
import Derived.Test.YteaikedgbgdcnaaRows
import Derived.Test.YteaikedgbgdcnaaZonesK
import Derived.Test.YteaikedgbgdcnaaLift
import Derived.ProofKit
set_option linter.unusedSimpArgs false
set_option linter.unusedVariables false
namespace Go.Proofs.Yteaikedgbgdcnaa.lawZonesZones
open Go.ChangeShapes Go.WideShapes Go.ChangeAt Go.RowKit
theorem walk (a b s r p i q k : Int) (w : World) : Calls Try.prog 8 #[(Cfg.mk a b s r p i q).v, .int .i64 k] w fun e w' => e = .returned (.bool true) ∧ w.Plus w' := by
  have hMay := fun w => may_any a b s r p i q w
  have hok := May_ok (Cfg.mk a b s r p i q)
  generalize May (Cfg.mk a b s r p i q) = C at *
  obtain ⟨a', b', s', r', p', i', q'⟩ := C
  have ho := hok.okk
  have hN := fun w => new_ok a' b' s' r' p' i' q' w hok
  have hC := fun k w hm => count_any a' b' s' r' k w ho hm
  have hW := fun k w hm => world_any a' b' s' r' k w ho hm
  have hZ := fun n w hm => zone_any a' b' s' r' n w k ho hm
  have hZR := fun w => refZone_any a' b' s' r' w k p' i' q' ho
  have h1 := ho.as
  have h2 := ho.bs
  have h3 := ho.ab
  have g1 : IntKind.i64.wrap (a' * s') = a' * s' := iw_id (by omega) (by omega)
  have g2 : IntKind.i64.wrap (b' * s') = b' * s' := iw_id (by omega) (by omega)
  have g3 : IntKind.i64.wrap (a' * b') = a' * b' := iw_id (by omega) (by omega)
  have g4 : wrap64 (a' * s') = a' * s' := w64_id (by omega) (by omega)
  have g5 : wrap64 (b' * s') = b' * s' := w64_id (by omega) (by omega)
  have g6 : wrap64 (a' * b') = a' * b' := w64_id (by omega) (by omega)
  generalize zoneI a' b' s' k = z at *
  obtain ⟨z0, z1, z2, z3⟩ := z
  unfold Cfg.v at *
  replace hC := Lib.hid hC
  replace hW := Lib.hid hW
  replace hN := Lib.hid hN
  replace hZ := Lib.hid hZ
  replace hZR := Lib.hid hZR
  replace hMay := Lib.hid hMay
  clear hok ho h1 h2 h3
  go_enter Try.func8, Try.ntmps8
  go_wp2_with (first
    | (go_at_call 15; (with_reducible refine (hMay.out _).mono ?_); rintro e w' ⟨rfl, ex, rfl⟩)
    | (go_at_call 11; (with_reducible refine (hN.out _).mono ?_); rintro e w' ⟨n, rfl, hm, e0, rfl⟩)
    | (go_at_call 27; (with_reducible refine (hC.out _ _ (hm.plus (by (repeat (first | exact Plus.refl _ | apply Plus.plus | apply Plus.alloc | apply Plus.drew))))).mono ?_); rintro e w' ⟨rfl, e1, rfl⟩)
    | (go_at_call 30; (with_reducible refine (hW.out _ _ (hm.plus (by (repeat (first | exact Plus.refl _ | apply Plus.plus | apply Plus.alloc | apply Plus.drew))))).mono ?_); rintro e w' ⟨rfl, e2, rfl⟩)
    | (go_at_call 29; (with_reducible refine (hZ.out _ _ (hm.plus (by (repeat (first | exact Plus.refl _ | apply Plus.plus | apply Plus.alloc | apply Plus.drew))))).mono ?_); rintro e w' ⟨rfl, e2, rfl⟩)
    | (go_at_call 31; (with_reducible refine (hZR.out _).mono ?_); rintro e w' ⟨rfl, e2, rfl⟩)
    | (go_at_call 14; (with_reducible refine (awake_any _).mono ?_); rintro e w' ⟨rfl, e3, rfl⟩))
  refine wp_region_grow (by kernel_rfl) (by kernel_rfl) ?_
  repeat (go_big_quiet_step ((first | (go_at_call 27; exact Calls.plus_of (hC.out _ _ (hm.plus (by (repeat (first | exact Plus.refl _ | apply Plus.plus | apply Plus.alloc | apply Plus.drew)))))) | (go_at_call 30; exact Calls.plus_of (hW.out _ _ (hm.plus (by (repeat (first | exact Plus.refl _ | apply Plus.plus | apply Plus.alloc | apply Plus.drew)))))) | (go_at_call 29; exact Calls.plus_of (hZ.out _ _ (hm.plus (by (repeat (first | exact Plus.refl _ | apply Plus.plus | apply Plus.alloc | apply Plus.drew)))))) | (go_at_call 31; exact Calls.plus_of (hZR.out _)) | (go_at_call 14; exact Calls.plus_of (awake_any _)))))
  refine wpQuiet_nil ?_
  intro ex
  go_wp2_with fail
  go_ret
  exact ⟨rfl, by (repeat (first | exact Plus.refl _ | apply Plus.plus | apply Plus.alloc | apply Plus.drew))⟩
theorem laidOut : laidOutB Try.prog = true := by kernel_rfl
theorem own : ownKnob Try.prog.godebug = none := by kernel_rfl
set_option maxRecDepth 100000 in
set_option maxHeartbeats 1000000 in
theorem lifted (os : Os) (started : os.Started) (H : Type) (enc : TypeId × Value → H) :
    ReturnsInHanded {} Try.checked os 8 .any (Rows.zonesZonesSpec.pre6 enc Try.prog Try.f8 Rows.zonesZonesRow.domain false) (Rows.zonesZonesSpec.post enc Try.prog Try.f8 false true false false) := by
  refine returnsInHanded_of_change_sized (C := Try.checked) own started (by kernel_rfl) Try.func8
    (ChangeSpec.witness6 (enc := enc) (C := Try.checked) false ⟨#[], #[.agg #[.int .i64 0, .int .i64 0, .int .i64 0, .int .i64 0, .int .i64 0, .int .i64 0, .int .i64 0], .int .i64 0], []⟩ 8 (by kernel_rfl) (by kernel_rfl) (by kernel_rfl) (by kernel_rfl)) ?_
  intro W base args ds gs before hval0 hW hcnd hsz0 _
  have hval : ∀ (j : Nat) t v, Try.f8.params[j]? = some t → args[j]? = some v → Value.okWide Try.prog W .any base t v := hval0
  have hsz : (DataW.weightsEach Try.prog (Try.f8.params.toList ++ Rows.zonesZonesSpec.plain.varTypes Try.prog) (ds ++ gs)).all (· ≤ reachBytes) = true := hsz0
  have hW' : DataW.Whole enc Try.prog Try.f8.params.toList Rows.zonesZonesSpec.vars false W args.toList ds gs before := hW
  obtain ⟨p, q, hA0, hV, rfl, hfz, hnd⟩ := hW
  have hA : DataW.TrodAll enc Try.prog W 0 (fun _ => true) true Try.f8.params.toList args.toList ds p := hA0
  rw [Try.params8] at hA hval hsz
  obtain ⟨v0, vs0, d0, ds0, p0, q0, hargs, rfl, rfl, h0, r0⟩ := trodAll_cons hA
  obtain ⟨v1, vs1, d1, ds1, p1, q1, rfl, rfl, rfl, h1, r1⟩ := trodAll_cons r0
  obtain ⟨rfl, rfl, rfl⟩ := trodAll_nil r1
  obtain rfl : args = #[v0, v1] := by cases args; simp_all
  obtain ⟨rfl, rfl⟩ := trodVars_none hV
  have light : ∀ (j : Nat) (t : TypeId) (d : DataW H), (Try.f8.params.toList ++ Rows.zonesZonesSpec.plain.varTypes Try.prog)[j]? = some t → ([d0, d1] : List (DataW H))[j]? = some d → Light Try.prog t d := fun j t d hj hd m hm => by
    have h := List.all_eq_true.1 hsz m (DataW.weights_mem_each (j := j) (by rw [Try.params8] at hj; exact hj) (by simpa using hd) m hm)
    simpa using h
  obtain ⟨x0, c0, hh0, hv0⟩ := open_arg (n := 8) (ty := (.pair (.int .i64) (.pair (.int .i64) (.pair (.int .i64) (.pair (.int .i64) (.pair (.int .i64) (.pair (.int .i64) (.pair (.int .i64) .unit)))))))) (by kernel_rfl) (hval 0 _ v0 rfl rfl) h0 (light 0 _ _ rfl rfl)
  obtain ⟨hc0, wf0⟩ := hh0.flat rfl
  rw [hc0] at hv0
  obtain rfl : v0 = .agg #[.int .i64 x0.1, .int .i64 x0.2.1, .int .i64 x0.2.2.1, .int .i64 x0.2.2.2.1, .int .i64 x0.2.2.2.2.1, .int .i64 x0.2.2.2.2.2.1, .int .i64 x0.2.2.2.2.2.2.1] := hv0
  clear hc0 hh0 h0
  obtain ⟨x1, c1, hh1, hv1⟩ := open_arg (n := 8) (ty := (.int .i64)) (by kernel_rfl) (hval 1 _ v1 rfl rfl) h1 (light 1 _ _ rfl rfl)
  obtain ⟨hc1, wf1⟩ := hh1.flat rfl
  rw [hc1] at hv1
  obtain rfl : v1 = .int .i64 x1 := (List.cons.inj hv1).1.symm
  clear hc1 hh1 h1
  clear hA0 hval0 hval light hsz hsz0
  refine (walk _ _ _ _ _ _ _ _ W).mono fun e W' ⟨he, hp⟩ => ?_
  subst he
  exact ⟨_, rfl, post_true hW' rfl rfl rfl rfl laidOut (by kernel_rfl) rfl (by kernel_rfl) (Plus.below hp)⟩
theorem proved : Rows.ZonesZonesSaid :=
  OpenClaim.holds_of_wide 8 Try.f8 rfl rfl rfl rfl rfl rfl rfl ⟨rfl, rfl, rfl, rfl, rfl⟩ rfl rfl rfl rfl rfl (by kernel_rfl) Try.func8 (by kernel_rfl)
    (of_decide_eq_true (by kernel_rfl)) (by unfold Func.isWrapper; first | (rw [if_pos (by decide +kernel)]; kernel_rfl) | (rw [if_neg (by decide +kernel)]; exact ⟨rfl, rfl⟩))
    (fun os started H enc _ => lifted os started H enc)
end Go.Proofs.Yteaikedgbgdcnaa.lawZonesZones
