/- ZonesPoints: any point lies in the zone, and is brought into the world, and is near the zones that the document says. For every input, no condition. -/
import Derived.Test.YteaikedgbgdcnaaRows
import Derived.Test.YteaikedgbgdcnaaZonesK
import Derived.Test.YteaikedgbgdcnaaLift
import Derived.ProofKit
set_option linter.unusedSimpArgs false
set_option linter.unusedVariables false
namespace Go.Proofs.Yteaikedgbgdcnaa.lawZonesPoints
open Go.ChangeShapes Go.WideShapes Go.ChangeAt Go.RowKit
set_option maxHeartbeats 2000000 in
theorem walk (a b s r p i q x y : Int) (w : World) : Calls Try.prog 4 #[(Cfg.mk a b s r p i q).v, .int .i64 x, .int .i64 y] w fun e w' => e = .returned (.bool true) ∧ w.Plus w' := by
  have hMay := fun w => may_any a b s r p i q w
  have hok := May_ok (Cfg.mk a b s r p i q)
  generalize May (Cfg.mk a b s r p i q) = C at *
  obtain ⟨a', b', s', r', p', i', q'⟩ := C
  have ho := hok.okk
  have hN := fun w => new_ok a' b' s' r' p' i' q' w hok
  have hI := fun k w hm => in_any a' b' s' r' k w x y ho hm
  have hIR := fun w => refIn_any a' b' s' r' w x y p' i' q' ho
  have hO := fun k w hm => of_any a' b' s' r' k w x y ho hm
  have hOR := fun w => refOf_any a' b' s' r' w x y p' i' q' ho
  have hE := fun k w hm => near_map a' b' s' r' k w x y ho hm
  have hER := fun w => refNear_any a' b' s' r' w x y p' i' q' ho
  have hlen := pick_len (nearI a' b' s' r' x y) (a' * b').toNat
  have hab := ho.ab
  have hlen2 : (pick (nearI a' b' s' r' x y) (a' * b').toNat).length ≤ 100 := by omega
  generalize pick (nearI a' b' s' r' x y) (a' * b').toNat = L at *
  have hS := fun w A B c d ha hb => same_any w L L A B c d hlen2 hlen2 ha hb rfl
  generalize ofI a' b' s' x y = o at *
  generalize inI x (a' * s') = u at *
  generalize inI y (b' * s') = v at *
  unfold Cfg.v at *
  replace hN := Lib.hid hN
  replace hI := Lib.hid hI
  replace hIR := Lib.hid hIR
  replace hO := Lib.hid hO
  replace hOR := Lib.hid hOR
  replace hE := Lib.hid hE
  replace hER := Lib.hid hER
  replace hS := Lib.hid hS
  replace hMay := Lib.hid hMay
  clear hok ho hlen hab
  go_enter Try.func4, Try.ntmps4
  go_wp2_with (first
    | (go_at_call 15; (with_reducible refine (hMay.out _).mono ?_); rintro e w' ⟨rfl, ex, rfl⟩)
    | (go_at_call 11; (with_reducible refine (hN.out _).mono ?_); rintro e w' ⟨n, rfl, hm, e0, rfl⟩)
    | (go_at_call 16; (with_reducible refine (hI.out _ _ (hm.plus (by (repeat (first | exact Plus.refl _ | apply Plus.plus | apply Plus.alloc | apply Plus.drew))))).mono ?_); rintro e w' ⟨rfl, e1, rfl⟩)
    | (go_at_call 17; (with_reducible refine (hIR.out _).mono ?_); rintro e w' ⟨rfl, e2, rfl⟩))
  go_region_held3 (fun w' => w'.cell? ⟨w.heap.size, 0, none⟩ = some (.int .i64 a') ∧ w'.cell? ⟨w.heap.size, 1, none⟩ = some (.int .i64 b') ∧ w'.cell? ⟨w.heap.size, 2, none⟩ = some (.int .i64 s') ∧ w'.cell? ⟨w.heap.size, 3, none⟩ = some (.int .i64 r') ∧ w'.cell? ⟨w.heap.size, 4, none⟩ = some (.int .i64 p') ∧ w'.cell? ⟨w.heap.size, 5, none⟩ = some (.int .i64 i') ∧ w'.cell? ⟨w.heap.size, 6, none⟩ = some (.int .i64 q')) (simp [go_sem]) (first
    | (go_at_call 18; (with_reducible refine (hO.out _ _ (hm.plus (by (repeat (first | exact Plus.refl _ | apply Plus.plus | apply Plus.alloc | apply Plus.drew))))).mono ?_); rintro e w' ⟨rfl, e3, rfl⟩)
    | (go_at_call 19; (with_reducible refine (hOR.out _).mono ?_); rintro e w' ⟨rfl, e4, rfl⟩)
    | (go_at_call 21; (with_reducible refine (hE.out _ _ (hm.plus (by (repeat (first | exact Plus.refl _ | apply Plus.plus | apply Plus.alloc | apply Plus.drew))))).mono ?_); rintro e w' ⟨A1, c1, rfl, hr1, e5, rfl⟩)
    | (go_at_call 22; (with_reducible refine (hER.out _).mono ?_); rintro e w' ⟨A2, c2, rfl, hr2, e6, rfl⟩)
    | (go_at_call 20; (with_reducible refine (hS.out _ _ _ _ _ (hr1.plus (by (repeat (first | exact Plus.refl _ | apply Plus.plus | apply Plus.alloc | apply Plus.drew)))) (hr2.plus (by (repeat (first | exact Plus.refl _ | apply Plus.plus | apply Plus.alloc | apply Plus.drew))))).mono ?_); rintro e w' ⟨rfl, e7, rfl⟩)
    | (go_at_call 14; (with_reducible refine (awake_any _).mono ?_); rintro e w' ⟨rfl, e8, rfl⟩))
  all_goals go_wp2_with fail
  all_goals go_ret
  all_goals exact ⟨rfl, by (repeat (first | exact Plus.refl _ | apply Plus.plus | apply Plus.alloc | apply Plus.drew))⟩
theorem laidOut : laidOutB Try.prog = true := by kernel_rfl
theorem own : ownKnob Try.prog.godebug = none := by kernel_rfl
set_option maxRecDepth 100000 in
set_option maxHeartbeats 1000000 in
theorem lifted (os : Os) (started : os.Started) (H : Type) (enc : TypeId × Value → H) :
    ReturnsInHanded {} Try.checked os 4 .any (Rows.zonesPointsSpec.pre6 enc Try.prog Try.f4 Rows.zonesPointsRow.domain false) (Rows.zonesPointsSpec.post enc Try.prog Try.f4 false true false false) := by
  refine returnsInHanded_of_change_sized (C := Try.checked) own started (by kernel_rfl) Try.func4
    (ChangeSpec.witness6 (enc := enc) (C := Try.checked) false ⟨#[], #[.agg #[.int .i64 0, .int .i64 0, .int .i64 0, .int .i64 0, .int .i64 0, .int .i64 0, .int .i64 0], .int .i64 0, .int .i64 0], []⟩ 8 (by kernel_rfl) (by kernel_rfl) (by kernel_rfl) (by kernel_rfl)) ?_
  intro W base args ds gs before hval0 hW hcnd hsz0 _
  have hval : ∀ (j : Nat) t v, Try.f4.params[j]? = some t → args[j]? = some v → Value.okWide Try.prog W .any base t v := hval0
  have hsz : (DataW.weightsEach Try.prog (Try.f4.params.toList ++ Rows.zonesPointsSpec.plain.varTypes Try.prog) (ds ++ gs)).all (· ≤ reachBytes) = true := hsz0
  have hW' : DataW.Whole enc Try.prog Try.f4.params.toList Rows.zonesPointsSpec.vars false W args.toList ds gs before := hW
  obtain ⟨p, q, hA0, hV, rfl, hfz, hnd⟩ := hW
  have hA : DataW.TrodAll enc Try.prog W 0 (fun _ => true) true Try.f4.params.toList args.toList ds p := hA0
  rw [Try.params4] at hA hval hsz
  obtain ⟨v0, vs0, d0, ds0, p0, q0, hargs, rfl, rfl, h0, r0⟩ := trodAll_cons hA
  obtain ⟨v1, vs1, d1, ds1, p1, q1, rfl, rfl, rfl, h1, r1⟩ := trodAll_cons r0
  obtain ⟨v2, vs2, d2, ds2, p2, q2, rfl, rfl, rfl, h2, r2⟩ := trodAll_cons r1
  obtain ⟨rfl, rfl, rfl⟩ := trodAll_nil r2
  obtain rfl : args = #[v0, v1, v2] := by cases args; simp_all
  obtain ⟨rfl, rfl⟩ := trodVars_none hV
  have light : ∀ (j : Nat) (t : TypeId) (d : DataW H), (Try.f4.params.toList ++ Rows.zonesPointsSpec.plain.varTypes Try.prog)[j]? = some t → ([d0, d1, d2] : List (DataW H))[j]? = some d → Light Try.prog t d := fun j t d hj hd m hm => by
    have h := List.all_eq_true.1 hsz m (DataW.weights_mem_each (j := j) (by rw [Try.params4] at hj; exact hj) (by simpa using hd) m hm)
    simpa using h
  obtain ⟨x0, c0, hh0, hv0⟩ := open_arg (n := 8) (ty := (.pair (.int .i64) (.pair (.int .i64) (.pair (.int .i64) (.pair (.int .i64) (.pair (.int .i64) (.pair (.int .i64) (.pair (.int .i64) .unit)))))))) (by kernel_rfl) (hval 0 _ v0 rfl rfl) h0 (light 0 _ _ rfl rfl)
  obtain ⟨hc0, wf0⟩ := hh0.flat rfl
  rw [hc0] at hv0
  obtain rfl : v0 = .agg #[.int .i64 x0.1, .int .i64 x0.2.1, .int .i64 x0.2.2.1, .int .i64 x0.2.2.2.1, .int .i64 x0.2.2.2.2.1, .int .i64 x0.2.2.2.2.2.1, .int .i64 x0.2.2.2.2.2.2.1] := hv0
  clear hc0 hh0 h0
  obtain ⟨x1, c1, hh1, hv1⟩ := open_arg (n := 8) (ty := (.int .i64)) (by kernel_rfl) (hval 1 _ v1 rfl rfl) h1 (light 1 _ _ rfl rfl)
  obtain ⟨hc1, wf1⟩ := hh1.flat rfl
  rw [hc1] at hv1
  obtain rfl : v1 = .int .i64 x1 := (List.cons.inj hv1).1.symm
  clear hc1 hh1 h1
  obtain ⟨x2, c2, hh2, hv2⟩ := open_arg (n := 8) (ty := (.int .i64)) (by kernel_rfl) (hval 2 _ v2 rfl rfl) h2 (light 2 _ _ rfl rfl)
  obtain ⟨hc2, wf2⟩ := hh2.flat rfl
  rw [hc2] at hv2
  obtain rfl : v2 = .int .i64 x2 := (List.cons.inj hv2).1.symm
  clear hc2 hh2 h2
  clear hA0 hval0 hval light hsz hsz0
  refine (walk _ _ _ _ _ _ _ _ _ W).mono fun e W' ⟨he, hp⟩ => ?_
  subst he
  exact ⟨_, rfl, post_true hW' rfl rfl rfl rfl laidOut (by kernel_rfl) rfl (by kernel_rfl) (Plus.below hp)⟩
theorem proved : Rows.ZonesPointsSaid :=
  OpenClaim.holds_of_wide 4 Try.f4 rfl rfl rfl rfl rfl rfl rfl ⟨rfl, rfl, rfl, rfl, rfl⟩ rfl rfl rfl rfl rfl (by kernel_rfl) Try.func4 (by kernel_rfl)
    (of_decide_eq_true (by kernel_rfl)) (by unfold Func.isWrapper; first | (rw [if_pos (by decide +kernel)]; kernel_rfl) | (rw [if_neg (by decide +kernel)]; exact ⟨rfl, rfl⟩))
    (fun os started H enc _ => lifted os started H enc)
end Go.Proofs.Yteaikedgbgdcnaa.lawZonesPoints
