/- ZonesCovers: each point of the world lies in one zone's rectangle alone, that of its zone; each other point in none. For every input, no condition. -/
import Derived.Test.YteaikedgbgdcnaaRows
import Derived.Test.YteaikedgbgdcnaaZonesK
import Derived.Test.YteaikedgbgdcnaaLift
import Derived.ProofKit
set_option linter.unusedSimpArgs false
set_option linter.unusedVariables false
namespace Go.Proofs.Yteaikedgbgdcnaa.lawZonesCovers
open Go.ChangeShapes Go.WideShapes Go.ChangeAt Go.RowKit
theorem walk (a b s r p i q x y : Int) (w : World) : Calls Try.prog 9 #[(Cfg.mk a b s r p i q).v, .int .i64 x, .int .i64 y] w fun e w' => e = .returned (.bool true) ∧ w.Plus w' := by
  have hMay := fun w => may_any a b s r p i q w
  have hok := May_ok (Cfg.mk a b s r p i q)
  generalize May (Cfg.mk a b s r p i q) = C at *
  obtain ⟨a', b', s', r', p', i', q'⟩ := C
  have ho := hok.okk
  have hN := fun w => new_ok a' b' s' r' p' i' q' w hok
  have hC := fun k w hm => count_any a' b' s' r' k w ho hm
  have hW := fun k w hm => world_any a' b' s' r' k w ho hm
  have hZ := fun n k w hm => zone_any a' b' s' r' n w k ho hm
  have hO := fun k w hm => of_any a' b' s' r' k w x y ho hm
  have hHW := fun w => hasW w (a' * s') (b' * s') x y ho.as ho.bs
  have hor := of_range ho x y
  have hneg := of_neg ho x y
  have hab := ho.ab
  have hG : ∀ j : Int, 0 ≤ j → j < a' * b' → ∀ w, Calls Try.prog 32 #[(zoneI a' b' s' j).v, .int .i64 x, .int .i64 y] w fun e w' => e = .returned (.bool (decide (ofI a' b' s' x y = j))) ∧ w.Plus w' := fun j h0 h1 w =>
    (has_any _ _ _ _ x y w).mono fun e w' ⟨he, hp⟩ => ⟨by rw [he]; exact ret_bool (by rw [decide_eq_decide]; exact zone_gap ho x y j h0 h1), hp⟩
  generalize hm1 : a' * b' = m at *
  generalize ofI a' b' s' x y = o at *
  rw [show decide (0 ≤ x ∧ x < a' * s' ∧ 0 ≤ y ∧ y < b' * s') = decide (¬ o = -1) by rw [decide_eq_decide]; omega] at hHW
  unfold Cfg.v at *
  replace hC := Lib.hid hC
  replace hW := Lib.hid hW
  replace hN := Lib.hid hN
  replace hZ := Lib.hid hZ
  replace hO := Lib.hid hO
  replace hG := Lib.hid hG
  replace hHW := Lib.hid hHW
  replace hMay := Lib.hid hMay
  replace hor := Lib.hid hor
  clear hok ho hm1 hneg
  go_enter Try.func9, Try.ntmps9
  go_wp2_with (first
    | (go_at_call 15; (with_reducible refine (hMay.out _).mono ?_); rintro e w' ⟨rfl, ex, rfl⟩)
    | (go_at_call 11; (with_reducible refine (hN.out _).mono ?_); rintro e w' ⟨n, rfl, hm, e0, rfl⟩)
    | (go_at_call 18; (with_reducible refine (hO.out _ _ (hm.plus (by (repeat (first | exact Plus.refl _ | apply Plus.plus | apply Plus.alloc | apply Plus.drew))))).mono ?_); rintro e w' ⟨rfl, e1, rfl⟩))
  go_loopw [9, 11] (fun v9 v11 wr => ∃ j c : Int, 0 ≤ j ∧ j ≤ m ∧ v11 = .int .i64 j ∧ v9 = .int .i64 c ∧ (c = 1 ∧ 0 ≤ o ∧ o < j ∨ c = 0 ∧ ¬ (0 ≤ o ∧ o < j)) ∧ MapAt wr n a' b' s' r' ∧ w.Plus wr) (fun _ v11 _ => (m - intOf v11).toNat)
  case atStart => exact ⟨0, 0, by omega, by omega, rfl, rfl, by omega, hm.plus (by (repeat (first | exact Plus.refl _ | apply Plus.plus | apply Plus.alloc | apply Plus.drew))), by (repeat (first | exact Plus.refl _ | apply Plus.plus | apply Plus.alloc | apply Plus.drew))⟩
  case round =>
    obtain ⟨j, c, j0, j1, rfl, rfl, hc, hmr, e2, rfl⟩ := hrel
    by_cases hlt : j < m
    · have hGj := hG.out j j0 hlt
      have hZj := hZ.out n j
      generalize zoneI a' b' s' j = z at hGj hZj
      obtain ⟨z0, z1, z2, z3⟩ := z
      replace hZj := Lib.hid hZj
      by_cases hj : o = j
      · rw [show decide (o = j) = true by simpa using hj] at hGj
        obtain rfl : c = 0 := by omega
        replace hGj := Lib.hid hGj
        replace hc := Lib.hid hc
        subst hj
        go_wp2_with (first
          | (go_at_call 27; (with_reducible refine (hC.out _ _ (hmr.plus (by (repeat (first | exact Plus.refl _ | apply Plus.plus | apply Plus.alloc | apply Plus.drew))))).mono ?_); rintro e w' ⟨rfl, e3, rfl⟩)
          | (go_at_call 29; (with_reducible refine (hZj.out _ (hmr.plus (by (repeat (first | exact Plus.refl _ | apply Plus.plus | apply Plus.alloc | apply Plus.drew))))).mono ?_); rintro e w' ⟨rfl, e4, rfl⟩)
          | (go_at_call 32; (with_reducible refine (hGj.out _).mono ?_); rintro e w' ⟨rfl, e5, rfl⟩))
        go_roundw
        case rel => exact ⟨o + 1, 1, by omega, by omega, by go_num, rfl, .inl ⟨rfl, j0, by omega⟩, hmr.plus (by (repeat (first | exact Plus.refl _ | apply Plus.plus | apply Plus.alloc | apply Plus.drew))), by (repeat (first | exact Plus.refl _ | apply Plus.plus | apply Plus.alloc | apply Plus.drew))⟩
        case measure => simp [intOf]; omega
      · rw [show decide (o = j) = false by simpa using hj] at hGj
        have hc2 : c = 1 ∧ 0 ≤ o ∧ o < j + 1 ∨ c = 0 ∧ ¬ (0 ≤ o ∧ o < j + 1) := by omega
        replace hGj := Lib.hid hGj
        replace hc := Lib.hid hc
        replace hc2 := Lib.hid hc2
        go_wp2_with (first
          | (go_at_call 27; (with_reducible refine (hC.out _ _ (hmr.plus (by (repeat (first | exact Plus.refl _ | apply Plus.plus | apply Plus.alloc | apply Plus.drew))))).mono ?_); rintro e w' ⟨rfl, e3, rfl⟩)
          | (go_at_call 29; (with_reducible refine (hZj.out _ (hmr.plus (by (repeat (first | exact Plus.refl _ | apply Plus.plus | apply Plus.alloc | apply Plus.drew))))).mono ?_); rintro e w' ⟨rfl, e4, rfl⟩)
          | (go_at_call 32; (with_reducible refine (hGj.out _).mono ?_); rintro e w' ⟨rfl, e5, rfl⟩))
        go_roundw
        case rel => exact ⟨j + 1, c, by omega, by omega, by go_num, rfl, hc2.out, hmr.plus (by (repeat (first | exact Plus.refl _ | apply Plus.plus | apply Plus.alloc | apply Plus.drew))), by (repeat (first | exact Plus.refl _ | apply Plus.plus | apply Plus.alloc | apply Plus.drew))⟩
        case measure => simp [intOf]; omega
    · have hjm : j = m := by omega
      subst hjm
      have ho2 := hor.out
      by_cases hon : o = -1
      · rw [show decide (¬ o = -1) = false by simpa using hon] at hHW
        obtain rfl : c = 0 := by omega
        subst hon
        clear hc ho2
        go_wp2_with (first
          | (go_at_call 27; (with_reducible refine (hC.out _ _ (hmr.plus (by (repeat (first | exact Plus.refl _ | apply Plus.plus | apply Plus.alloc | apply Plus.drew))))).mono ?_); rintro e w' ⟨rfl, e3, rfl⟩)
          | (go_at_call 30; (with_reducible refine (hW.out _ _ (hmr.plus (by (repeat (first | exact Plus.refl _ | apply Plus.plus | apply Plus.alloc | apply Plus.drew))))).mono ?_); rintro e w' ⟨rfl, e4, rfl⟩)
          | (go_at_call 32; (with_reducible refine (hHW.out _).mono ?_); rintro e w' ⟨rfl, e5, rfl⟩)
          | (go_at_call 14; (with_reducible refine (awake_any _).mono ?_); rintro e w' ⟨rfl, e6, rfl⟩))
        go_ret
        exact ⟨rfl, by (repeat (first | exact Plus.refl _ | apply Plus.plus | apply Plus.alloc | apply Plus.drew))⟩
      · rw [show decide (¬ o = -1) = true by simpa using hon] at hHW
        obtain rfl : c = 1 := by omega
        have hon2 : (o == -1) = false := by simpa using hon
        have hon3 : decide (o = -1) = false := by simpa using hon
        clear hc ho2
        go_wp2_with (first
          | (go_at_call 27; (with_reducible refine (hC.out _ _ (hmr.plus (by (repeat (first | exact Plus.refl _ | apply Plus.plus | apply Plus.alloc | apply Plus.drew))))).mono ?_); rintro e w' ⟨rfl, e3, rfl⟩)
          | (go_at_call 30; (with_reducible refine (hW.out _ _ (hmr.plus (by (repeat (first | exact Plus.refl _ | apply Plus.plus | apply Plus.alloc | apply Plus.drew))))).mono ?_); rintro e w' ⟨rfl, e4, rfl⟩)
          | (go_at_call 32; (with_reducible refine (hHW.out _).mono ?_); rintro e w' ⟨rfl, e5, rfl⟩)
          | (go_at_call 14; (with_reducible refine (awake_any _).mono ?_); rintro e w' ⟨rfl, e6, rfl⟩))
        go_ret
        exact ⟨rfl, by (repeat (first | exact Plus.refl _ | apply Plus.plus | apply Plus.alloc | apply Plus.drew))⟩
theorem laidOut : laidOutB Try.prog = true := by kernel_rfl
theorem own : ownKnob Try.prog.godebug = none := by kernel_rfl
set_option maxRecDepth 100000 in
set_option maxHeartbeats 1000000 in
theorem lifted (os : Os) (started : os.Started) (H : Type) (enc : TypeId × Value → H) :
    ReturnsInHanded {} Try.checked os 9 .any (Rows.zonesCoversSpec.pre6 enc Try.prog Try.f9 Rows.zonesCoversRow.domain false) (Rows.zonesCoversSpec.post enc Try.prog Try.f9 false true false false) := by
  refine returnsInHanded_of_change_sized (C := Try.checked) own started (by kernel_rfl) Try.func9
    (ChangeSpec.witness6 (enc := enc) (C := Try.checked) false ⟨#[], #[.agg #[.int .i64 0, .int .i64 0, .int .i64 0, .int .i64 0, .int .i64 0, .int .i64 0, .int .i64 0], .int .i64 0, .int .i64 0], []⟩ 8 (by kernel_rfl) (by kernel_rfl) (by kernel_rfl) (by kernel_rfl)) ?_
  intro W base args ds gs before hval0 hW hcnd hsz0 _
  have hval : ∀ (j : Nat) t v, Try.f9.params[j]? = some t → args[j]? = some v → Value.okWide Try.prog W .any base t v := hval0
  have hsz : (DataW.weightsEach Try.prog (Try.f9.params.toList ++ Rows.zonesCoversSpec.plain.varTypes Try.prog) (ds ++ gs)).all (· ≤ reachBytes) = true := hsz0
  have hW' : DataW.Whole enc Try.prog Try.f9.params.toList Rows.zonesCoversSpec.vars false W args.toList ds gs before := hW
  obtain ⟨p, q, hA0, hV, rfl, hfz, hnd⟩ := hW
  have hA : DataW.TrodAll enc Try.prog W 0 (fun _ => true) true Try.f9.params.toList args.toList ds p := hA0
  rw [Try.params9] at hA hval hsz
  obtain ⟨v0, vs0, d0, ds0, p0, q0, hargs, rfl, rfl, h0, r0⟩ := trodAll_cons hA
  obtain ⟨v1, vs1, d1, ds1, p1, q1, rfl, rfl, rfl, h1, r1⟩ := trodAll_cons r0
  obtain ⟨v2, vs2, d2, ds2, p2, q2, rfl, rfl, rfl, h2, r2⟩ := trodAll_cons r1
  obtain ⟨rfl, rfl, rfl⟩ := trodAll_nil r2
  obtain rfl : args = #[v0, v1, v2] := by cases args; simp_all
  obtain ⟨rfl, rfl⟩ := trodVars_none hV
  have light : ∀ (j : Nat) (t : TypeId) (d : DataW H), (Try.f9.params.toList ++ Rows.zonesCoversSpec.plain.varTypes Try.prog)[j]? = some t → ([d0, d1, d2] : List (DataW H))[j]? = some d → Light Try.prog t d := fun j t d hj hd m hm => by
    have h := List.all_eq_true.1 hsz m (DataW.weights_mem_each (j := j) (by rw [Try.params9] at hj; exact hj) (by simpa using hd) m hm)
    simpa using h
  obtain ⟨x0, c0, hh0, hv0⟩ := open_arg (n := 8) (ty := (.pair (.int .i64) (.pair (.int .i64) (.pair (.int .i64) (.pair (.int .i64) (.pair (.int .i64) (.pair (.int .i64) (.pair (.int .i64) .unit)))))))) (by kernel_rfl) (hval 0 _ v0 rfl rfl) h0 (light 0 _ _ rfl rfl)
  obtain ⟨hc0, wf0⟩ := hh0.flat rfl
  rw [hc0] at hv0
  obtain rfl : v0 = .agg #[.int .i64 x0.1, .int .i64 x0.2.1, .int .i64 x0.2.2.1, .int .i64 x0.2.2.2.1, .int .i64 x0.2.2.2.2.1, .int .i64 x0.2.2.2.2.2.1, .int .i64 x0.2.2.2.2.2.2.1] := hv0
  clear hc0 hh0 h0
  obtain ⟨x1, c1, hh1, hv1⟩ := open_arg (n := 8) (ty := (.int .i64)) (by kernel_rfl) (hval 1 _ v1 rfl rfl) h1 (light 1 _ _ rfl rfl)
  obtain ⟨hc1, wf1⟩ := hh1.flat rfl
  rw [hc1] at hv1
  obtain rfl : v1 = .int .i64 x1 := (List.cons.inj hv1).1.symm
  clear hc1 hh1 h1
  obtain ⟨x2, c2, hh2, hv2⟩ := open_arg (n := 8) (ty := (.int .i64)) (by kernel_rfl) (hval 2 _ v2 rfl rfl) h2 (light 2 _ _ rfl rfl)
  obtain ⟨hc2, wf2⟩ := hh2.flat rfl
  rw [hc2] at hv2
  obtain rfl : v2 = .int .i64 x2 := (List.cons.inj hv2).1.symm
  clear hc2 hh2 h2
  clear hA0 hval0 hval light hsz hsz0
  refine (walk _ _ _ _ _ _ _ _ _ W).mono fun e W' ⟨he, hp⟩ => ?_
  subst he
  exact ⟨_, rfl, post_true hW' rfl rfl rfl rfl laidOut (by kernel_rfl) rfl (by kernel_rfl) (Plus.below hp)⟩
theorem proved : Rows.ZonesCoversSaid :=
  OpenClaim.holds_of_wide 9 Try.f9 rfl rfl rfl rfl rfl rfl rfl ⟨rfl, rfl, rfl, rfl, rfl⟩ rfl rfl rfl rfl rfl (by kernel_rfl) Try.func9 (by kernel_rfl)
    (of_decide_eq_true (by kernel_rfl)) (by unfold Func.isWrapper; first | (rw [if_pos (by decide +kernel)]; kernel_rfl) | (rw [if_neg (by decide +kernel)]; exact ⟨rfl, rfl⟩))
    (fun os started H enc _ => lifted os started H enc)
end Go.Proofs.Yteaikedgbgdcnaa.lawZonesCovers
