/- ZonesNear: the zones that a point is near to lie beside its own one, and are just those that lie at most Radius apart from it. For every input, no condition. -/
import Derived.Test.YteaikedgbgdcnaaRows
import Derived.Test.YteaikedgbgdcnaaZonesK
import Derived.Test.YteaikedgbgdcnaaLift
import Derived.ProofKit
set_option linter.unusedSimpArgs false
set_option linter.unusedVariables false
namespace Go.Proofs.Yteaikedgbgdcnaa.lawZonesNear
open Go.ChangeShapes Go.WideShapes Go.ChangeAt Go.RowKit
theorem pick_sorted (P : Int → Bool) (m : Nat) : (pick P m).Pairwise (· < ·) := by
  unfold pick
  rw [List.pairwise_map]
  refine ((List.pairwise_lt_range (n := m)).filter _).imp fun {i j} h => ?_
  omega
theorem pick_rise (P : Int → Bool) (m j : Nat) (h0 : 1 ≤ j) (h : j < (pick P m).length) : (pick P m).getD (j - 1) 0 < (pick P m).getD j 0 := by
  have := List.pairwise_iff_getElem.1 (pick_sorted P m) (j - 1) j (by omega) h (by omega)
  simpa [List.getD, h, show j - 1 < (pick P m).length by omega] using this
set_option maxHeartbeats 2000000 in
theorem walk (a b s r p i q x y : Int) (w : World) : Calls Try.prog 7 #[(Cfg.mk a b s r p i q).v, .int .i64 x, .int .i64 y] w fun e w' => e = .returned (.bool true) ∧ w.Plus w' := by
  have hMay := fun w => may_any a b s r p i q w
  have hok := May_ok (Cfg.mk a b s r p i q)
  generalize May (Cfg.mk a b s r p i q) = C at *
  obtain ⟨a', b', s', r', p', i', q'⟩ := C
  have ho := hok.okk
  have hN := fun w => new_ok a' b' s' r' p' i' q' w hok
  have hO := fun k w hm => of_any a' b' s' r' k w x y ho hm
  have hC := fun k w hm => count_any a' b' s' r' k w ho hm
  have hE := fun k w hm => near_map a' b' s' r' k w x y ho hm
  have hZ := fun n k w hm => zone_any a' b' s' r' n w k ho hm
  have hor := of_range ho x y
  have hab := ho.ab
  have hBs := fun n w hm => beside_any a' b' s' r' n w (ofI a' b' s' x y) ho hm (by omega)
  have hnb := fun k0 k1 i i0 i1 hne hg => near_beside ho x y (k := ofI a' b' s' x y) (i := i) rfl k0 k1 i0 i1 hne hg
  have hdef : ∀ i : Int, nearI a' b' s' r' x y i = (decide (0 ≤ ofI a' b' s' x y) && (decide (i ≠ ofI a' b' s' x y) && decide (gapI (zoneI a' b' s' i).a (zoneI a' b' s' i).b (zoneI a' b' s' i).c (zoneI a' b' s' i).d x y ≤ r'))) := fun i => rfl
  obtain ⟨m, hM⟩ : ∃ m : Nat, a' * b' = m := ⟨(a' * b').toNat, by omega⟩
  have hMt : (a' * b').toNat = m := by omega
  simp only [hMt] at hE hBs
  rw [hM] at hab hor
  simp only [hM] at hC hnb
  have hlen := pick_len (nearI a' b' s' r' x y) m
  have hlen2 : (pick (nearI a' b' s' r' x y) m).length ≤ 100 := by omega
  have hbl := pick_len (besI a' b' (ofI a' b' s' x y)) m
  have hbl2 : (pick (besI a' b' (ofI a' b' s' x y)) m).length ≤ 100 := by omega
  have hrise := pick_rise (nearI a' b' s' r' x y) m
  have hmem : ∀ j : Int, 0 ≤ j → j < m → decide (j ∈ pick (nearI a' b' s' r' x y) m) = nearI a' b' s' r' x y j := fun j h0 h1 => by
    rw [Bool.eq_iff_iff, decide_eq_true_eq, pick_mem]
    exact ⟨fun h => h.2, fun h => ⟨⟨h0, h1⟩, h⟩⟩
  have hbm : ∀ j : Int, 0 ≤ j → j < m → nearI a' b' s' r' x y j = true → decide (j ∈ pick (besI a' b' (ofI a' b' s' x y)) m) = true := fun j h0 h1 h2 => by
    rw [decide_eq_true_eq, pick_mem]
    rw [hdef] at h2
    simp only [Bool.and_eq_true, decide_eq_true_eq] at h2
    exact ⟨⟨h0, h1⟩, hnb h2.1 (by omega) j h0 h1 h2.2.1 h2.2.2⟩
  generalize nearI a' b' s' r' x y = P at *
  generalize pick P m = L at *
  generalize ofI a' b' s' x y = o at *
  generalize pick (besI a' b' o) m = D at *
  have hL := fun w A c j ha => has_list w L A c j hlen2 ha
  have hD := fun w A c j ha => has_list w D A c j hbl2 ha
  unfold Cfg.v at *
  replace hN := Lib.hid hN
  replace hO := Lib.hid hO
  replace hC := Lib.hid hC
  replace hE := Lib.hid hE
  replace hZ := Lib.hid hZ
  replace hBs := Lib.hid hBs
  replace hdef := Lib.hid hdef
  replace hrise := Lib.hid hrise
  replace hmem := Lib.hid hmem
  replace hbm := Lib.hid hbm
  replace hL := Lib.hid hL
  replace hD := Lib.hid hD
  replace hMay := Lib.hid hMay
  clear hok ho hlen hbl hM hMt hnb
  go_enter Try.func7, Try.ntmps7
  go_wp2_with (first
    | (go_at_call 15; (with_reducible refine (hMay.out _).mono ?_); rintro e w' ⟨rfl, ex, rfl⟩)
    | (go_at_call 11; (with_reducible refine (hN.out _).mono ?_); rintro e w' ⟨n, rfl, hm, e0, rfl⟩)
    | (go_at_call 18; (with_reducible refine (hO.out _ _ (hm.plus (by (repeat (first | exact Plus.refl _ | apply Plus.plus | apply Plus.alloc | apply Plus.drew))))).mono ?_); rintro e w' ⟨rfl, e1, rfl⟩)
    | (go_at_call 21; (with_reducible refine (hE.out _ _ (hm.plus (by (repeat (first | exact Plus.refl _ | apply Plus.plus | apply Plus.alloc | apply Plus.drew))))).mono ?_); rintro e w' ⟨A1, c1, rfl, hr1, e2, rfl⟩))
  obtain ⟨W1, hW1⟩ : ∃ W1, W1 = ((((w.alloc (.cells #[.int .i64 a', .int .i64 b', .int .i64 s', .int .i64 r', .int .i64 p', .int .i64 i', .int .i64 q'] 23)).plus ex).plus e0).plus e2).plus e1 := ⟨_, rfl⟩
  have l0 : w.heap.size < W1.heap.size := by rw [hW1]; simp [go_sem]; omega
  have hPW : w.Plus W1 := by rw [hW1]; (repeat (first | exact Plus.refl _ | apply Plus.plus | apply Plus.alloc | apply Plus.drew))
  have hmW : MapAt W1 n a' b' s' r' := by rw [hW1]; exact hm.plus (by (repeat (first | exact Plus.refl _ | apply Plus.plus | apply Plus.alloc | apply Plus.drew)))
  have hrW : RowsAt W1 A1 1 L.length (intAt L) := by rw [hW1]; exact hr1.plus (by (repeat (first | exact Plus.refl _ | apply Plus.plus | apply Plus.alloc | apply Plus.drew)))
  have k3 : W1.cell? ⟨w.heap.size, 3, none⟩ = some (.int .i64 r') := by rw [hW1]; simp [go_sem]
  replace hW1 := Lib.hid hW1
  replace hmW := Lib.hid hmW
  replace hrW := Lib.hid hrW
  haveI : InW w.heap.size W1 := ⟨l0⟩
  clear hm hr1
  go_loopw [11] (fun v wr => ∃ j : Nat, j ≤ m ∧ v = .int .i64 j ∧ W1.Plus wr) (fun v _ => m - (intOf v).toNat)
  case atStart => exact ⟨0, Nat.zero_le _, rfl, by rw [hW1.out]; exact Plus.refl _⟩
  case round =>
    obtain ⟨j, hj, rfl, e4, rfl⟩ := hrel
    by_cases hlt : j < m
    · have hd := hdef.out j
      have hmj := hmem.out j (by omega) (by omega)
      have hbj := hbm.out j (by omega) (by omega)
      have hZj := fun w => hZ.out n j w
      generalize zoneI a' b' s' j = z at hd hZj
      obtain ⟨z0, z1, z2, z3⟩ := z
      simp only at hd
      replace hZj := Lib.hid hZj
      by_cases ho0 : 0 ≤ o
      · by_cases hne : (j : Int) = o
        · have hP : P j = false := by rw [hd]; simp [hne]
          rw [hP] at hmj
          subst hne
          have hne1 : ((j : Int) != j) = false := by simp
          replace hd := Lib.hid hd
          replace hbj := Lib.hid hbj
          replace hP := Lib.hid hP
          go_wp2_with (first | (go_at_call 27; (with_reducible refine (hC.out _ _ (hmW.out.plus (by (repeat (first | exact Plus.refl _ | apply Plus.plus | apply Plus.alloc | apply Plus.drew))))).mono ?_); rintro e w' ⟨rfl, f1, rfl⟩))
          refine wp_region_grow (by kernel_rfl) (by kernel_rfl) ?_
          repeat (go_big_quiet_step (fail))
          refine wpQuiet_nil ?_
          intro ex
          go_wp2_with (first | (go_at_call 26; (with_reducible refine (hL.out _ _ _ _ (hrW.out.plus (by (repeat (first | exact Plus.refl _ | apply Plus.plus | apply Plus.alloc | apply Plus.drew))))).mono ?_); rintro e w' ⟨rfl, f2, rfl⟩))
          go_roundw
          case rel => exact ⟨j + 1, hlt, by first | (simp; done) | (simp; omega), by (repeat (first | exact Plus.refl _ | apply Plus.plus | apply Plus.alloc | apply Plus.drew))⟩
          case measure => simp [intOf]; omega
        · have hne1 : ((j : Int) != o) = true := by simpa using hne
          rw [decide_eq_true ho0, decide_eq_true (show (j : Int) ≠ o from hne)] at hd
          simp only [Bool.true_and] at hd
          generalize hgp : gapI z0 z1 z2 z3 x y = g at hd
          replace hgp := Lib.hid hgp
          by_cases hg : g ≤ r'
          · have hP : P j = true := by rw [hd]; simpa using hg
            have hbd := hbj hP
            rw [hP] at hmj
            replace hd := Lib.hid hd
            replace hP := Lib.hid hP
            clear hbj
            have hgg : gapI z0 z1 z2 z3 x y ≤ r' := by rw [hgp.out]; exact hg
            go_wp2_with (first | (go_at_call 27; (with_reducible refine (hC.out _ _ (hmW.out.plus (by (repeat (first | exact Plus.refl _ | apply Plus.plus | apply Plus.alloc | apply Plus.drew))))).mono ?_); rintro e w' ⟨rfl, f1, rfl⟩))
            refine wp_region_grow (by kernel_rfl) (by kernel_rfl) ?_
            repeat (go_big_quiet_step ((first | (go_at_call 29; exact Calls.plus_of (hZj.out _ (hmW.out.plus (by (repeat (first | exact Plus.refl _ | apply Plus.plus | apply Plus.alloc | apply Plus.drew)))))) | (go_at_call 28; exact Calls.plus_of (gap_any _ _ _ _ _ _ _)))))
            refine wpQuiet_nil ?_
            intro ex
            go_wp2_with (first | (go_at_call 26; (with_reducible refine (hL.out _ _ _ _ (hrW.out.plus (by (repeat (first | exact Plus.refl _ | apply Plus.plus | apply Plus.alloc | apply Plus.drew))))).mono ?_); rintro e w' ⟨rfl, f2, rfl⟩) | (go_at_call 23; (with_reducible refine (hBs.out _ _ (hmW.out.plus (by (repeat (first | exact Plus.refl _ | apply Plus.plus | apply Plus.alloc | apply Plus.drew))))).mono ?_); rintro e w' ⟨A2, c2, rfl, hr2, f3, rfl⟩) | (go_at_call 26; (with_reducible refine (hD.out _ _ _ _ (hr2.plus (by (repeat (first | exact Plus.refl _ | apply Plus.plus | apply Plus.alloc | apply Plus.drew))))).mono ?_); rintro e w' ⟨rfl, f4, rfl⟩))
            refine ⟨⟨j + 1, hlt, by simp, by (repeat (first | exact Plus.refl _ | apply Plus.plus | apply Plus.alloc | apply Plus.drew))⟩, ?_⟩
            simp [intOf]; omega
          · have hP : P j = false := by rw [hd]; simpa using hg
            rw [hP] at hmj
            replace hd := Lib.hid hd
            replace hP := Lib.hid hP
            clear hbj
            have hgg : ¬ gapI z0 z1 z2 z3 x y ≤ r' := by rw [hgp.out]; exact hg
            go_wp2_with (first | (go_at_call 27; (with_reducible refine (hC.out _ _ (hmW.out.plus (by (repeat (first | exact Plus.refl _ | apply Plus.plus | apply Plus.alloc | apply Plus.drew))))).mono ?_); rintro e w' ⟨rfl, f1, rfl⟩))
            refine wp_region_grow (by kernel_rfl) (by kernel_rfl) ?_
            repeat (go_big_quiet_step ((first | (go_at_call 29; exact Calls.plus_of (hZj.out _ (hmW.out.plus (by (repeat (first | exact Plus.refl _ | apply Plus.plus | apply Plus.alloc | apply Plus.drew)))))) | (go_at_call 28; exact Calls.plus_of (gap_any _ _ _ _ _ _ _)))))
            refine wpQuiet_nil ?_
            intro ex
            go_wp2_with (first | (go_at_call 26; (with_reducible refine (hL.out _ _ _ _ (hrW.out.plus (by (repeat (first | exact Plus.refl _ | apply Plus.plus | apply Plus.alloc | apply Plus.drew))))).mono ?_); rintro e w' ⟨rfl, f2, rfl⟩))
            go_roundw
            case rel => exact ⟨j + 1, hlt, by simp, by (repeat (first | exact Plus.refl _ | apply Plus.plus | apply Plus.alloc | apply Plus.drew))⟩
            case measure => simp [intOf]; omega
      · have hP : P j = false := by rw [hd]; simp; omega
        rw [hP] at hmj
        have ho1 : decide (0 ≤ o) = false := by simpa using ho0
        replace hd := Lib.hid hd
        replace hbj := Lib.hid hbj
        replace hP := Lib.hid hP
        go_wp2_with (first | (go_at_call 27; (with_reducible refine (hC.out _ _ (hmW.out.plus (by (repeat (first | exact Plus.refl _ | apply Plus.plus | apply Plus.alloc | apply Plus.drew))))).mono ?_); rintro e w' ⟨rfl, f1, rfl⟩))
        refine wp_region_grow (by kernel_rfl) (by kernel_rfl) ?_
        repeat (go_big_quiet_step (fail))
        refine wpQuiet_nil ?_
        intro ex
        go_wp2_with (first | (go_at_call 26; (with_reducible refine (hL.out _ _ _ _ (hrW.out.plus (by (repeat (first | exact Plus.refl _ | apply Plus.plus | apply Plus.alloc | apply Plus.drew))))).mono ?_); rintro e w' ⟨rfl, f2, rfl⟩))
        go_roundw
        case rel => exact ⟨j + 1, hlt, by simp, by (repeat (first | exact Plus.refl _ | apply Plus.plus | apply Plus.alloc | apply Plus.drew))⟩
        case measure => simp [intOf]; omega
    · have hjm : j = m := by omega
      subst hjm
      go_wp2_with (first | (go_at_call 27; (with_reducible refine (hC.out _ _ (hmW.out.plus (by (repeat (first | exact Plus.refl _ | apply Plus.plus | apply Plus.alloc | apply Plus.drew))))).mono ?_); rintro e w' ⟨rfl, f1, rfl⟩))
      go_loopw [13] (fun v wr => ∃ t : Nat, 1 ≤ t ∧ t ≤ max 1 L.length ∧ v = .int .i64 t ∧ W1.Plus wr) (fun v _ => L.length - (intOf v).toNat)
      case atStart => exact ⟨1, by omega, by omega, rfl, by (repeat (first | exact Plus.refl _ | apply Plus.plus | apply Plus.alloc | apply Plus.drew))⟩
      case round =>
        obtain ⟨t, t0, t1, rfl, e5, rfl⟩ := hrel
        by_cases hlu : t < L.length
        · have hrs := hrise.out t t0 hlu
          have hrW2 := hrW.out
          obtain ⟨b1, o1, rfl, hb1, hc1⟩ := hrW2 (by omega)
          haveI : InW b1 W1 := ⟨hb1⟩
          have d1 := hc1 (t - 1) 0 (by omega) (by omega)
          have d2 := hc1 t 0 (by omega) (by omega)
          clear hc1
          obtain ⟨t, rfl⟩ : ∃ t', t = t' + 1 := ⟨t - 1, by omega⟩
          unfold intAt at d1 d2
          simp only [Nat.add_zero, Nat.mul_one, Nat.add_sub_cancel] at d1 d2 hrs
          generalize L.getD t 0 = y1 at *
          generalize L.getD (t + 1) 0 = y2 at *
          go_wp2_with fail
          go_region
          go_wp2_with fail
          go_roundw
          case rel => exact ⟨t + 2, by omega, by omega, by simp; omega, by (repeat (first | exact Plus.refl _ | apply Plus.plus | apply Plus.alloc | apply Plus.drew))⟩
          case measure => simp [intOf]; omega
        · go_wp2_with (first | (go_at_call 14; (with_reducible refine (awake_any _).mono ?_); rintro e w' ⟨rfl, f5, rfl⟩))
          go_ret
          exact ⟨rfl, Plus.trans hPW (by (repeat (first | exact Plus.refl _ | apply Plus.plus | apply Plus.alloc | apply Plus.drew)))⟩
theorem laidOut : laidOutB Try.prog = true := by kernel_rfl
theorem own : ownKnob Try.prog.godebug = none := by kernel_rfl
set_option maxRecDepth 100000 in
set_option maxHeartbeats 1000000 in
theorem lifted (os : Os) (started : os.Started) (H : Type) (enc : TypeId × Value → H) :
    ReturnsInHanded {} Try.checked os 7 .any (Rows.zonesNearSpec.pre6 enc Try.prog Try.f7 Rows.zonesNearRow.domain false) (Rows.zonesNearSpec.post enc Try.prog Try.f7 false true false false) := by
  refine returnsInHanded_of_change_sized (C := Try.checked) own started (by kernel_rfl) Try.func7
    (ChangeSpec.witness6 (enc := enc) (C := Try.checked) false ⟨#[], #[.agg #[.int .i64 0, .int .i64 0, .int .i64 0, .int .i64 0, .int .i64 0, .int .i64 0, .int .i64 0], .int .i64 0, .int .i64 0], []⟩ 8 (by kernel_rfl) (by kernel_rfl) (by kernel_rfl) (by kernel_rfl)) ?_
  intro W base args ds gs before hval0 hW hcnd hsz0 _
  have hval : ∀ (j : Nat) t v, Try.f7.params[j]? = some t → args[j]? = some v → Value.okWide Try.prog W .any base t v := hval0
  have hsz : (DataW.weightsEach Try.prog (Try.f7.params.toList ++ Rows.zonesNearSpec.plain.varTypes Try.prog) (ds ++ gs)).all (· ≤ reachBytes) = true := hsz0
  have hW' : DataW.Whole enc Try.prog Try.f7.params.toList Rows.zonesNearSpec.vars false W args.toList ds gs before := hW
  obtain ⟨p, q, hA0, hV, rfl, hfz, hnd⟩ := hW
  have hA : DataW.TrodAll enc Try.prog W 0 (fun _ => true) true Try.f7.params.toList args.toList ds p := hA0
  rw [Try.params7] at hA hval hsz
  obtain ⟨v0, vs0, d0, ds0, p0, q0, hargs, rfl, rfl, h0, r0⟩ := trodAll_cons hA
  obtain ⟨v1, vs1, d1, ds1, p1, q1, rfl, rfl, rfl, h1, r1⟩ := trodAll_cons r0
  obtain ⟨v2, vs2, d2, ds2, p2, q2, rfl, rfl, rfl, h2, r2⟩ := trodAll_cons r1
  obtain ⟨rfl, rfl, rfl⟩ := trodAll_nil r2
  obtain rfl : args = #[v0, v1, v2] := by cases args; simp_all
  obtain ⟨rfl, rfl⟩ := trodVars_none hV
  have light : ∀ (j : Nat) (t : TypeId) (d : DataW H), (Try.f7.params.toList ++ Rows.zonesNearSpec.plain.varTypes Try.prog)[j]? = some t → ([d0, d1, d2] : List (DataW H))[j]? = some d → Light Try.prog t d := fun j t d hj hd m hm => by
    have h := List.all_eq_true.1 hsz m (DataW.weights_mem_each (j := j) (by rw [Try.params7] at hj; exact hj) (by simpa using hd) m hm)
    simpa using h
  obtain ⟨x0, c0, hh0, hv0⟩ := open_arg (n := 8) (ty := (.pair (.int .i64) (.pair (.int .i64) (.pair (.int .i64) (.pair (.int .i64) (.pair (.int .i64) (.pair (.int .i64) (.pair (.int .i64) .unit)))))))) (by kernel_rfl) (hval 0 _ v0 rfl rfl) h0 (light 0 _ _ rfl rfl)
  obtain ⟨hc0, wf0⟩ := hh0.flat rfl
  rw [hc0] at hv0
  obtain rfl : v0 = .agg #[.int .i64 x0.1, .int .i64 x0.2.1, .int .i64 x0.2.2.1, .int .i64 x0.2.2.2.1, .int .i64 x0.2.2.2.2.1, .int .i64 x0.2.2.2.2.2.1, .int .i64 x0.2.2.2.2.2.2.1] := hv0
  clear hc0 hh0 h0
  obtain ⟨x1, c1, hh1, hv1⟩ := open_arg (n := 8) (ty := (.int .i64)) (by kernel_rfl) (hval 1 _ v1 rfl rfl) h1 (light 1 _ _ rfl rfl)
  obtain ⟨hc1, wf1⟩ := hh1.flat rfl
  rw [hc1] at hv1
  obtain rfl : v1 = .int .i64 x1 := (List.cons.inj hv1).1.symm
  clear hc1 hh1 h1
  obtain ⟨x2, c2, hh2, hv2⟩ := open_arg (n := 8) (ty := (.int .i64)) (by kernel_rfl) (hval 2 _ v2 rfl rfl) h2 (light 2 _ _ rfl rfl)
  obtain ⟨hc2, wf2⟩ := hh2.flat rfl
  rw [hc2] at hv2
  obtain rfl : v2 = .int .i64 x2 := (List.cons.inj hv2).1.symm
  clear hc2 hh2 h2
  clear hA0 hval0 hval light hsz hsz0
  refine (walk _ _ _ _ _ _ _ _ _ W).mono fun e W' ⟨he, hp⟩ => ?_
  subst he
  exact ⟨_, rfl, post_true hW' rfl rfl rfl rfl laidOut (by kernel_rfl) rfl (by kernel_rfl) (Plus.below hp)⟩
theorem proved : Rows.ZonesNearSaid :=
  OpenClaim.holds_of_wide 7 Try.f7 rfl rfl rfl rfl rfl rfl rfl ⟨rfl, rfl, rfl, rfl, rfl⟩ rfl rfl rfl rfl rfl (by kernel_rfl) Try.func7 (by kernel_rfl)
    (of_decide_eq_true (by kernel_rfl)) (by unfold Func.isWrapper; first | (rw [if_pos (by decide +kernel)]; kernel_rfl) | (rw [if_neg (by decide +kernel)]; exact ⟨rfl, rfl⟩))
    (fun os started H enc _ => lifted os started H enc)
end Go.Proofs.Yteaikedgbgdcnaa.lawZonesNear
