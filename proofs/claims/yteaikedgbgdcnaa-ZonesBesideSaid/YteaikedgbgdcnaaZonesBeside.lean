/- ZonesBeside: beside any zone lie the zones that the document says, and it lies beside each of them. For every input, no condition. -/
import Derived.Test.YteaikedgbgdcnaaRows
import Derived.Test.YteaikedgbgdcnaaZonesK
import Derived.Test.YteaikedgbgdcnaaLift
import Derived.ProofKit
set_option linter.unusedSimpArgs false
set_option linter.unusedVariables false
namespace Go.Proofs.Yteaikedgbgdcnaa.lawZonesBeside
open Go.ChangeShapes Go.WideShapes Go.ChangeAt Go.RowKit
theorem bes_sym {a b k j : Int} (h : besI a b k j = true) (h0 : 0 ≤ j) (h1 : j < a * b) : besI a b j k = true := by
  unfold besI at *
  simp only [Bool.and_eq_true, decide_eq_true_eq] at *
  refine ⟨⟨h0, h1⟩, fun e => h.2.1 e.symm, ?_⟩
  have := h.2.2
  omega
set_option maxHeartbeats 2000000 in
theorem walk (a b s r p i q k : Int) (w : World) (hk : -9223372036854775808 ≤ k ∧ k ≤ 9223372036854775807) : Calls Try.prog 5 #[(Cfg.mk a b s r p i q).v, .int .i64 k] w fun e w' => e = .returned (.bool true) ∧ w.Plus w' := by
  have hMay := fun w => may_any a b s r p i q w
  have hok := May_ok (Cfg.mk a b s r p i q)
  generalize May (Cfg.mk a b s r p i q) = C at *
  obtain ⟨a', b', s', r', p', i', q'⟩ := C
  have ho := hok.okk
  have hN := fun w => new_ok a' b' s' r' p' i' q' w hok
  have hB := fun j hj n w hm => beside_any a' b' s' r' n w j ho hm hj
  have hR := fun w => refBeside_any a' b' s' r' w k p' i' q' ho
  have hab := ho.ab
  obtain ⟨m, hM⟩ : ∃ m : Nat, a' * b' = m := ⟨(a' * b').toNat, by omega⟩
  have hMt : (a' * b').toNat = m := by omega
  simp only [hMt] at hB hR
  rw [hM] at hab
  have hlen := fun j => pick_len (besI a' b' j) m
  have hlen2 : ∀ j, (pick (besI a' b' j) m).length ≤ 100 := fun j => by have := hlen j; omega
  have hmem : ∀ j : Int, j ∈ pick (besI a' b' k) m → (0 ≤ j ∧ j < m) ∧ k ∈ pick (besI a' b' j) m := fun j hj => by
    obtain ⟨h0, h1⟩ := pick_mem.1 hj
    refine ⟨h0, pick_mem.2 ⟨?_, bes_sym h1 h0.1 (by rw [hM]; exact h0.2)⟩⟩
    unfold besI at h1
    simp only [Bool.and_eq_true, decide_eq_true_eq] at h1
    omega
  have hBk := hB k hk
  have hL2 := hlen2 k
  generalize pick (besI a' b' k) m = L at *
  have hS := fun w A B c d ha hb => same_any w L L A B c d hL2 hL2 ha hb rfl
  unfold Cfg.v at *
  replace hN := Lib.hid hN
  replace hB := Lib.hid hB
  replace hBk := Lib.hid hBk
  replace hR := Lib.hid hR
  replace hS := Lib.hid hS
  replace hMay := Lib.hid hMay
  replace hmem := Lib.hid hmem
  replace hlen2 := Lib.hid hlen2
  clear hok ho hlen hM hMt
  go_enter Try.func5, Try.ntmps5
  go_wp2_with (first
    | (go_at_call 15; (with_reducible refine (hMay.out _).mono ?_); rintro e w' ⟨rfl, ex, rfl⟩)
    | (go_at_call 11; (with_reducible refine (hN.out _).mono ?_); rintro e w' ⟨n, rfl, hm, e0, rfl⟩)
    | (go_at_call 23; (with_reducible refine (hBk.out _ _ (hm.plus (by (repeat (first | exact Plus.refl _ | apply Plus.plus | apply Plus.alloc | apply Plus.drew))))).mono ?_); rintro e w' ⟨A1, c1, rfl, hr1, e1, rfl⟩))
  obtain ⟨W1, hW1⟩ : ∃ W1, W1 = (((w.alloc (.cells #[.int .i64 a', .int .i64 b', .int .i64 s', .int .i64 r', .int .i64 p', .int .i64 i', .int .i64 q'] 23)).plus ex).plus e0).plus e1 := ⟨_, rfl⟩
  have l0 : w.heap.size < W1.heap.size := by rw [hW1]; simp [go_sem]; omega
  have hPW : w.Plus W1 := by rw [hW1]; (repeat (first | exact Plus.refl _ | apply Plus.plus | apply Plus.alloc | apply Plus.drew))
  have hmW : MapAt W1 n a' b' s' r' := by rw [hW1]; exact hm.plus (by (repeat (first | exact Plus.refl _ | apply Plus.plus | apply Plus.alloc | apply Plus.drew)))
  have hrW : RowsAt W1 A1 1 L.length (intAt L) := by rw [hW1]; exact hr1
  have k0 : W1.cell? ⟨w.heap.size, 0, none⟩ = some (.int .i64 a') := by rw [hW1]; simp [go_sem]
  have k1 : W1.cell? ⟨w.heap.size, 1, none⟩ = some (.int .i64 b') := by rw [hW1]; simp [go_sem]
  have k2 : W1.cell? ⟨w.heap.size, 2, none⟩ = some (.int .i64 s') := by rw [hW1]; simp [go_sem]
  have k3 : W1.cell? ⟨w.heap.size, 3, none⟩ = some (.int .i64 r') := by rw [hW1]; simp [go_sem]
  have k4 : W1.cell? ⟨w.heap.size, 4, none⟩ = some (.int .i64 p') := by rw [hW1]; simp [go_sem]
  have k5 : W1.cell? ⟨w.heap.size, 5, none⟩ = some (.int .i64 i') := by rw [hW1]; simp [go_sem]
  have k6 : W1.cell? ⟨w.heap.size, 6, none⟩ = some (.int .i64 q') := by rw [hW1]; simp [go_sem]
  replace hW1 := Lib.hid hW1
  replace hmW := Lib.hid hmW
  replace hrW := Lib.hid hrW
  haveI : InW w.heap.size W1 := ⟨l0⟩
  clear hm hr1
  go_loopw [8, 9, 10, 11] (fun v _ _ _ wr => ∃ j : Nat, j ≤ L.length ∧ v = .int .i64 j ∧ W1.Plus wr) (fun v _ _ _ _ => L.length - (intOf v).toNat)
  case atStart => exact ⟨0, Nat.zero_le _, rfl, by rw [hW1.out]; exact Plus.refl _⟩
  case round =>
    obtain ⟨j, hj, rfl, e4, rfl⟩ := hrel
    by_cases hlt : j < L.length
    · obtain ⟨b1, o1, rfl, hb1, hc1⟩ := hrW.out (by omega)
      haveI : InW b1 W1 := ⟨hb1⟩
      have d1 := hc1 j 0 hlt (by omega)
      clear hc1
      unfold intAt at d1
      simp only [Nat.add_zero, Nat.mul_one] at d1
      have hin : L.getD j 0 ∈ L := by simp [List.getD, hlt]
      generalize L.getD j 0 = y at d1 hin
      obtain ⟨hy, hky⟩ := hmem.out y hin
      have hBy := hB.out y (by omega)
      have hD2 := hlen2.out y
      generalize pick (besI a' b' y) m = D at *
      replace hBy := Lib.hid hBy
      replace hin := Lib.hid hin
      replace hky := Lib.hid hky
      go_wp2_with (first
        | (go_at_call 23; (with_reducible refine (hBy.out _ _ (hmW.out.plus (by (repeat (first | exact Plus.refl _ | apply Plus.plus | apply Plus.alloc | apply Plus.drew))))).mono ?_); rintro e w' ⟨A2, c2, rfl, hr2, e5, rfl⟩))
      obtain ⟨W2, hW2⟩ : ∃ W2, W2 = (W1.plus e4).plus e5 := ⟨_, rfl⟩
      rw [← hW2] at hr2
      have hP2 : W1.Plus W2 := by rw [hW2]; (repeat (first | exact Plus.refl _ | apply Plus.plus | apply Plus.alloc | apply Plus.drew))
      replace hW2 := Lib.hid hW2
      go_loopw [10, 11] (fun met v wr => ∃ t : Nat, t ≤ D.length ∧ v = .int .i64 t ∧ met = .bool (decide (k ∈ D.take t)) ∧ W2.Plus wr) (fun _ v _ => D.length - (intOf v).toNat)
      case atStart => exact ⟨0, Nat.zero_le _, rfl, by simp, by rw [hW2.out]; exact Plus.refl _⟩
      case round =>
        obtain ⟨t, ht, rfl, rfl, e6, rfl⟩ := hrel
        by_cases hlu : t < D.length
        · obtain ⟨b2, o2, rfl, hb2, hc2⟩ := hr2 (by omega)
          haveI : InW b2 W2 := ⟨hb2⟩
          have d2 := hc2 t 0 hlu (by omega)
          clear hc2
          unfold intAt at d2
          simp only [Nat.add_zero, Nat.mul_one] at d2
          have htk : decide (k ∈ D.take (t + 1)) = (decide (k ∈ D.take t) || (D.getD t 0 == k)) := by
            rw [List.take_succ_eq_append_getElem hlu, Bool.eq_iff_iff]
            simp only [decide_eq_true_eq, List.mem_append, List.mem_singleton, Bool.or_eq_true, beq_iff_eq]
            rw [show D.getD t 0 = D[t] by simp [List.getD, hlu]]
            exact ⟨fun h => h.imp id Eq.symm, fun h => h.imp id Eq.symm⟩
          generalize D.getD t 0 = z at d2 htk
          replace hP2 := Lib.hid hP2
          replace hr2 := Lib.hid hr2
          generalize decide (k ∈ D.take t) = M at htk ⊢
          replace htk := Lib.hid htk
          cases M
          all_goals
            go_wp2_with fail
            go_roundw
            case rel => exact ⟨t + 1, hlu, by simp, by rw [htk.out]; simp, by (repeat (first | exact Plus.refl _ | apply Plus.plus | apply Plus.alloc | apply Plus.drew))⟩
            case measure => simp [intOf]; omega
        · have htD : t = D.length := by omega
          subst htD
          rw [List.take_length]
          rw [decide_eq_true hky.out]
          obtain ⟨e7, rfl⟩ := hP2
          go_wp2_with fail
          refine ⟨⟨j + 1, hlt, by simp, by (repeat (first | exact Plus.refl _ | apply Plus.plus | apply Plus.alloc | apply Plus.drew))⟩, ?_⟩
          simp [intOf]; omega
    · have hjL : j = L.length := by omega
      subst hjL
      go_wp2_with (first
        | (go_at_call 24; (with_reducible refine (hR.out _).mono ?_); rintro e w' ⟨A2, c2, rfl, hr2, e5, rfl⟩)
        | (go_at_call 20; (with_reducible refine (hS.out _ _ _ _ _ (hrW.out.plus (by (repeat (first | exact Plus.refl _ | apply Plus.plus | apply Plus.alloc | apply Plus.drew)))) (hr2.plus (by (repeat (first | exact Plus.refl _ | apply Plus.plus | apply Plus.alloc | apply Plus.drew))))).mono ?_); rintro e w' ⟨rfl, e7, rfl⟩)
        | (go_at_call 14; (with_reducible refine (awake_any _).mono ?_); rintro e w' ⟨rfl, e8, rfl⟩))
      go_ret
      exact ⟨rfl, Plus.trans hPW (by (repeat (first | exact Plus.refl _ | apply Plus.plus | apply Plus.alloc | apply Plus.drew)))⟩
theorem laidOut : laidOutB Try.prog = true := by kernel_rfl
theorem own : ownKnob Try.prog.godebug = none := by kernel_rfl
set_option maxRecDepth 100000 in
set_option maxHeartbeats 1000000 in
theorem lifted (os : Os) (started : os.Started) (H : Type) (enc : TypeId × Value → H) :
    ReturnsInHanded {} Try.checked os 5 .any (Rows.zonesBesideSpec.pre6 enc Try.prog Try.f5 Rows.zonesBesideRow.domain false) (Rows.zonesBesideSpec.post enc Try.prog Try.f5 false true false false) := by
  refine returnsInHanded_of_change_sized (C := Try.checked) own started (by kernel_rfl) Try.func5
    (ChangeSpec.witness6 (enc := enc) (C := Try.checked) false ⟨#[], #[.agg #[.int .i64 0, .int .i64 0, .int .i64 0, .int .i64 0, .int .i64 0, .int .i64 0, .int .i64 0], .int .i64 0], []⟩ 8 (by kernel_rfl) (by kernel_rfl) (by kernel_rfl) (by kernel_rfl)) ?_
  intro W base args ds gs before hval0 hW hcnd hsz0 _
  have hval : ∀ (j : Nat) t v, Try.f5.params[j]? = some t → args[j]? = some v → Value.okWide Try.prog W .any base t v := hval0
  have hsz : (DataW.weightsEach Try.prog (Try.f5.params.toList ++ Rows.zonesBesideSpec.plain.varTypes Try.prog) (ds ++ gs)).all (· ≤ reachBytes) = true := hsz0
  have hW' : DataW.Whole enc Try.prog Try.f5.params.toList Rows.zonesBesideSpec.vars false W args.toList ds gs before := hW
  obtain ⟨p, q, hA0, hV, rfl, hfz, hnd⟩ := hW
  have hA : DataW.TrodAll enc Try.prog W 0 (fun _ => true) true Try.f5.params.toList args.toList ds p := hA0
  rw [Try.params5] at hA hval hsz
  obtain ⟨v0, vs0, d0, ds0, p0, q0, hargs, rfl, rfl, h0, r0⟩ := trodAll_cons hA
  obtain ⟨v1, vs1, d1, ds1, p1, q1, rfl, rfl, rfl, h1, r1⟩ := trodAll_cons r0
  obtain ⟨rfl, rfl, rfl⟩ := trodAll_nil r1
  obtain rfl : args = #[v0, v1] := by cases args; simp_all
  obtain ⟨rfl, rfl⟩ := trodVars_none hV
  have light : ∀ (j : Nat) (t : TypeId) (d : DataW H), (Try.f5.params.toList ++ Rows.zonesBesideSpec.plain.varTypes Try.prog)[j]? = some t → ([d0, d1] : List (DataW H))[j]? = some d → Light Try.prog t d := fun j t d hj hd m hm => by
    have h := List.all_eq_true.1 hsz m (DataW.weights_mem_each (j := j) (by rw [Try.params5] at hj; exact hj) (by simpa using hd) m hm)
    simpa using h
  obtain ⟨x0, c0, hh0, hv0⟩ := open_arg (n := 8) (ty := (.pair (.int .i64) (.pair (.int .i64) (.pair (.int .i64) (.pair (.int .i64) (.pair (.int .i64) (.pair (.int .i64) (.pair (.int .i64) .unit)))))))) (by kernel_rfl) (hval 0 _ v0 rfl rfl) h0 (light 0 _ _ rfl rfl)
  obtain ⟨hc0, wf0⟩ := hh0.flat rfl
  rw [hc0] at hv0
  obtain rfl : v0 = .agg #[.int .i64 x0.1, .int .i64 x0.2.1, .int .i64 x0.2.2.1, .int .i64 x0.2.2.2.1, .int .i64 x0.2.2.2.2.1, .int .i64 x0.2.2.2.2.2.1, .int .i64 x0.2.2.2.2.2.2.1] := hv0
  clear hc0 hh0 h0
  obtain ⟨x1, c1, hh1, hv1⟩ := open_arg (n := 8) (ty := (.int .i64)) (by kernel_rfl) (hval 1 _ v1 rfl rfl) h1 (light 1 _ _ rfl rfl)
  obtain ⟨hc1, wf1⟩ := hh1.flat rfl
  rw [hc1] at hv1
  obtain rfl : v1 = .int .i64 x1 := (List.cons.inj hv1).1.symm
  clear hc1 hh1 h1
  clear hA0 hval0 hval light hsz hsz0
  have hb1 := bounds_i64 wf1
  refine (walk _ _ _ _ _ _ _ _ W hb1).mono fun e W' ⟨he, hp⟩ => ?_
  subst he
  exact ⟨_, rfl, post_true hW' rfl rfl rfl rfl laidOut (by kernel_rfl) rfl (by kernel_rfl) (Plus.below hp)⟩
theorem proved : Rows.ZonesBesideSaid :=
  OpenClaim.holds_of_wide 5 Try.f5 rfl rfl rfl rfl rfl rfl rfl ⟨rfl, rfl, rfl, rfl, rfl⟩ rfl rfl rfl rfl rfl (by kernel_rfl) Try.func5 (by kernel_rfl)
    (of_decide_eq_true (by kernel_rfl)) (by unfold Func.isWrapper; first | (rw [if_pos (by decide +kernel)]; kernel_rfl) | (rw [if_neg (by decide +kernel)]; exact ⟨rfl, rfl⟩))
    (fun os started H enc _ => lifted os started H enc)
end Go.Proofs.Yteaikedgbgdcnaa.lawZonesBeside
