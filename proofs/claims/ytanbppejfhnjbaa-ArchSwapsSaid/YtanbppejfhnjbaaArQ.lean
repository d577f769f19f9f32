/- arch: the law's few, one, awake: walk; lists of deeds. -/
import Derived.Test.YtanbppejfhnjbaaArO
set_option linter.unusedSimpArgs false
set_option linter.unusedVariables false
namespace Go.Proofs.Ytanbppejfhnjbaa
open Go.RowKit
theorem few_any (A : Option Addr) (n cp : Nat) (w : World) (hc : n ≤ cp) (hn : n ≤ 9223372036854775807) (hA : 0 < n → ∃ g o, A = some ⟨g, o, none⟩) :
    Calls Try.prog 20 #[.slice A n cp] w fun e w' => e = .returned (.slice A (min n 60) cp) ∧ w.Plus w' := by
  by_cases h60 : 60 < n
  · have h60i : (60 : Int) < n := by omega
    have hd : decide (60 < n) = true := decide_eq_true h60
    obtain ⟨g, o, rfl⟩ := hA (by omega)
    have hm : min n 60 = 60 := by omega
    have hc6 : 60 ≤ cp := by omega
    rw [hm]
    clear hm
    go_enter Try.func20, Try.ntmps20
    go_wp2_with fail
    go_ret
    exact ⟨rfl, by (repeat (first | exact Plus.refl _ | apply Plus.plus | apply Plus.alloc | apply Plus.drew))⟩
  · have h60i : ¬ (60 : Int) < n := by omega
    have hd : decide (60 < n) = false := decide_eq_false h60
    have hm : min n 60 = n := by omega
    rw [hm]
    clear hm
    go_enter Try.func20, Try.ntmps20
    go_wp2_with fail
    go_ret
    exact ⟨rfl, by (repeat (first | exact Plus.refl _ | apply Plus.plus | apply Plus.alloc | apply Plus.drew))⟩
abbrev oneB (i m : Int) : BdR := ⟨⟨0, i, 0⟩, m, 0, 0, 0, 0, 0, 0, 0⟩
set_option maxRecDepth 100000 in
theorem one_any (i m : Int) (w : World) : Calls Try.prog 37 #[nI i, nI m] w fun e w' => e = .returned (BdR.v (oneB i m)) ∧ w.Plus w' := by
  go_enter Try.func37, Try.ntmps37
  go_wp2_with fail
  exact bodyPost_ret (v := BdR.v (oneB i m)) (by simp [results, Try.results37, go_sem]) rfl ⟨rfl, by (repeat (first | exact Plus.refl _ | apply Plus.plus | apply Plus.alloc | apply Plus.drew))⟩
def aw1 : Tabs := (putS (fun _ => []) (oneB 0 1)).1
def aw2 : Tabs := (putS aw1 (oneB 1 1)).1
def aw3 : Tabs := (putS aw2 (oneB 2 1)).1
def aw4 : Tabs := (removeS aw3 id0).1
abbrev awB : BdR := ⟨⟨0, 2, 0⟩, 5, 0, 0, 0, 0, 7, 0, 0⟩
def aw5 : Tabs := (writeS aw4 awB).1
theorem aw_facts : (putS (fun _ => []) (oneB 0 1)).2 = 0 ∧ (putS aw1 (oneB 1 1)).2 = 0 ∧ (putS aw2 (oneB 2 1)).2 = 0 ∧ (removeS aw3 id0).2 = true ∧ findT aw4 ⟨0, 2, 0⟩ = some (1, 0) ∧ (writeS aw4 awB).2 = 0 ∧ getS aw5 ⟨0, 2, 0⟩ = awB ∧ (findT aw5 ⟨0, 2, 0⟩).isSome = true ∧ total aw5 = 2 ∧ tabsN aw5 32 = [(1, [⟨0, 1, 0⟩]), (5, [⟨0, 2, 0⟩])] ∧
    total aw1 = 1 ∧ total aw2 = 2 ∧ total aw3 = 3 ∧ total aw4 = 2 := by decide +kernel
theorem aw_good : GoodT aw1 ∧ GoodT aw2 ∧ GoodT aw3 ∧ GoodT aw4 ∧ GoodT aw5 :=
  ⟨good_putS good_none _, good_putS (good_putS good_none _) _, good_putS (good_putS (good_putS good_none _) _) _, good_removeS (good_putS (good_putS (good_putS good_none _) _) _) _, good_writeS (good_removeS (good_putS (good_putS (good_putS good_none _) _) _) _) _⟩
set_option maxRecDepth 100000 in
set_option maxHeartbeats 1000000 in
theorem awake_any (w : World) : Calls Try.prog 17 #[] w fun e w' => e = .returned (.bool true) ∧ w.Plus w' := by
  obtain ⟨f1, f2, f3, f4, f5, f6, f7, f8, f9, f10, n1, n2, n3, n4⟩ := aw_facts
  obtain ⟨g1, g2, g3, g4, g5⟩ := aw_good
  have k0 := Lib.hid (new_store (Own.start w))
  have k1 := fun S wz (O : Own w wz [storeA S (fun _ => [])]) => put_O O good_none (oneB 0 1) (by rw [total0]; omega)
  have k2 := fun S wz (O : Own w wz [storeA S aw1]) => put_O O g1 (oneB 1 1) (by rw [n1]; omega)
  have k3 := fun S wz (O : Own w wz [storeA S aw2]) => put_O O g2 (oneB 2 1) (by rw [n2]; omega)
  have k4 := fun S wz (O : Own w wz [storeA S aw3]) => remove_O O g3 id0 (by unfold IdW; simp) (by rw [n3]; omega)
  have k5 := fun S wz (O : Own w wz [storeA S aw4]) => row_store O ⟨0, 2, 0⟩ (by unfold IdW; simp)
  have k6 := fun S (l : List Asn) wz (O : Own w wz (storeA S aw4 :: l)) => write_O O g4 awB (by rw [n4]; omega)
  have k7 := fun S (l : List Asn) wz (O : Own w wz (storeA S aw5 :: l)) => get_store O g5 ⟨0, 2, 0⟩ (by unfold IdW; simp) (by rw [f9]; omega)
  have k8 := fun S (l : List Asn) wz (O : Own w wz (storeA S aw5 :: l)) => tables_O O (by rw [f9]; omega)
  have k9 := fun S (l : List Asn) wz (O : Own w wz (storeA S aw5 :: l)) => len_store O
  rw [f1] at k1
  rw [f2] at k2
  rw [f3] at k3
  rw [f4] at k4
  rw [f5] at k5
  rw [f6] at k6
  rw [f7, f8] at k7
  rw [f9] at k9
  rw [f10] at k8
  simp only [Option.isSome_some, Option.elim] at k5
  replace k1 : RowKit.Hid (∀ S wz, Own w wz [storeA S (fun _ => [])] → Calls Try.prog 19 #[chP S, .agg #[nI 0, nI 0, nI 0, nI 1, nI 0, nI 0, nI 0, nI 0, nI 0, nI 0, nI 0]] wz (OwnTo w (nI 0) [storeA S aw1])) := Lib.hid k1
  replace k2 : RowKit.Hid (∀ S wz, Own w wz [storeA S aw1] → Calls Try.prog 19 #[chP S, .agg #[nI 0, nI 1, nI 0, nI 1, nI 0, nI 0, nI 0, nI 0, nI 0, nI 0, nI 0]] wz (OwnTo w (nI 0) [storeA S aw2])) := Lib.hid k2
  replace k3 : RowKit.Hid (∀ S wz, Own w wz [storeA S aw2] → Calls Try.prog 19 #[chP S, .agg #[nI 0, nI 2, nI 0, nI 1, nI 0, nI 0, nI 0, nI 0, nI 0, nI 0, nI 0]] wz (OwnTo w (nI 0) [storeA S aw3])) := Lib.hid k3
  replace k4 : RowKit.Hid (∀ S wz, Own w wz [storeA S aw3] → Calls Try.prog 28 #[chP S, .agg #[nI 0, nI 0, nI 0]] wz (OwnTo w (.bool true) [storeA S aw4])) := Lib.hid k4
  replace k5 : RowKit.Hid (∀ S wz, Own w wz [storeA S aw4] → Calls Try.prog 14 #[chP S, .agg #[nI 0, nI 2, nI 0]] wz (fun e w' => e = .returned (.tuple #[nI 0, .bool true]) ∧ wz.Plus w')) := Lib.hid k5
  replace k6 : RowKit.Hid (∀ S (l : List Asn) wz, Own w wz (storeA S aw4 :: l) → Calls Try.prog 25 #[chP S, .agg #[nI 0, nI 2, nI 0, nI 5, nI 0, nI 0, nI 0, nI 0, nI 7, nI 0, nI 0]] wz (OwnTo w (nI 0) (storeA S aw5 :: l))) := Lib.hid k6
  replace k7 : RowKit.Hid (∀ S (l : List Asn) wz, Own w wz (storeA S aw5 :: l) → Calls Try.prog 13 #[chP S, .agg #[nI 0, nI 2, nI 0]] wz (fun e w' => e = .returned (.tuple #[.agg #[nI 0, nI 2, nI 0, nI 5, nI 0, nI 0, nI 0, nI 0, nI 7, nI 0, nI 0], .bool true]) ∧ wz.Plus w')) := Lib.hid k7
  replace k8 := Lib.hid k8
  replace k9 : RowKit.Hid (∀ S (l : List Asn) wz, Own w wz (storeA S aw5 :: l) → Calls Try.prog 16 #[chP S] wz (fun e w' => e = .returned (nI 2) ∧ wz.Plus w')) := Lib.hid k9
  clear f1 f2 f3 f4 f5 f6 f7 f8 f9 f10 n1 n2 n3 n4 g1 g2 g3 g4 g5
  go_enter Try.func17, Try.ntmps17
  set_option maxHeartbeats 400000 in
  go_upto_region 5 with (first
    | (go_at_call 18; (with_reducible refine k0.out.mono ?_); rintro e w1 ⟨S, rfl, O1⟩; have OC := Lib.hid O1; clear O1)
    | (go_at_call 37; (with_reducible refine (one_any _ _ _).mono ?_); rintro e w' ⟨rfl, ey, rfl⟩; replace OC := Lib.hid (OC.out.plus ey))
    | (go_at_call 19; (with_reducible refine (k1.out _ _ OC.out).mono ?_); clear k1; rintro e w5 ⟨rfl, O5⟩; replace OC := Lib.hid O5; clear O5)
    | (go_at_call 19; (with_reducible refine (k2.out _ _ OC.out).mono ?_); clear k2; rintro e w5 ⟨rfl, O5⟩; replace OC := Lib.hid O5; clear O5)
    | (go_at_call 19; (with_reducible refine (k3.out _ _ OC.out).mono ?_); clear k3; rintro e w5 ⟨rfl, O5⟩; replace OC := Lib.hid O5; clear O5)
    | (go_at_call 28; (with_reducible refine (k4.out _ _ OC.out).mono ?_); clear k4; rintro e w5 ⟨rfl, O5⟩; replace OC := Lib.hid O5; clear O5)
    | (go_at_call 14; (with_reducible refine (k5.out _ _ OC.out).mono ?_); clear k5; rintro e w' ⟨rfl, ey, rfl⟩; replace OC := Lib.hid (OC.out.plus ey)))
  have O5 := OC.out
  generalize w5.plus ey = wa at *
  clear OC k0
  replace O5 := Lib.hid O5
  go_upto_region 7 with (go_at_call 37; (with_reducible refine (one_any _ _ _).mono ?_); rintro e w' ⟨rfl, ez, rfl⟩)
  have O6 : Own w ((wa.plus ez).alloc (.cells #[nI 0, nI 2, nI 0, nI 5, nI 0, nI 0, nI 0, nI 0, nI 7, nI 0, nI 0] 33)) (storeA S aw4 :: cellsA (wa.plus ez).heap.size [nI 0, nI 2, nI 0, nI 5, nI 0, nI 0, nI 0, nI 0, nI 7, nI 0, nI 0] :: []) := ((O5.out.plus ez).newCells [nI 0, nI 2, nI 0, nI 5, nI 0, nI 0, nI 0, nI 0, nI 7, nI 0, nI 0] 33).rot1
  rw [World.size_plus_eq] at O6
  generalize hCb : wa.heap.size + ez.objs.size = Cb at *
  obtain ⟨wb, hwb⟩ : ∃ wb, (wa.plus ez).alloc (.cells #[nI 0, nI 2, nI 0, nI 5, nI 0, nI 0, nI 0, nI 0, nI 7, nI 0, nI 0] 33) = wb := ⟨_, rfl⟩
  rw [hwb] at O6 ⊢
  clear hwb hCb O5
  obtain ⟨hIn, q0, q1, q2, q3, q4, q5, q6, q7, q8, q9, q10⟩ := boxAt (b := awB) 1 O6 rfl
  replace k6 := Lib.hid (k6.out S _ wb O6)
  replace O6 := Lib.hid O6
  go_upto_region 8 with (go_at_call 25; (with_reducible refine k6.out.mono ?_); rintro e w7 ⟨rfl, O7⟩)
  clear q0 q1 q2 q3 q4 q5 q6 q7 q8 q9 q10 hIn k6 O6
  obtain ⟨hIn, q0, q1, q2, q3, q4, q5, q6, q7, q8, q9, q10⟩ := boxAt (b := awB) 1 O7 rfl
  replace k7 := Lib.hid (k7.out S _ w7 O7)
  replace O7 := Lib.hid O7
  go_upto_region 9 with (go_at_call 13; (with_reducible refine k7.out.mono ?_); rintro e w' ⟨rfl, e3, rfl⟩)
  have O8 : Own w ((w7.plus e3).alloc (.cells #[nI 0, nI 2, nI 0, nI 5, nI 0, nI 0, nI 0, nI 0, nI 7, nI 0, nI 0] 33)) (storeA S aw5 :: cellsA (w7.heap.size + e3.objs.size) [nI 0, nI 2, nI 0, nI 5, nI 0, nI 0, nI 0, nI 0, nI 7, nI 0, nI 0] :: cellsA Cb [nI 0, nI 2, nI 0, nI 5, nI 0, nI 0, nI 0, nI 0, nI 7, nI 0, nI 0] :: []) := by
    have := ((O7.out.plus e3).newCells [nI 0, nI 2, nI 0, nI 5, nI 0, nI 0, nI 0, nI 0, nI 7, nI 0, nI 0] 33).rot1
    rw [World.size_plus_eq] at this
    exact this
  generalize w7.heap.size + e3.objs.size = Bb at *
  obtain ⟨wb8, hwb⟩ : ∃ wb, (w7.plus e3).alloc (.cells #[nI 0, nI 2, nI 0, nI 5, nI 0, nI 0, nI 0, nI 0, nI 7, nI 0, nI 0] 33) = wb := ⟨_, rfl⟩
  rw [hwb] at O8 ⊢
  clear hwb q0 q1 q2 q3 q4 q5 q6 q7 q8 q9 q10 hIn k7 O7
  replace k8 := Lib.hid (k8.out S _ wb8 O8)
  replace O8 := Lib.hid O8
  go_upto_region 10 with (go_at_call 12; (with_reducible refine k8.out.mono ?_); rintro e w9 ⟨A9, c9, L, rfl, O9, hL⟩)
  clear k8 O8
  have hrd := tbl_rd O9
  have hl2 : L.length = 2 := by have := congrArg List.length (hL : L.map (·.2) = _); rw [List.length_map] at this; exact this
  obtain ⟨x0, x1, rfl⟩ : ∃ x0 x1, L = [x0, x1] := by
    match L, hl2 with
    | [x0, x1], _ => exact ⟨x0, x1, rfl⟩
  have hx : x0.2 = (1, [⟨0, 1, 0⟩]) ∧ x1.2 = (5, [⟨0, 2, 0⟩]) := by
    have : [x0.2, x1.2] = _ := hL
    simpa using this
  obtain ⟨g, o, hA, hg, a0, _⟩ := tb_cells hrd 0 x0 rfl
  obtain ⟨g', o', hA', _, b0, _⟩ := tb_cells hrd 1 x1 rfl
  rw [hA] at hA'
  cases hA'
  subst hA
  rw [hx.1] at a0
  rw [hx.2] at b0
  have ht2 : ([x0, x1] : List (Ad × TbR)).length = 2 := rfl
  have OT := (O9.pull 2 rfl)
  replace k9 := Lib.hid (k9.out S _ w9 OT)
  obtain ⟨hIn, q0, q1, q2, q3, q4, q5, q6, q7, q8, q9, q10⟩ := boxAt (b := awB) 3 O9 rfl
  obtain ⟨hIn2, r0, r1, r2, r3, r4, r5, r6, r7, r8, r9, r10⟩ := boxAt (b := awB) 4 O9 rfl
  have hp := Lib.hid O9.p
  have heq := eqBd awB awB
  rw [decide_eq_true rfl] at heq
  simp only [Nat.zero_mul, Nat.add_zero, Nat.one_mul] at a0 b0
  clear O9 OT hrd hL hl2 hx
  go_wp2_with (go_at_call 16; (with_reducible refine k9.out.mono ?_); rintro e w' ⟨rfl, e4, rfl⟩)
  go_ret
  exact ⟨rfl, Plus.plus hp.out e4⟩
end Go.Proofs.Ytanbppejfhnjbaa
