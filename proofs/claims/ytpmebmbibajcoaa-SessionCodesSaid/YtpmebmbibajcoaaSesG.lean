/- session: Decode, and the reference's: walks. -/
import Derived.Test.YtpmebmbibajcoaaSesF
set_option linter.unusedSimpArgs false
set_option linter.unusedVariables false
namespace Go.Proofs.Ytpmebmbibajcoaa
open Go.RowKit
theorem plus_setCell {W w : World} (h : W.Plus w) {b i : Nat} {v : Value} (hb : W.heap.size ≤ b) : W.Plus (w.setCell ⟨b, i, none⟩ v) :=
  (Chg.of_setCell w ⟨b, i, none⟩ v (fun k => k = b) rfl).toPlus h (fun k hk => by omega)
def decOut (p : Post) (d : Int) : Post × Int := if d = 0 ∧ okPost p = true then (p, 0) else (⟨0, 0, 0, 0, ⟨#[]⟩⟩, 2)
theorem rDone_or (s : ByteArray) (b : Bool) : Octs.rDone s b = 0 ∨ Octs.rDone s b = 2 := by
  unfold Octs.rDone
  split
  · exact .inr rfl
  · exact .inl rfl
set_option maxRecDepth 100000 in
set_option maxHeartbeats 1000000 in
theorem decode_core (w : World) (s s1 s2 s3 s4 s5 t : ByteArray) (n1 n2 n3 n4 : Int) (b1 b2 b3 b4 b5 : Bool) (h1 : Octs.rInt s false = (n1, s1, b1)) (h2 : Octs.rInt s1 b1 = (n2, s2, b2)) (h3 : Octs.rInt s2 b2 = (n3, s3, b3)) (h4 : Octs.rInt s3 b3 = (n4, s4, b4)) (h5 : Octs.rText s4 b4 = (t, s5, b5))
    (z0 : s.size ≤ 1000000000) (z1 : s1.size ≤ 1000000000) (z2 : s2.size ≤ 1000000000) (z3 : s3.size ≤ 1000000000) (z4 : s4.size ≤ 1000000000) :
    Calls Try.prog 28 #[.string s] w fun e w' => e = .returned (.tuple #[(decOut ⟨n1, n2, n3, n4, t⟩ (Octs.rDone s5 b5)).1.v, .int .i64 (decOut ⟨n1, n2, n3, n4, t⟩ (Octs.rDone s5 b5)).2]) ∧ w.Plus w' := by
  have O0 := (Own.start w).newCells [.int .i64 0, .int .i64 0, .int .i64 0, .int .i64 0, .string ⟨#[]⟩] 32
  have k0 := Lib.hid (Octs.of_O O0 z0)
  have hr1 := fun (wx : World) N l (O : Own w wx (Octs.rdA N s false :: l)) => Octs.rdInt_O O z0
  have hr2 := fun (wx : World) N l (O : Own w wx (Octs.rdA N s1 b1 :: l)) => Octs.rdInt_O O z1
  have hr3 := fun (wx : World) N l (O : Own w wx (Octs.rdA N s2 b2 :: l)) => Octs.rdInt_O O z2
  have hr4 := fun (wx : World) N l (O : Own w wx (Octs.rdA N s3 b3 :: l)) => Octs.rdInt_O O z3
  have hr5 := fun (wx : World) N l (O : Own w wx (Octs.rdA N s4 b4 :: l)) => Octs.rdText_O O z4
  have hr6 := fun (wx : World) N l (O : Own w wx (Octs.rdA N s5 b5 :: l)) => Octs.rdDone_O O
  rw [h1] at hr1
  rw [h2] at hr2
  rw [h3] at hr3
  rw [h4] at hr4
  rw [h5] at hr5
  simp only at hr1 hr2 hr3 hr4 hr5
  have hC := fun w => check_any w ⟨n1, n2, n3, n4, t⟩
  have hdO := rDone_or s5 b5
  generalize Octs.rDone s5 b5 = d at *
  have hV : decOut ⟨n1, n2, n3, n4, t⟩ d = if d = 0 ∧ okPost ⟨n1, n2, n3, n4, t⟩ = true then (⟨n1, n2, n3, n4, t⟩, 0) else (⟨0, 0, 0, 0, ⟨#[]⟩⟩, 2) := rfl
  generalize decOut ⟨n1, n2, n3, n4, t⟩ d = V at *
  generalize okPost ⟨n1, n2, n3, n4, t⟩ = K at *
  simp only [Post.v] at hC
  clear h1 h2 h3 h4 h5 z0 z1 z2 z3 z4
  replace hr1 := Lib.hid hr1
  replace hr2 := Lib.hid hr2
  replace hr3 := Lib.hid hr3
  replace hr4 := Lib.hid hr4
  replace hr5 := Lib.hid hr5
  replace hr6 := Lib.hid hr6
  replace hC := Lib.hid hC
  replace hV := Lib.hid hV
  go_enter Try.func28, Try.ntmps28
  go_upto_region 3 with (first | (go_at_call 40; (with_reducible refine k0.out.mono ?_); rintro e w1 ⟨N, rfl, O1⟩) | (go_at_call 41; (with_reducible refine (hr1.out _ _ _ O1).mono ?_); rintro e w2 ⟨rfl, O2⟩) | (go_at_call 41; (with_reducible refine (hr2.out _ _ _ O2).mono ?_); rintro e w3 ⟨rfl, O3⟩) | (go_at_call 41; (with_reducible refine (hr3.out _ _ _ O3).mono ?_); rintro e w4 ⟨rfl, O4⟩) | (go_at_call 41; (with_reducible refine (hr4.out _ _ _ O4).mono ?_); rintro e w5 ⟨rfl, O5⟩) | (go_at_call 42; (with_reducible refine (hr5.out _ _ _ O5).mono ?_); rintro e w6 ⟨rfl, O6⟩))
  obtain ⟨l1, a1, f1⟩ := O6.cells 1 rfl
  haveI : InW w.heap.size w6 := ⟨l1⟩
  have g0 := a1 0 (by simp)
  have g1 := a1 1 (by simp)
  have g2 := a1 2 (by simp)
  have g3 := a1 3 (by simp)
  have g4 := a1 4 (by simp)
  simp only [List.getElem?_cons_succ, List.getElem?_cons_zero] at g0 g1 g2 g3 g4
  have e0 := f1 0
  have e1 := f1 1
  have e2 := f1 2
  have e3 := f1 3
  have e4 := f1 4
  have hp := O6.p
  have k6 := Lib.hid (hr6.out _ _ _ (O6.alloc (.cells #[.int .i64 n1, .int .i64 n2, .int .i64 n3, .int .i64 n4, .string t] 32)))
  clear a1 f1 O0 O1 O2 O3 O4 O5 O6 k0 hr1 hr2 hr3 hr4 hr5 hr6
  rcases hdO with rfl | rfl
  · cases K with
    | true =>
      have hV' := hV.out
      rw [if_pos ⟨rfl, rfl⟩] at hV'
      subst hV'
      clear hV
      go_wp2_with (first | (go_at_call 43; (with_reducible refine k6.out.mono ?_); rintro e w' ⟨rfl, x1, rfl⟩) | (go_at_call 30; (with_reducible refine (hC.out _).mono ?_); rintro e w' ⟨rfl, x2, rfl⟩))
      refine bodyPost_ret (v := .tuple #[.agg #[.int .i64 n1, .int .i64 n2, .int .i64 n3, .int .i64 n4, .string t], .int .i64 0]) (by simp [results, Try.results28, go_sem, g0, g1, g2, g3, g4]) rfl ⟨rfl, ?_⟩
      repeat (first | with_reducible exact hp | with_reducible apply Plus.plus | with_reducible apply Plus.alloc | with_reducible refine plus_setCell ?_ (Nat.le_refl _))
    | false =>
      have hV' := hV.out
      rw [if_neg (by simp)] at hV'
      subst hV'
      clear hV
      go_wp2_with (first | (go_at_call 43; (with_reducible refine k6.out.mono ?_); rintro e w' ⟨rfl, x1, rfl⟩) | (go_at_call 30; (with_reducible refine (hC.out _).mono ?_); rintro e w' ⟨rfl, x2, rfl⟩))
      refine bodyPost_ret (v := .tuple #[.agg #[.int .i64 0, .int .i64 0, .int .i64 0, .int .i64 0, .string ⟨#[]⟩], .int .i64 2]) (by simp [results, Try.results28, go_sem, g0, g1, g2, g3, g4]) rfl ⟨rfl, ?_⟩
      repeat (first | with_reducible exact hp | with_reducible apply Plus.plus | with_reducible apply Plus.alloc | with_reducible refine plus_setCell ?_ (Nat.le_refl _))
  · have hV' := hV.out
    rw [if_neg (by simp)] at hV'
    subst hV'
    clear hV
    go_wp2_with (first | (go_at_call 43; (with_reducible refine k6.out.mono ?_); rintro e w' ⟨rfl, x1, rfl⟩) | (go_at_call 30; (with_reducible refine (hC.out _).mono ?_); rintro e w' ⟨rfl, x2, rfl⟩))
    refine bodyPost_ret (v := .tuple #[.agg #[.int .i64 0, .int .i64 0, .int .i64 0, .int .i64 0, .string ⟨#[]⟩], .int .i64 2]) (by simp [results, Try.results28, go_sem, g0, g1, g2, g3, g4]) rfl ⟨rfl, ?_⟩
    repeat (first | with_reducible exact hp | with_reducible apply Plus.plus | with_reducible apply Plus.alloc | with_reducible refine plus_setCell ?_ (Nat.le_refl _))
set_option maxRecDepth 100000 in
set_option maxHeartbeats 1000000 in
theorem refDecode_core (w : World) (s s1 s2 s3 s4 s5 t : ByteArray) (n1 n2 n3 n4 : Int) (b1 b2 b3 b4 b5 : Bool) (h1 : Octs.rInt s false = (n1, s1, b1)) (h2 : Octs.rInt s1 b1 = (n2, s2, b2)) (h3 : Octs.rInt s2 b2 = (n3, s3, b3)) (h4 : Octs.rInt s3 b3 = (n4, s4, b4)) (h5 : Octs.rText s4 b4 = (t, s5, b5))
    (z0 : s.size ≤ 1000000000) (z1 : s1.size ≤ 1000000000) (z2 : s2.size ≤ 1000000000) (z3 : s3.size ≤ 1000000000) (z4 : s4.size ≤ 1000000000) (v1 : b1 = true → s1 = ⟨#[]⟩) (v2 : b2 = true → s2 = ⟨#[]⟩) (v3 : b3 = true → s3 = ⟨#[]⟩) (v4 : b4 = true → s4 = ⟨#[]⟩) (z5 : s5.size ≤ 1000000000) :
    Calls Try.prog 29 #[.string s] w fun e w' => e = .returned (.tuple #[(decOut ⟨n1, n2, n3, n4, t⟩ (Octs.rDone s5 b5)).1.v, .int .i64 (decOut ⟨n1, n2, n3, n4, t⟩ (Octs.rDone s5 b5)).2]) ∧ w.Plus w' := by
  have O0 := (Own.start w).newCells [.int .i64 0, .int .i64 0, .int .i64 0, .int .i64 0, .string ⟨#[]⟩] 32
  have X0 := Own.add (Q := Octs.rdA (w.heap.size + 1) s false) (A := fun k => k = w.heap.size + 1) O0 (Chg.of_alloc _ (.cells #[.string s, .bool false] 102) _) ⟨fun k => Iff.rfl, by simp, by simp [go_sem], by simp [go_sem], by simp [go_sem], by simp [go_sem]⟩ (fun k hk => by subst hk; simp)
  have Y0 := (X0.newCells [.int .i64 0, .int .i64 0, .int .i64 0, .int .i64 0, .string ⟨#[]⟩] 32).rot1
  simp only [World.size_alloc] at Y0
  have hr1 := fun (wx : World) N l (O : Own w wx (Octs.rdA N s false :: l)) => Octs.refRdInt_O O z0 (fun h => by cases h)
  have hr2 := fun (wx : World) N l (O : Own w wx (Octs.rdA N s1 b1 :: l)) => Octs.refRdInt_O O z1 v1
  have hr3 := fun (wx : World) N l (O : Own w wx (Octs.rdA N s2 b2 :: l)) => Octs.refRdInt_O O z2 v2
  have hr4 := fun (wx : World) N l (O : Own w wx (Octs.rdA N s3 b3 :: l)) => Octs.refRdInt_O O z3 v3
  have hr5 := fun (wx : World) N l (O : Own w wx (Octs.rdA N s4 b4 :: l)) => Octs.refRdText_O O z4 v4
  rw [h1] at hr1
  rw [h2] at hr2
  rw [h3] at hr3
  rw [h4] at hr4
  rw [h5] at hr5
  simp only at hr1 hr2 hr3 hr4 hr5
  have hC := fun w => may_any w ⟨n1, n2, n3, n4, t⟩
  have hV : ∀ d, decOut ⟨n1, n2, n3, n4, t⟩ d = if d = 0 ∧ okPost ⟨n1, n2, n3, n4, t⟩ = true then (⟨n1, n2, n3, n4, t⟩, 0) else (⟨0, 0, 0, 0, ⟨#[]⟩⟩, 2) := fun d => rfl
  have hD : Octs.rDone s5 b5 = if b5 ∨ s5 ≠ ⟨#[]⟩ then 2 else 0 := rfl
  replace hV := hV (Octs.rDone s5 b5)
  generalize Octs.rDone s5 b5 = d at *
  generalize decOut ⟨n1, n2, n3, n4, t⟩ d = V at *
  generalize okPost ⟨n1, n2, n3, n4, t⟩ = K at *
  simp only [Post.v] at hC
  clear h1 h2 h3 h4 h5 z0 z1 z2 z3 z4 v1 v2 v3 v4 O0 X0
  replace hr1 := Lib.hid hr1
  replace hr2 := Lib.hid hr2
  replace hr3 := Lib.hid hr3
  replace hr4 := Lib.hid hr4
  replace hr5 := Lib.hid hr5
  replace hC := Lib.hid hC
  replace hV := Lib.hid hV
  replace hD := Lib.hid hD
  go_enter Try.func29, Try.ntmps29
  go_upto_region 3 with fail
  obtain ⟨P, hP⟩ : ∃ P, P = w.heap.size + 1 + 1 := ⟨_, rfl⟩
  obtain ⟨R, hR⟩ : ∃ R, R = w.heap.size + 1 := ⟨_, rfl⟩
  have hP0 : w.heap.size ≤ P := by omega
  simp only [← hP] at Y0 ⊢
  simp only [← hR] at Y0 ⊢
  have k1 := Lib.hid (hr1.out _ _ _ Y0)
  clear Y0 hP hR
  go_upto_region 4 with (go_at_call 44; (with_reducible refine k1.out.mono ?_); rintro e wa1 ⟨rfl, O1⟩; obtain ⟨l1, q1, f1⟩ := O1.cells 1 rfl; haveI : InW P wa1 := ⟨l1⟩; have qc1 := q1 0 (by simp); have fc1 := f1 0; simp only [List.getElem?_cons_succ, List.getElem?_cons_zero] at qc1; clear q1 f1)
  have U1 := (Own.setCell (i := 0) (v := .int .i64 n1) O1.rot1 (by simp)).rot1
  simp only [List.set_cons_succ, List.set_cons_zero] at U1
  obtain ⟨wb1, hwb⟩ : ∃ wb1, wb1 = wa1.setCell ⟨P, 0, none⟩ (.int .i64 n1) := ⟨_, rfl⟩
  rw [← hwb] at U1 ⊢
  clear hwb qc1 fc1 O1 k1
  have k2 := Lib.hid (hr2.out _ _ _ U1)
  clear U1 hr1
  go_upto_region 5 with (go_at_call 44; (with_reducible refine k2.out.mono ?_); rintro e wa2 ⟨rfl, O2⟩; obtain ⟨l2, q2, f2⟩ := O2.cells 1 rfl; haveI : InW P wa2 := ⟨l2⟩; have qc2 := q2 1 (by simp); have fc2 := f2 1; simp only [List.getElem?_cons_succ, List.getElem?_cons_zero] at qc2; clear q2 f2)
  have U2 := (Own.setCell (i := 1) (v := .int .i64 n2) O2.rot1 (by simp)).rot1
  simp only [List.set_cons_succ, List.set_cons_zero] at U2
  obtain ⟨wb2, hwb⟩ : ∃ wb2, wb2 = wa2.setCell ⟨P, 1, none⟩ (.int .i64 n2) := ⟨_, rfl⟩
  rw [← hwb] at U2 ⊢
  clear hwb qc2 fc2 O2 k2
  have k3 := Lib.hid (hr3.out _ _ _ U2)
  clear U2 hr2
  go_upto_region 6 with (go_at_call 44; (with_reducible refine k3.out.mono ?_); rintro e wa3 ⟨rfl, O3⟩; obtain ⟨l3, q3, f3⟩ := O3.cells 1 rfl; haveI : InW P wa3 := ⟨l3⟩; have qc3 := q3 2 (by simp); have fc3 := f3 2; simp only [List.getElem?_cons_succ, List.getElem?_cons_zero] at qc3; clear q3 f3)
  have U3 := (Own.setCell (i := 2) (v := .int .i64 n3) O3.rot1 (by simp)).rot1
  simp only [List.set_cons_succ, List.set_cons_zero] at U3
  obtain ⟨wb3, hwb⟩ : ∃ wb3, wb3 = wa3.setCell ⟨P, 2, none⟩ (.int .i64 n3) := ⟨_, rfl⟩
  rw [← hwb] at U3 ⊢
  clear hwb qc3 fc3 O3 k3
  have k4 := Lib.hid (hr4.out _ _ _ U3)
  clear U3 hr3
  go_upto_region 7 with (go_at_call 44; (with_reducible refine k4.out.mono ?_); rintro e wa4 ⟨rfl, O4⟩; obtain ⟨l4, q4, f4⟩ := O4.cells 1 rfl; haveI : InW P wa4 := ⟨l4⟩; have qc4 := q4 3 (by simp); have fc4 := f4 3; simp only [List.getElem?_cons_succ, List.getElem?_cons_zero] at qc4; clear q4 f4)
  have U4 := (Own.setCell (i := 3) (v := .int .i64 n4) O4.rot1 (by simp)).rot1
  simp only [List.set_cons_succ, List.set_cons_zero] at U4
  obtain ⟨wb4, hwb⟩ : ∃ wb4, wb4 = wa4.setCell ⟨P, 3, none⟩ (.int .i64 n4) := ⟨_, rfl⟩
  rw [← hwb] at U4 ⊢
  clear hwb qc4 fc4 O4 k4
  have k5 := Lib.hid (hr5.out _ _ _ U4)
  clear U4 hr4
  go_upto_region 8 with (go_at_call 45; (with_reducible refine k5.out.mono ?_); rintro e wa5 ⟨rfl, O5⟩; obtain ⟨l5, q5, f5⟩ := O5.cells 1 rfl; haveI : InW P wa5 := ⟨l5⟩; have qc5 := q5 4 (by simp); have fc5 := f5 4; simp only [List.getElem?_cons_succ, List.getElem?_cons_zero] at qc5; clear q5 f5)
  have U5 := (Own.setCell (i := 4) (v := .string t) O5.rot1 (by simp)).rot1
  simp only [List.set_cons_succ, List.set_cons_zero] at U5
  obtain ⟨wb5, hwb⟩ : ∃ wb5, wb5 = wa5.setCell ⟨P, 4, none⟩ (.string t) := ⟨_, rfl⟩
  rw [← hwb] at U5 ⊢
  clear hwb qc5 fc5 O5 k5
  clear hr5
  obtain ⟨lP, qP, fP⟩ := U5.cells 1 rfl
  obtain ⟨lR, qR, fR⟩ := U5.cells 2 rfl
  haveI : InW P wb5 := ⟨lP⟩
  haveI : InW w.heap.size wb5 := ⟨lR⟩
  have p0 := qP 0 (by simp)
  have p1 := qP 1 (by simp)
  have p2 := qP 2 (by simp)
  have p3 := qP 3 (by simp)
  have p4 := qP 4 (by simp)
  have r0 := qR 0 (by simp)
  have r1 := qR 1 (by simp)
  have r2 := qR 2 (by simp)
  have r3 := qR 3 (by simp)
  have r4 := qR 4 (by simp)
  simp only [List.getElem?_cons_succ, List.getElem?_cons_zero] at p0 p1 p2 p3 p4 r0 r1 r2 r3 r4
  have e0 := fR 0
  have e1 := fR 1
  have e2 := fR 2
  have e3 := fR 3
  have e4 := fR 4
  obtain ⟨lN, c0, c1, _, _⟩ := Octs.Own.rd 0 U5 rfl
  haveI : InW R wb5 := ⟨lN⟩
  have hp := U5.p
  clear qP qR fP fR U5
  have hfin : d = 0 ∧ K = true ∧ b5 = false ∧ s5 = ⟨#[]⟩ ∨ (b5 = true ∨ 0 < s5.size ∨ K = false) ∧ V = (⟨0, 0, 0, 0, ⟨#[]⟩⟩, 2) := by
    have hV' := hV.out
    have hD' := hD.out
    cases b5 with
    | true => exact .inr ⟨.inl rfl, by rw [hV', if_neg]; rw [hD', if_pos (.inl rfl)]; simp⟩
    | false =>
      by_cases h0 : s5 = ⟨#[]⟩
      · rw [if_neg (by simp [h0])] at hD'
        cases K with
        | true => exact .inl ⟨hD', rfl, rfl, h0⟩
        | false => exact .inr ⟨.inr (.inr rfl), by rw [hV', if_neg (by simp)]⟩
      · refine .inr ⟨.inr (.inl ?_), by rw [hV', if_neg]; rw [hD', if_pos (.inr h0)]; simp⟩
        rcases Nat.eq_zero_or_pos s5.size with h | h
        · exact absurd ((size_zero s5).1 h) h0
        · exact h
  rcases hfin with ⟨rfl, rfl, rfl, rfl⟩ | ⟨hb, rfl⟩
  · have hV' := hV.out
    rw [if_pos ⟨rfl, rfl⟩] at hV'
    subst hV'
    clear hV hD
    go_wp2_with (go_at_call 33; (with_reducible refine (hC.out _).mono ?_); rintro e w' ⟨rfl, x2, rfl⟩)
    refine bodyPost_ret (v := .tuple #[.agg #[.int .i64 n1, .int .i64 n2, .int .i64 n3, .int .i64 n4, .string t], .int .i64 0]) (by simp [results, Try.results29, go_sem, r0, r1, r2, r3, r4]) rfl ⟨rfl, ?_⟩
    repeat (first | with_reducible exact hp | with_reducible apply Plus.plus | with_reducible apply Plus.alloc | with_reducible refine plus_setCell ?_ (Nat.le_refl _))
  · clear hV hD
    cases b5 with
    | true =>
      clear hb
      go_wp2_with (go_at_call 33; (with_reducible refine (hC.out _).mono ?_); rintro e w' ⟨rfl, x2, rfl⟩)
      refine bodyPost_ret (v := .tuple #[.agg #[.int .i64 0, .int .i64 0, .int .i64 0, .int .i64 0, .string ⟨#[]⟩], .int .i64 2]) (by simp [results, Try.results29, go_sem, r0, r1, r2, r3, r4]) rfl ⟨rfl, ?_⟩
      repeat (first | with_reducible exact hp | with_reducible apply Plus.plus | with_reducible apply Plus.alloc | with_reducible refine plus_setCell ?_ (Nat.le_refl _))
    | false =>
      by_cases h0 : 0 < s5.size
      · have h0i : (0 : Int) < s5.size := by omega
        have h0b : decide (0 < s5.size) = true := decide_eq_true h0
        clear hb
        go_wp2_with (go_at_call 33; (with_reducible refine (hC.out _).mono ?_); rintro e w' ⟨rfl, x2, rfl⟩)
        refine bodyPost_ret (v := .tuple #[.agg #[.int .i64 0, .int .i64 0, .int .i64 0, .int .i64 0, .string ⟨#[]⟩], .int .i64 2]) (by simp [results, Try.results29, go_sem, r0, r1, r2, r3, r4]) rfl ⟨rfl, ?_⟩
        repeat (first | with_reducible exact hp | with_reducible apply Plus.plus | with_reducible apply Plus.alloc | with_reducible refine plus_setCell ?_ (Nat.le_refl _))
      · have hk : K = false := by rcases hb with h | h | h; · cases h
                                  · exact absurd h h0
                                  · exact h
        subst hk
        have h0i : ¬ (0 : Int) < s5.size := by omega
        have h0b : decide (0 < s5.size) = false := decide_eq_false h0
        clear hb
        go_wp2_with (go_at_call 33; (with_reducible refine (hC.out _).mono ?_); rintro e w' ⟨rfl, x2, rfl⟩)
        refine bodyPost_ret (v := .tuple #[.agg #[.int .i64 0, .int .i64 0, .int .i64 0, .int .i64 0, .string ⟨#[]⟩], .int .i64 2]) (by simp [results, Try.results29, go_sem, r0, r1, r2, r3, r4]) rfl ⟨rfl, ?_⟩
        repeat (first | with_reducible exact hp | with_reducible apply Plus.plus | with_reducible apply Plus.alloc | with_reducible refine plus_setCell ?_ (Nat.le_refl _))
/-- what a text's bytes are read as -/
def decR1 (s : ByteArray) := Octs.rInt s false
def decR2 (s : ByteArray) := Octs.rInt (decR1 s).2.1 (decR1 s).2.2
def decR3 (s : ByteArray) := Octs.rInt (decR2 s).2.1 (decR2 s).2.2
def decR4 (s : ByteArray) := Octs.rInt (decR3 s).2.1 (decR3 s).2.2
def decR5 (s : ByteArray) := Octs.rText (decR4 s).2.1 (decR4 s).2.2
def dec (s : ByteArray) : Post × Int := decOut ⟨(decR1 s).1, (decR2 s).1, (decR3 s).1, (decR4 s).1, (decR5 s).1⟩ (Octs.rDone (decR5 s).2.1 (decR5 s).2.2)
theorem dec_sizes (s : ByteArray) : (decR1 s).2.1.size ≤ s.size ∧ (decR2 s).2.1.size ≤ s.size ∧ (decR3 s).2.1.size ≤ s.size ∧ (decR4 s).2.1.size ≤ s.size ∧ (decR5 s).2.1.size ≤ s.size := by
  have h1 : (decR1 s).2.1.size ≤ _ := Octs.rInt_size s false
  have h2 : (decR2 s).2.1.size ≤ _ := Octs.rInt_size _ _
  have h3 : (decR3 s).2.1.size ≤ _ := Octs.rInt_size _ _
  have h4 : (decR4 s).2.1.size ≤ _ := Octs.rInt_size _ _
  have h5 : (decR5 s).2.1.size ≤ _ := Octs.rText_size _ _
  exact ⟨h1, by omega, by omega, by omega, by omega⟩
theorem dec_invs (s : ByteArray) : ((decR1 s).2.2 = true → (decR1 s).2.1 = ⟨#[]⟩) ∧ ((decR2 s).2.2 = true → (decR2 s).2.1 = ⟨#[]⟩) ∧ ((decR3 s).2.2 = true → (decR3 s).2.1 = ⟨#[]⟩) ∧ ((decR4 s).2.2 = true → (decR4 s).2.1 = ⟨#[]⟩) := by
  have h1 := Octs.rInt_inv s false (fun h => by cases h)
  have h2 := Octs.rInt_inv _ _ h1
  have h3 := Octs.rInt_inv _ _ h2
  exact ⟨h1, h2, h3, Octs.rInt_inv _ _ h3⟩
theorem decode_any (w : World) (s : ByteArray) (h : s.size ≤ 1000000000) : Calls Try.prog 28 #[.string s] w fun e w' => e = .returned (.tuple #[(dec s).1.v, .int .i64 (dec s).2]) ∧ w.Plus w' := by
  obtain ⟨z1, z2, z3, z4, z5⟩ := dec_sizes s
  exact decode_core w s _ _ _ _ _ _ _ _ _ _ _ _ _ _ _ rfl rfl rfl rfl rfl h (Nat.le_trans z1 h) (Nat.le_trans z2 h) (Nat.le_trans z3 h) (Nat.le_trans z4 h)
theorem refDecode_any (w : World) (s : ByteArray) (h : s.size ≤ 1000000000) : Calls Try.prog 29 #[.string s] w fun e w' => e = .returned (.tuple #[(dec s).1.v, .int .i64 (dec s).2]) ∧ w.Plus w' := by
  obtain ⟨z1, z2, z3, z4, z5⟩ := dec_sizes s
  obtain ⟨v1, v2, v3, v4⟩ := dec_invs s
  exact refDecode_core w s _ _ _ _ _ _ _ _ _ _ _ _ _ _ _ rfl rfl rfl rfl rfl h (Nat.le_trans z1 h) (Nat.le_trans z2 h) (Nat.le_trans z3 h) (Nat.le_trans z4 h) v1 v2 v3 v4 (Nat.le_trans z5 h)
theorem dec_enc (p : Post) (h : okPost p = true) : dec (encP p) = (p, 0) := by
  obtain ⟨b1, b2, b3, b4⟩ := okPost_bounds h
  have b5 := okPost_text h
  obtain ⟨m, y, a, s, t⟩ := p
  simp only at b1 b2 b3 b4 b5
  have e : encP ⟨m, y, a, s, t⟩ = Octs.txt (Octs.enc m ++ (Octs.enc y ++ (Octs.enc a ++ (Octs.enc s ++ (Octs.encT t ++ []))))) := by
    unfold encP
    simp only [Octs.txt_append, List.append_assoc, List.append_nil]
  have r1 : decR1 (encP ⟨m, y, a, s, t⟩) = (m, Octs.txt (Octs.enc y ++ (Octs.enc a ++ (Octs.enc s ++ (Octs.encT t ++ [])))), false) := by unfold decR1; rw [e, Octs.rInt_enc m (inT_64 (by omega))]
  have r2 : decR2 (encP ⟨m, y, a, s, t⟩) = (y, Octs.txt (Octs.enc a ++ (Octs.enc s ++ (Octs.encT t ++ []))), false) := by unfold decR2; rw [r1, Octs.rInt_enc y (inT_64 b2)]
  have r3 : decR3 (encP ⟨m, y, a, s, t⟩) = (a, Octs.txt (Octs.enc s ++ (Octs.encT t ++ [])), false) := by unfold decR3; rw [r2, Octs.rInt_enc a (inT_64 b3)]
  have r4 : decR4 (encP ⟨m, y, a, s, t⟩) = (s, Octs.txt (Octs.encT t ++ []), false) := by unfold decR4; rw [r3, Octs.rInt_enc s (inT_64 b4)]
  have r5 : decR5 (encP ⟨m, y, a, s, t⟩) = (t, Octs.txt [], false) := by unfold decR5; rw [r4, Octs.rText_enc t (by omega)]
  unfold dec
  rw [r1, r2, r3, r4, r5]
  exact if_pos ⟨rfl, h⟩
end Go.Proofs.Ytpmebmbibajcoaa
