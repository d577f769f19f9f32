/- Plain laws and walks: SesF, SesG. -/
import Derived.Test.YthmfmpkkbgapoaaGs
import Derived.Test.YthmfmpkkbgapoaaGc
-- SesF
/- session: Encode, Decode, and the reference's: walks. -/
set_option linter.unusedSimpArgs false
set_option linter.unusedVariables false
namespace Go.Proofs.Ythmfmpkkbgapoaa.Ses
open Go.RowKit
def encP (p : Post) : ByteArray := Octs.txt (Octs.enc p.mine ++ (Octs.enc p.yours ++ (Octs.enc p.ack ++ Octs.enc p.seq))) ++ Octs.txt (Octs.encT p.text)
theorem inT_64 {n : Int} (h : 0 ≤ n ∧ n ≤ 1099511627776) : Octs.In64 n := ⟨by omega, by omega⟩
theorem okPost_text {p : Post} (h : okPost p = true) : p.text.size ≤ 65472 := by
  unfold okPost at h
  simp only [Bool.and_eq_true, decide_eq_true_eq] at h
  omega
set_option maxRecDepth 100000 in
theorem encode_bad (w : World) (p : Post) (h : okPost p = false) : Calls Try.prog 30 #[p.v] w fun e w' => e = .returned (.tuple #[.string ⟨#[]⟩, .int .i64 1]) ∧ w.Plus w' := by
  have hC := fun w => check_any w p
  rw [h] at hC
  obtain ⟨m, y, a, s, t⟩ := p
  simp only [Post.v] at hC ⊢
  replace hC := Lib.hid hC
  replace h := Lib.hid h
  go_enter Try.func30, Try.ntmps30
  go_wp2_with (go_at_call 52; (with_reducible refine (hC.out _).mono ?_); rintro e w' ⟨rfl, e1, rfl⟩)
  go_ret2
  exact ⟨rfl, by (repeat (first | exact Plus.refl _ | apply Plus.plus | apply Plus.alloc | apply Plus.drew))⟩
set_option maxRecDepth 100000 in
set_option maxHeartbeats 1000000 in
theorem encode_good (w : World) (p : Post) (h : okPost p = true) : Calls Try.prog 30 #[p.v] w fun e w' => e = .returned (.tuple #[.string (encP p), .int .i64 0]) ∧ w.Plus w' := by
  have hC := fun w => check_any w p
  rw [h, if_pos rfl] at hC
  obtain ⟨b1, b2, b3, b4⟩ := okPost_bounds h
  have b5 := okPost_text h
  obtain ⟨m, y, a, s, t⟩ := p
  unfold encP
  simp only [Post.v] at hC b1 b2 b3 b4 b5 ⊢
  have hI := fun w b' c [InW b' w] h0 h1 h2 h3 => Octs.int_at4 w b' c m y a s h0 h1 h2 h3 (inT_64 (by omega)) (inT_64 b2) (inT_64 b3) (inT_64 b4)
  have hT := fun w b' c [InW b' w] h0 => Octs.text_at1 w b' c t h0 (by omega)
  have z1 := Octs.enc_le m
  have z2 := Octs.enc_le y
  have z3 := Octs.enc_le a
  have z4 := Octs.enc_le s
  have hX : (Octs.txt (Octs.enc m ++ (Octs.enc y ++ (Octs.enc a ++ Octs.enc s)))).size ≤ 36 := by
    rw [Octs.txt_size]
    simp only [List.length_append]
    omega
  have hY : (Octs.txt (Octs.encT t)).size ≤ 65481 := by
    rw [Octs.txt_size]
    have := Octs.encT_length t
    omega
  clear z1 z2 z3 z4
  generalize Octs.txt (Octs.enc m ++ (Octs.enc y ++ (Octs.enc a ++ Octs.enc s))) = X at *
  generalize Octs.txt (Octs.encT t) = Y at *
  have hXY : ¬ 9223372036854775807 < X.size + Y.size := by omega
  replace hI := Lib.hid hI
  replace hT := Lib.hid hT
  replace hC := Lib.hid hC
  replace h := Lib.hid h
  go_enter Try.func30, Try.ntmps30
  go_upto_region 4 with (go_at_call 52; (with_reducible refine (hC.out _).mono ?_); rintro e w' ⟨rfl, e1, rfl⟩)
  go_region_held3 (fun w' => w'.cell? ⟨w.heap.size, 0, none⟩ = some (.int .i64 m) ∧ w'.cell? ⟨w.heap.size, 1, none⟩ = some (.int .i64 y) ∧ w'.cell? ⟨w.heap.size, 2, none⟩ = some (.int .i64 a) ∧ w'.cell? ⟨w.heap.size, 3, none⟩ = some (.int .i64 s) ∧ w'.cell? ⟨w.heap.size, 4, none⟩ = some (.string t)) (simp [go_sem]) (first | (go_at_call 20; (with_reducible refine (hI.out _ _ _ (by first | (simp [go_sem]; done) | fail) (by first | (simp [go_sem]; done) | fail) (by first | (simp [go_sem]; done) | fail) (by first | (simp [go_sem]; done) | fail)).mono ?_); rintro e w' ⟨rfl, e1, rfl⟩) | (go_at_call 53; (with_reducible refine (hT.out _ _ _ (by first | (simp [go_sem]; done) | fail)).mono ?_); rintro e w' ⟨rfl, e1, rfl⟩))
  all_goals (go_wp2_with fail; go_ret2; exact ⟨rfl, by (repeat (first | exact Plus.refl _ | apply Plus.plus | apply Plus.alloc | apply Plus.drew))⟩)
end Go.Proofs.Ythmfmpkkbgapoaa.Ses
-- SesG
/- session: Decode, and the reference's: walks. -/
set_option linter.unusedSimpArgs false
set_option linter.unusedVariables false
namespace Go.Proofs.Ythmfmpkkbgapoaa.Ses
open Go.RowKit
theorem plus_setCell {W w : World} (h : W.Plus w) {b i : Nat} {v : Value} (hb : W.heap.size ≤ b) : W.Plus (w.setCell ⟨b, i, none⟩ v) :=
  (Chg.of_setCell w ⟨b, i, none⟩ v (fun k => k = b) rfl).toPlus h (fun k hk => by omega)
def decOut (p : Post) (d : Int) : Post × Int := if d = 0 ∧ okPost p = true then (p, 0) else (⟨0, 0, 0, 0, ⟨#[]⟩⟩, 2)
theorem rDone_or (s : ByteArray) (b : Bool) : Octs.rDone s b = 0 ∨ Octs.rDone s b = 2 := by
  unfold Octs.rDone
  split
  · exact .inr rfl
  · exact .inl rfl
set_option maxRecDepth 100000 in
set_option maxHeartbeats 1000000 in
theorem decode_core (w : World) (s s1 s2 s3 s4 s5 t : ByteArray) (n1 n2 n3 n4 : Int) (b1 b2 b3 b4 b5 : Bool) (h1 : Octs.rInt s false = (n1, s1, b1)) (h2 : Octs.rInt s1 b1 = (n2, s2, b2)) (h3 : Octs.rInt s2 b2 = (n3, s3, b3)) (h4 : Octs.rInt s3 b3 = (n4, s4, b4)) (h5 : Octs.rText s4 b4 = (t, s5, b5))
    (z0 : s.size ≤ 281474976710656) (z1 : s1.size ≤ 281474976710656) (z2 : s2.size ≤ 281474976710656) (z3 : s3.size ≤ 281474976710656) (z4 : s4.size ≤ 281474976710656) :
    Calls Try.prog 32 #[.string s] w fun e w' => e = .returned (.tuple #[(decOut ⟨n1, n2, n3, n4, t⟩ (Octs.rDone s5 b5)).1.v, .int .i64 (decOut ⟨n1, n2, n3, n4, t⟩ (Octs.rDone s5 b5)).2]) ∧ w.Plus w' := by
  have O0 := (Own.start w).newCells [.int .i64 0, .int .i64 0, .int .i64 0, .int .i64 0, .string ⟨#[]⟩] 90
  have k0 := Lib.hid (Octs.of_O O0 z0)
  have hr1 := fun (wx : World) N l (O : Own w wx (Octs.rdA N s false :: l)) => Octs.rdInt_O O z0
  have hr2 := fun (wx : World) N l (O : Own w wx (Octs.rdA N s1 b1 :: l)) => Octs.rdInt_O O z1
  have hr3 := fun (wx : World) N l (O : Own w wx (Octs.rdA N s2 b2 :: l)) => Octs.rdInt_O O z2
  have hr4 := fun (wx : World) N l (O : Own w wx (Octs.rdA N s3 b3 :: l)) => Octs.rdInt_O O z3
  have hr5 := fun (wx : World) N l (O : Own w wx (Octs.rdA N s4 b4 :: l)) => Octs.rdText_O O z4
  have hr6 := fun (wx : World) N l (O : Own w wx (Octs.rdA N s5 b5 :: l)) => Octs.rdDone_O O
  rw [h1] at hr1
  rw [h2] at hr2
  rw [h3] at hr3
  rw [h4] at hr4
  rw [h5] at hr5
  simp only at hr1 hr2 hr3 hr4 hr5
  have hC := fun w => check_any w ⟨n1, n2, n3, n4, t⟩
  have hdO := rDone_or s5 b5
  generalize Octs.rDone s5 b5 = d at *
  have hV : decOut ⟨n1, n2, n3, n4, t⟩ d = if d = 0 ∧ okPost ⟨n1, n2, n3, n4, t⟩ = true then (⟨n1, n2, n3, n4, t⟩, 0) else (⟨0, 0, 0, 0, ⟨#[]⟩⟩, 2) := rfl
  generalize decOut ⟨n1, n2, n3, n4, t⟩ d = V at *
  generalize okPost ⟨n1, n2, n3, n4, t⟩ = K at *
  simp only [Post.v] at hC
  clear h1 h2 h3 h4 h5 z0 z1 z2 z3 z4
  replace hr1 := Lib.hid hr1
  replace hr2 := Lib.hid hr2
  replace hr3 := Lib.hid hr3
  replace hr4 := Lib.hid hr4
  replace hr5 := Lib.hid hr5
  replace hr6 := Lib.hid hr6
  replace hC := Lib.hid hC
  replace hV := Lib.hid hV
  go_enter Try.func32, Try.ntmps32
  go_upto_region 3 with (first | (go_at_call 56; (with_reducible refine k0.out.mono ?_); rintro e w1 ⟨N, rfl, O1⟩) | (go_at_call 57; (with_reducible refine (hr1.out _ _ _ O1).mono ?_); rintro e w2 ⟨rfl, O2⟩) | (go_at_call 57; (with_reducible refine (hr2.out _ _ _ O2).mono ?_); rintro e w3 ⟨rfl, O3⟩) | (go_at_call 57; (with_reducible refine (hr3.out _ _ _ O3).mono ?_); rintro e w4 ⟨rfl, O4⟩) | (go_at_call 57; (with_reducible refine (hr4.out _ _ _ O4).mono ?_); rintro e w5 ⟨rfl, O5⟩) | (go_at_call 58; (with_reducible refine (hr5.out _ _ _ O5).mono ?_); rintro e w6 ⟨rfl, O6⟩))
  obtain ⟨l1, a1, f1⟩ := O6.cells 1 rfl
  haveI : InW w.heap.size w6 := ⟨l1⟩
  have g0 := a1 0 (by simp)
  have g1 := a1 1 (by simp)
  have g2 := a1 2 (by simp)
  have g3 := a1 3 (by simp)
  have g4 := a1 4 (by simp)
  simp only [List.getElem?_cons_succ, List.getElem?_cons_zero] at g0 g1 g2 g3 g4
  have e0 := f1 0
  have e1 := f1 1
  have e2 := f1 2
  have e3 := f1 3
  have e4 := f1 4
  have hp := O6.p
  have k6 := Lib.hid (hr6.out _ _ _ (O6.alloc (.cells #[.int .i64 n1, .int .i64 n2, .int .i64 n3, .int .i64 n4, .string t] 90)))
  clear a1 f1 O0 O1 O2 O3 O4 O5 O6 k0 hr1 hr2 hr3 hr4 hr5 hr6
  rcases hdO with rfl | rfl
  · cases K with
    | true =>
      have hV' := hV.out
      rw [if_pos ⟨rfl, rfl⟩] at hV'
      subst hV'
      clear hV
      go_wp2_with (first | (go_at_call 59; (with_reducible refine k6.out.mono ?_); rintro e w' ⟨rfl, x1, rfl⟩) | (go_at_call 52; (with_reducible refine (hC.out _).mono ?_); rintro e w' ⟨rfl, x2, rfl⟩))
      refine bodyPost_ret (v := .tuple #[.agg #[.int .i64 n1, .int .i64 n2, .int .i64 n3, .int .i64 n4, .string t], .int .i64 0]) (by simp [results, Try.results32, go_sem, g0, g1, g2, g3, g4]) rfl ⟨rfl, ?_⟩
      repeat (first | with_reducible exact hp | with_reducible apply Plus.plus | with_reducible apply Plus.alloc | with_reducible refine plus_setCell ?_ (Nat.le_refl _))
    | false =>
      have hV' := hV.out
      rw [if_neg (by simp)] at hV'
      subst hV'
      clear hV
      go_wp2_with (first | (go_at_call 59; (with_reducible refine k6.out.mono ?_); rintro e w' ⟨rfl, x1, rfl⟩) | (go_at_call 52; (with_reducible refine (hC.out _).mono ?_); rintro e w' ⟨rfl, x2, rfl⟩))
      refine bodyPost_ret (v := .tuple #[.agg #[.int .i64 0, .int .i64 0, .int .i64 0, .int .i64 0, .string ⟨#[]⟩], .int .i64 2]) (by simp [results, Try.results32, go_sem, g0, g1, g2, g3, g4]) rfl ⟨rfl, ?_⟩
      repeat (first | with_reducible exact hp | with_reducible apply Plus.plus | with_reducible apply Plus.alloc | with_reducible refine plus_setCell ?_ (Nat.le_refl _))
  · have hV' := hV.out
    rw [if_neg (by simp)] at hV'
    subst hV'
    clear hV
    go_wp2_with (first | (go_at_call 59; (with_reducible refine k6.out.mono ?_); rintro e w' ⟨rfl, x1, rfl⟩) | (go_at_call 52; (with_reducible refine (hC.out _).mono ?_); rintro e w' ⟨rfl, x2, rfl⟩))
    refine bodyPost_ret (v := .tuple #[.agg #[.int .i64 0, .int .i64 0, .int .i64 0, .int .i64 0, .string ⟨#[]⟩], .int .i64 2]) (by simp [results, Try.results32, go_sem, g0, g1, g2, g3, g4]) rfl ⟨rfl, ?_⟩
    repeat (first | with_reducible exact hp | with_reducible apply Plus.plus | with_reducible apply Plus.alloc | with_reducible refine plus_setCell ?_ (Nat.le_refl _))
/-- what a text's bytes are read as -/
def decR1 (s : ByteArray) := Octs.rInt s false
def decR2 (s : ByteArray) := Octs.rInt (decR1 s).2.1 (decR1 s).2.2
def decR3 (s : ByteArray) := Octs.rInt (decR2 s).2.1 (decR2 s).2.2
def decR4 (s : ByteArray) := Octs.rInt (decR3 s).2.1 (decR3 s).2.2
def decR5 (s : ByteArray) := Octs.rText (decR4 s).2.1 (decR4 s).2.2
def dec (s : ByteArray) : Post × Int := decOut ⟨(decR1 s).1, (decR2 s).1, (decR3 s).1, (decR4 s).1, (decR5 s).1⟩ (Octs.rDone (decR5 s).2.1 (decR5 s).2.2)
theorem dec_sizes (s : ByteArray) : (decR1 s).2.1.size ≤ s.size ∧ (decR2 s).2.1.size ≤ s.size ∧ (decR3 s).2.1.size ≤ s.size ∧ (decR4 s).2.1.size ≤ s.size ∧ (decR5 s).2.1.size ≤ s.size := by
  have h1 : (decR1 s).2.1.size ≤ _ := Octs.rInt_size s false
  have h2 : (decR2 s).2.1.size ≤ _ := Octs.rInt_size _ _
  have h3 : (decR3 s).2.1.size ≤ _ := Octs.rInt_size _ _
  have h4 : (decR4 s).2.1.size ≤ _ := Octs.rInt_size _ _
  have h5 : (decR5 s).2.1.size ≤ _ := Octs.rText_size _ _
  exact ⟨h1, by omega, by omega, by omega, by omega⟩
theorem dec_invs (s : ByteArray) : ((decR1 s).2.2 = true → (decR1 s).2.1 = ⟨#[]⟩) ∧ ((decR2 s).2.2 = true → (decR2 s).2.1 = ⟨#[]⟩) ∧ ((decR3 s).2.2 = true → (decR3 s).2.1 = ⟨#[]⟩) ∧ ((decR4 s).2.2 = true → (decR4 s).2.1 = ⟨#[]⟩) := by
  have h1 := Octs.rInt_inv s false (fun h => by cases h)
  have h2 := Octs.rInt_inv _ _ h1
  have h3 := Octs.rInt_inv _ _ h2
  exact ⟨h1, h2, h3, Octs.rInt_inv _ _ h3⟩
theorem decode_any (w : World) (s : ByteArray) (h : s.size ≤ 281474976710656) : Calls Try.prog 32 #[.string s] w fun e w' => e = .returned (.tuple #[(dec s).1.v, .int .i64 (dec s).2]) ∧ w.Plus w' := by
  obtain ⟨z1, z2, z3, z4, z5⟩ := dec_sizes s
  exact decode_core w s _ _ _ _ _ _ _ _ _ _ _ _ _ _ _ rfl rfl rfl rfl rfl h (Nat.le_trans z1 h) (Nat.le_trans z2 h) (Nat.le_trans z3 h) (Nat.le_trans z4 h)
theorem dec_enc (p : Post) (h : okPost p = true) : dec (encP p) = (p, 0) := by
  obtain ⟨b1, b2, b3, b4⟩ := okPost_bounds h
  have b5 := okPost_text h
  obtain ⟨m, y, a, s, t⟩ := p
  simp only at b1 b2 b3 b4 b5
  have e : encP ⟨m, y, a, s, t⟩ = Octs.txt (Octs.enc m ++ (Octs.enc y ++ (Octs.enc a ++ (Octs.enc s ++ (Octs.encT t ++ []))))) := by
    unfold encP
    simp only [Octs.txt_append, List.append_assoc, List.append_nil]
  have r1 : decR1 (encP ⟨m, y, a, s, t⟩) = (m, Octs.txt (Octs.enc y ++ (Octs.enc a ++ (Octs.enc s ++ (Octs.encT t ++ [])))), false) := by unfold decR1; rw [e, Octs.rInt_enc m (inT_64 (by omega))]
  have r2 : decR2 (encP ⟨m, y, a, s, t⟩) = (y, Octs.txt (Octs.enc a ++ (Octs.enc s ++ (Octs.encT t ++ []))), false) := by unfold decR2; rw [r1, Octs.rInt_enc y (inT_64 b2)]
  have r3 : decR3 (encP ⟨m, y, a, s, t⟩) = (a, Octs.txt (Octs.enc s ++ (Octs.encT t ++ [])), false) := by unfold decR3; rw [r2, Octs.rInt_enc a (inT_64 b3)]
  have r4 : decR4 (encP ⟨m, y, a, s, t⟩) = (s, Octs.txt (Octs.encT t ++ []), false) := by unfold decR4; rw [r3, Octs.rInt_enc s (inT_64 b4)]
  have r5 : decR5 (encP ⟨m, y, a, s, t⟩) = (t, Octs.txt [], false) := by unfold decR5; rw [r4, Octs.rText_enc t (by omega)]
  unfold dec
  rw [r1, r2, r3, r4, r5]
  exact if_pos ⟨rfl, h⟩
end Go.Proofs.Ythmfmpkkbgapoaa.Ses
