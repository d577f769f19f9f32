/- session: Encode, Decode, and the reference's: walks. -/
import Derived.Test.YtpmebmbibajcoaaSesE
import Derived.Test.YtpmebmbibajcoaaRdO
set_option linter.unusedSimpArgs false
set_option linter.unusedVariables false
namespace Go.Proofs.Ytpmebmbibajcoaa
open Go.RowKit
def encP (p : Post) : ByteArray := Octs.txt (Octs.enc p.mine ++ (Octs.enc p.yours ++ (Octs.enc p.ack ++ Octs.enc p.seq))) ++ Octs.txt (Octs.encT p.text)
theorem inT_64 {n : Int} (h : 0 ≤ n ∧ n ≤ 1099511627776) : Octs.In64 n := ⟨by omega, by omega⟩
theorem okPost_text {p : Post} (h : okPost p = true) : p.text.size ≤ 65472 := by
  unfold okPost at h
  simp only [Bool.and_eq_true, decide_eq_true_eq] at h
  omega
set_option maxRecDepth 100000 in
theorem encode_bad (w : World) (p : Post) (h : okPost p = false) : Calls Try.prog 26 #[p.v] w fun e w' => e = .returned (.tuple #[.string ⟨#[]⟩, .int .i64 1]) ∧ w.Plus w' := by
  have hC := fun w => check_any w p
  rw [h] at hC
  obtain ⟨m, y, a, s, t⟩ := p
  simp only [Post.v] at hC ⊢
  replace hC := Lib.hid hC
  replace h := Lib.hid h
  go_enter Try.func26, Try.ntmps26
  go_wp2_with (go_at_call 30; (with_reducible refine (hC.out _).mono ?_); rintro e w' ⟨rfl, e1, rfl⟩)
  go_ret2
  exact ⟨rfl, by (repeat (first | exact Plus.refl _ | apply Plus.plus | apply Plus.alloc | apply Plus.drew))⟩
set_option maxRecDepth 100000 in
set_option maxHeartbeats 1000000 in
theorem encode_good (w : World) (p : Post) (h : okPost p = true) : Calls Try.prog 26 #[p.v] w fun e w' => e = .returned (.tuple #[.string (encP p), .int .i64 0]) ∧ w.Plus w' := by
  have hC := fun w => check_any w p
  rw [h, if_pos rfl] at hC
  obtain ⟨b1, b2, b3, b4⟩ := okPost_bounds h
  have b5 := okPost_text h
  obtain ⟨m, y, a, s, t⟩ := p
  unfold encP
  simp only [Post.v] at hC b1 b2 b3 b4 b5 ⊢
  have hI := fun w b' c [InW b' w] h0 h1 h2 h3 => Octs.int_at4 w b' c m y a s h0 h1 h2 h3 (inT_64 (by omega)) (inT_64 b2) (inT_64 b3) (inT_64 b4)
  have hT := fun w b' c [InW b' w] h0 => Octs.text_at1 w b' c t h0 (by omega)
  have z1 := Octs.enc_le m
  have z2 := Octs.enc_le y
  have z3 := Octs.enc_le a
  have z4 := Octs.enc_le s
  have hX : (Octs.txt (Octs.enc m ++ (Octs.enc y ++ (Octs.enc a ++ Octs.enc s)))).size ≤ 36 := by
    rw [Octs.txt_size]
    simp only [List.length_append]
    omega
  have hY : (Octs.txt (Octs.encT t)).size ≤ 65481 := by
    rw [Octs.txt_size]
    have := Octs.encT_length t
    omega
  clear z1 z2 z3 z4
  generalize Octs.txt (Octs.enc m ++ (Octs.enc y ++ (Octs.enc a ++ Octs.enc s))) = X at *
  generalize Octs.txt (Octs.encT t) = Y at *
  have hXY : ¬ 9223372036854775807 < X.size + Y.size := by omega
  replace hI := Lib.hid hI
  replace hT := Lib.hid hT
  replace hC := Lib.hid hC
  replace h := Lib.hid h
  go_enter Try.func26, Try.ntmps26
  go_upto_region 4 with (go_at_call 30; (with_reducible refine (hC.out _).mono ?_); rintro e w' ⟨rfl, e1, rfl⟩)
  go_region_held3 (fun w' => w'.cell? ⟨w.heap.size, 0, none⟩ = some (.int .i64 m) ∧ w'.cell? ⟨w.heap.size, 1, none⟩ = some (.int .i64 y) ∧ w'.cell? ⟨w.heap.size, 2, none⟩ = some (.int .i64 a) ∧ w'.cell? ⟨w.heap.size, 3, none⟩ = some (.int .i64 s) ∧ w'.cell? ⟨w.heap.size, 4, none⟩ = some (.string t)) (simp [go_sem]) (first | (go_at_call 37; (with_reducible refine (hI.out _ _ _ (by first | (simp [go_sem]; done) | fail) (by first | (simp [go_sem]; done) | fail) (by first | (simp [go_sem]; done) | fail) (by first | (simp [go_sem]; done) | fail)).mono ?_); rintro e w' ⟨rfl, e1, rfl⟩) | (go_at_call 38; (with_reducible refine (hT.out _ _ _ (by first | (simp [go_sem]; done) | fail)).mono ?_); rintro e w' ⟨rfl, e1, rfl⟩))
  all_goals (go_wp2_with fail; go_ret2; exact ⟨rfl, by (repeat (first | exact Plus.refl _ | apply Plus.plus | apply Plus.alloc | apply Plus.drew))⟩)
set_option maxRecDepth 100000 in
theorem refEncode_bad (w : World) (p : Post) (h : okPost p = false) : Calls Try.prog 27 #[p.v] w fun e w' => e = .returned (.tuple #[.string ⟨#[]⟩, .int .i64 1]) ∧ w.Plus w' := by
  have hC := fun w => may_any w p
  rw [h] at hC
  obtain ⟨m, y, a, s, t⟩ := p
  simp only [Post.v] at hC ⊢
  replace hC := Lib.hid hC
  replace h := Lib.hid h
  go_enter Try.func27, Try.ntmps27
  go_wp2_with (go_at_call 33; (with_reducible refine (hC.out _).mono ?_); rintro e w' ⟨rfl, e1, rfl⟩)
  go_ret2
  exact ⟨rfl, by (repeat (first | exact Plus.refl _ | apply Plus.plus | apply Plus.alloc | apply Plus.drew))⟩
set_option maxRecDepth 100000 in
set_option maxHeartbeats 1000000 in
theorem refEncode_good (w : World) (p : Post) (h : okPost p = true) : Calls Try.prog 27 #[p.v] w fun e w' => e = .returned (.tuple #[.string (encP p), .int .i64 0]) ∧ w.Plus w' := by
  have hC := fun w => may_any w p
  rw [h] at hC
  obtain ⟨b1, b2, b3, b4⟩ := okPost_bounds h
  have b5 := okPost_text h
  obtain ⟨m, y, a, s, t⟩ := p
  unfold encP
  simp only [Post.v] at hC b1 b2 b3 b4 b5 ⊢
  obtain ⟨G, hG⟩ : ∃ G : Int → ByteArray, G = fun n => Octs.txt (Octs.enc n) := ⟨_, rfl⟩
  have hI : ∀ (n : Int) (w : World), Octs.In64 n → Calls Try.prog 39 #[.int .i64 n] w fun e w' => e = .returned (.string (G n)) ∧ w.Plus w' := fun n w hn => by
    rw [hG]
    exact Octs.refInt_any n w hn
  have hZ : ∀ n, (G n).size ≤ 9 := fun n => by
    rw [hG]
    have := Octs.enc_le n
    rw [← Octs.txt_size] at this
    exact this
  have m1 : Octs.In64 m := inT_64 (by omega)
  have m2 : Octs.In64 y := inT_64 b2
  have m3 : Octs.In64 a := inT_64 b3
  have m4 : Octs.In64 s := inT_64 b4
  have m5 : Octs.In64 t.size := inT_64 (by omega)
  have hE : Octs.txt (Octs.enc m ++ (Octs.enc y ++ (Octs.enc a ++ Octs.enc s))) ++ Octs.txt (Octs.encT t) = G m ++ G y ++ G a ++ G s ++ G t.size ++ t := by
    rw [hG]
    conv => rhs; rw [← Octs.txt_bytes t]
    simp only [Octs.txt_append, Octs.encT, List.append_assoc]
    rw [Octs.txt_bytes]
  rw [hE]
  clear hE hG
  have z1 := hZ m
  have z2 := hZ y
  have z3 := hZ a
  have z4 := hZ s
  have z5 := hZ t.size
  clear hZ
  replace hI := Lib.hid hI
  replace hC := Lib.hid hC
  replace h := Lib.hid h
  go_enter Try.func27, Try.ntmps27
  go_upto_region 3 with (go_at_call 33; (with_reducible refine (hC.out _).mono ?_); rintro e w' ⟨rfl, e1, rfl⟩)
  refine wp_region_grow (by kernel_rfl) (by kernel_rfl) ?_
  repeat (go_big_quiet_step ((go_at_call 39; exact Calls.plus_of (hI.out _ _ (by assumption)))))
  refine wpQuiet_nil ?_
  intro ex
  go_wp2_with fail
  go_ret2
  exact ⟨rfl, by (repeat (first | exact Plus.refl _ | apply Plus.plus | apply Plus.alloc | apply Plus.drew))⟩
end Go.Proofs.Ytpmebmbibajcoaa
