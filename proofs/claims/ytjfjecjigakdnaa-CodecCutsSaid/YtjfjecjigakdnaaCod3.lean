/- codec: the reference's rest: walk. -/
import Derived.Test.YtjfjecjigakdnaaCod2
import Derived.Deep.CutBlock
import Derived.Deep.DeepCutAuto
set_option linter.unusedSimpArgs false
set_option linter.unusedVariables false
namespace Go.Proofs.Ytjfjecjigakdnaa
open Go.RowKit
set_option maxRecDepth 100000 in
set_option maxHeartbeats 2000000 in
theorem refRest_any (b : BdR) (hb : BdI b) (hm : 0 ≤ b.mask ∧ b.mask ≤ 31) (w : World) : Calls Try.prog 51 #[b.v] w fun e w' => e = .returned (.string (Octs.txt (restB b))) ∧ w.Plus w' := by
  obtain ⟨G, hG, hZ, kG⟩ := refInt_G
  obtain ⟨_, i0, i1, i2, i3, i4, i5, i6, i7⟩ := hb
  obtain ⟨S0, h0⟩ : ∃ s, s = G b.mask := ⟨_, rfl⟩
  obtain ⟨t1, g1⟩ : ∃ t, t = bitB b.mask 1 := ⟨_, rfl⟩
  obtain ⟨S1, h1⟩ : ∃ s, s = if t1 = true then S0 ++ G b.x ++ G b.y else S0 := ⟨_, rfl⟩
  obtain ⟨t2, g2⟩ : ∃ t, t = bitB b.mask 2 := ⟨_, rfl⟩
  obtain ⟨S2, h2⟩ : ∃ s, s = if t2 = true then S1 ++ G b.vx ++ G b.vy else S1 := ⟨_, rfl⟩
  obtain ⟨t4, g4⟩ : ∃ t, t = bitB b.mask 4 := ⟨_, rfl⟩
  obtain ⟨S3, h3⟩ : ∃ s, s = if t4 = true then S2 ++ G b.hp else S2 := ⟨_, rfl⟩
  obtain ⟨t8, g8⟩ : ∃ t, t = bitB b.mask 8 := ⟨_, rfl⟩
  obtain ⟨S4, h4⟩ : ∃ s, s = if t8 = true then S3 ++ G b.pw else S3 := ⟨_, rfl⟩
  obtain ⟨t16, g16⟩ : ∃ t, t = bitB b.mask 16 := ⟨_, rfl⟩
  obtain ⟨S5, h5⟩ : ∃ s, s = if t16 = true then S4 ++ G b.lf else S4 := ⟨_, rfl⟩
  have hE : Octs.txt (restB b) = S5 := by
    unfold restB comps
    rw [h5, h4, h3, h2, h1, h0, g1, g2, g4, g8, g16]
    simp only [hG]
    cases bitB b.mask 1 <;> cases bitB b.mask 2 <;> cases bitB b.mask 4 <;> cases bitB b.mask 8 <;> cases bitB b.mask 16 <;> simp [Octs.txt_append, Octs.encs]
  rw [hE]
  clear hE
  have y0 : S0.size ≤ 9 := by rw [h0]; exact hZ _
  have z_x := hZ b.x
  have z_y := hZ b.y
  have y1 : S1.size ≤ 27 := by rw [h1]; split <;> (try simp only [ByteArray.size_append]) <;> omega
  have z_vx := hZ b.vx
  have z_vy := hZ b.vy
  have y2 : S2.size ≤ 45 := by rw [h2]; split <;> (try simp only [ByteArray.size_append]) <;> omega
  have z_hp := hZ b.hp
  have y3 : S3.size ≤ 54 := by rw [h3]; split <;> (try simp only [ByteArray.size_append]) <;> omega
  have z_pw := hZ b.pw
  have y4 : S4.size ≤ 63 := by rw [h4]; split <;> (try simp only [ByteArray.size_append]) <;> omega
  have z_lf := hZ b.lf
  have y5 : S5.size ≤ 72 := by rw [h5]; split <;> (try simp only [ByteArray.size_append]) <;> omega
  have kB := fun (p : Int) (hp : p = 1 ∨ p = 2 ∨ p = 4 ∨ p = 8 ∨ p = 16) (w' : World) => bit_any b.mask p w' hm.1 hm.2 hp
  have k1 := fun w' => kB 1 (by simp) w'
  rw [← g1] at k1
  replace k1 := Lib.hid k1
  have k2 := fun w' => kB 2 (by simp) w'
  rw [← g2] at k2
  replace k2 := Lib.hid k2
  have k4 := fun w' => kB 4 (by simp) w'
  rw [← g4] at k4
  replace k4 := Lib.hid k4
  have k8 := fun w' => kB 8 (by simp) w'
  rw [← g8] at k8
  replace k8 := Lib.hid k8
  have k16 := fun w' => kB 16 (by simp) w'
  rw [← g16] at k16
  replace k16 := Lib.hid k16
  clear kB g1 g2 g4 g8 g16 hm
  replace h0 := Lib.hid h0
  replace h1 := Lib.hid h1
  replace h2 := Lib.hid h2
  replace h3 := Lib.hid h3
  replace h4 := Lib.hid h4
  replace h5 := Lib.hid h5
  have su1 : ¬ 9223372036854775807 < S0.size + (G b.x).size := by omega
  have sv1 : ¬ 9223372036854775807 < (S0 ++ G b.x).size + (G b.y).size := by rw [ByteArray.size_append]; omega
  have sx1 : ¬ 9223372036854775807 < S0.size + (G b.x).size + (G b.y).size := by omega
  have su2 : ¬ 9223372036854775807 < S1.size + (G b.vx).size := by omega
  have sv2 : ¬ 9223372036854775807 < (S1 ++ G b.vx).size + (G b.vy).size := by rw [ByteArray.size_append]; omega
  have sx2 : ¬ 9223372036854775807 < S1.size + (G b.vx).size + (G b.vy).size := by omega
  have su4 : ¬ 9223372036854775807 < S2.size + (G b.hp).size := by omega
  have su8 : ¬ 9223372036854775807 < S3.size + (G b.pw).size := by omega
  have su16 : ¬ 9223372036854775807 < S4.size + (G b.lf).size := by omega
  clear hZ hG y0 y1 y2 y3 y4 y5 z_x z_y z_vx z_vy z_hp z_pw z_lf
  replace kG := Lib.hid kG
  have hB := BoxAt.new w b 25
  have hwp : w.Plus (w.alloc (.cells #[nI b.id.s, nI b.id.i, nI b.id.g, nI b.mask, nI b.x, nI b.y, nI b.vx, nI b.vy, nI b.hp, nI b.pw, nI b.lf] 25)) := by (repeat (first | exact Plus.refl _ | apply Plus.plus | apply Plus.alloc | apply Plus.drew))
  generalize hX : w.heap.size = X at *
  generalize hwy : w.alloc (.cells #[nI b.id.s, nI b.id.i, nI b.id.g, nI b.mask, nI b.x, nI b.y, nI b.vx, nI b.vy, nI b.hp, nI b.pw, nI b.lf] 25) = wy at *
  have hBp := Lib.hid (fun wz (p : wy.Plus wz) => BoxAt.plus hB p)
  obtain ⟨hIn, q0, q1, q2, q3, q4, q5, q6, q7, q8, q9, q10⟩ := hB
  replace hwp := Lib.hid hwp
  go_enter Try.func51, Try.ntmps51
  go_upto_region 2 with (go_at_call 47; (with_reducible refine (kG.out _ (by assumption) _).mono ?_); rintro e w' ⟨rfl, e0, rfl⟩)
  rw [← h0.out]
  have hp : wy.Plus (wy.plus e0) := by (repeat (first | exact Plus.refl _ | apply Plus.plus | apply Plus.alloc | apply Plus.drew))
  generalize wy.plus e0 = wc at *
  clear hIn q0 q1 q2 q3 q4 q5 q6 q7 q8 q9 q10
  obtain ⟨hIn, q0, q1, q2, q3, q4, q5, q6, q7, q8, q9, q10⟩ := hBp.out _ hp
  clear hX hwy
  replace hp := Lib.hid hp
  go_upto_if 9 with (go_at_call 89; (with_reducible refine (k1.out _).mono ?_); rintro e w' ⟨rfl, ey, rfl⟩)
  go_cut [3] (fun v wz => v = .string S1 ∧ wy.Plus wz)
  case first =>
    have hs := h1.out
    cases t1 with
    | false =>
      simp only [Bool.false_eq_true, if_false] at hs
      replace hs := Lib.hid hs
      go_wp2_with fail
      go_meet
      exact ⟨by rw [hs.out], Plus.trans hp.out (by (repeat (first | exact Plus.refl _ | apply Plus.plus | apply Plus.alloc | apply Plus.drew)))⟩
    | true =>
      simp only [if_true] at hs
      replace hs := Lib.hid hs
      go_upto_region 3 with fail
      refine wp_region_grow (by kernel_rfl) (by kernel_rfl) ?_
      repeat (go_big_quiet_step ((go_at_call 47; exact Calls.plus_of (kG.out _ (by assumption) _))))
      refine wpQuiet_nil ?_
      intro ex
      go_wp2_with fail
      go_meet
      exact ⟨by rw [hs.out], Plus.trans hp.out (by (repeat (first | exact Plus.refl _ | apply Plus.plus | apply Plus.alloc | apply Plus.drew)))⟩
  clear hp hIn q0 q1 q2 q3 q4 q5 q6 q7 q8 q9 q10 k1 h1 su1 sv1 sx1
  obtain ⟨rfl, hp⟩ := hcut
  obtain ⟨hIn, q0, q1, q2, q3, q4, q5, q6, q7, q8, q9, q10⟩ := hBp.out _ hp
  clear hIn q0 q1 q2 q3 q4 q5 q6 q7 q8 q9 q10
  obtain ⟨hIn, q0, q1, q2, q3, q4, q5, q6, q7, q8, q9, q10⟩ := hBp.out _ hp
  replace hp := Lib.hid hp
  go_upto_if 21 with (go_at_call 89; (with_reducible refine (k2.out _).mono ?_); rintro e w' ⟨rfl, ey, rfl⟩)
  go_cut [3] (fun v wz => v = .string S2 ∧ wy.Plus wz)
  case first =>
    have hs := h2.out
    cases t2 with
    | false =>
      simp only [Bool.false_eq_true, if_false] at hs
      replace hs := Lib.hid hs
      go_wp2_with fail
      go_meet
      exact ⟨by rw [hs.out], Plus.trans hp.out (by (repeat (first | exact Plus.refl _ | apply Plus.plus | apply Plus.alloc | apply Plus.drew)))⟩
    | true =>
      simp only [if_true] at hs
      replace hs := Lib.hid hs
      go_upto_region 5 with fail
      refine wp_region_grow (by kernel_rfl) (by kernel_rfl) ?_
      repeat (go_big_quiet_step ((go_at_call 47; exact Calls.plus_of (kG.out _ (by assumption) _))))
      refine wpQuiet_nil ?_
      intro ex
      go_wp2_with fail
      go_meet
      exact ⟨by rw [hs.out], Plus.trans hp.out (by (repeat (first | exact Plus.refl _ | apply Plus.plus | apply Plus.alloc | apply Plus.drew)))⟩
  clear hp hIn q0 q1 q2 q3 q4 q5 q6 q7 q8 q9 q10 k2 h2 su2 sv2 sx2
  obtain ⟨rfl, hp⟩ := hcut
  obtain ⟨hIn, q0, q1, q2, q3, q4, q5, q6, q7, q8, q9, q10⟩ := hBp.out _ hp
  clear hIn q0 q1 q2 q3 q4 q5 q6 q7 q8 q9 q10
  obtain ⟨hIn, q0, q1, q2, q3, q4, q5, q6, q7, q8, q9, q10⟩ := hBp.out _ hp
  replace hp := Lib.hid hp
  go_upto_if 33 with (go_at_call 89; (with_reducible refine (k4.out _).mono ?_); rintro e w' ⟨rfl, ey, rfl⟩)
  go_cut [3] (fun v wz => v = .string S3 ∧ wy.Plus wz)
  case first =>
    have hs := h3.out
    cases t4 with
    | false =>
      simp only [Bool.false_eq_true, if_false] at hs
      replace hs := Lib.hid hs
      go_wp2_with fail
      go_meet
      exact ⟨by rw [hs.out], Plus.trans hp.out (by (repeat (first | exact Plus.refl _ | apply Plus.plus | apply Plus.alloc | apply Plus.drew)))⟩
    | true =>
      simp only [if_true] at hs
      replace hs := Lib.hid hs
      go_wp2_with (go_at_call 47; (with_reducible refine (kG.out _ (by assumption) _).mono ?_); rintro e w' ⟨rfl, ez, rfl⟩)
      go_meet
      exact ⟨by rw [hs.out], Plus.trans hp.out (by (repeat (first | exact Plus.refl _ | apply Plus.plus | apply Plus.alloc | apply Plus.drew)))⟩
  clear hp hIn q0 q1 q2 q3 q4 q5 q6 q7 q8 q9 q10 k4 h3 su4
  obtain ⟨rfl, hp⟩ := hcut
  obtain ⟨hIn, q0, q1, q2, q3, q4, q5, q6, q7, q8, q9, q10⟩ := hBp.out _ hp
  clear hIn q0 q1 q2 q3 q4 q5 q6 q7 q8 q9 q10
  obtain ⟨hIn, q0, q1, q2, q3, q4, q5, q6, q7, q8, q9, q10⟩ := hBp.out _ hp
  replace hp := Lib.hid hp
  go_upto_if 41 with (go_at_call 89; (with_reducible refine (k8.out _).mono ?_); rintro e w' ⟨rfl, ey, rfl⟩)
  go_cut [3] (fun v wz => v = .string S4 ∧ wy.Plus wz)
  case first =>
    have hs := h4.out
    cases t8 with
    | false =>
      simp only [Bool.false_eq_true, if_false] at hs
      replace hs := Lib.hid hs
      go_wp2_with fail
      go_meet
      exact ⟨by rw [hs.out], Plus.trans hp.out (by (repeat (first | exact Plus.refl _ | apply Plus.plus | apply Plus.alloc | apply Plus.drew)))⟩
    | true =>
      simp only [if_true] at hs
      replace hs := Lib.hid hs
      go_wp2_with (go_at_call 47; (with_reducible refine (kG.out _ (by assumption) _).mono ?_); rintro e w' ⟨rfl, ez, rfl⟩)
      go_meet
      exact ⟨by rw [hs.out], Plus.trans hp.out (by (repeat (first | exact Plus.refl _ | apply Plus.plus | apply Plus.alloc | apply Plus.drew)))⟩
  clear hp hIn q0 q1 q2 q3 q4 q5 q6 q7 q8 q9 q10 k8 h4 su8
  obtain ⟨rfl, hp⟩ := hcut
  obtain ⟨hIn, q0, q1, q2, q3, q4, q5, q6, q7, q8, q9, q10⟩ := hBp.out _ hp
  clear hIn q0 q1 q2 q3 q4 q5 q6 q7 q8 q9 q10
  obtain ⟨hIn, q0, q1, q2, q3, q4, q5, q6, q7, q8, q9, q10⟩ := hBp.out _ hp
  replace hp := Lib.hid hp
  go_upto_if 49 with (go_at_call 89; (with_reducible refine (k16.out _).mono ?_); rintro e w' ⟨rfl, ey, rfl⟩)
  go_cut [3] (fun v wz => v = .string S5 ∧ wy.Plus wz)
  case first =>
    have hs := h5.out
    cases t16 with
    | false =>
      simp only [Bool.false_eq_true, if_false] at hs
      replace hs := Lib.hid hs
      go_wp2_with fail
      go_meet
      exact ⟨by rw [hs.out], Plus.trans hp.out (by (repeat (first | exact Plus.refl _ | apply Plus.plus | apply Plus.alloc | apply Plus.drew)))⟩
    | true =>
      simp only [if_true] at hs
      replace hs := Lib.hid hs
      go_wp2_with (go_at_call 47; (with_reducible refine (kG.out _ (by assumption) _).mono ?_); rintro e w' ⟨rfl, ez, rfl⟩)
      go_meet
      exact ⟨by rw [hs.out], Plus.trans hp.out (by (repeat (first | exact Plus.refl _ | apply Plus.plus | apply Plus.alloc | apply Plus.drew)))⟩
  clear hp hIn q0 q1 q2 q3 q4 q5 q6 q7 q8 q9 q10 k16 h5 su16
  obtain ⟨rfl, hp⟩ := hcut
  replace hp := Lib.hid hp
  go_wp2_with fail
  go_ret
  exact ⟨rfl, Plus.trans hwp.out (Plus.trans hp.out (by (repeat (first | exact Plus.refl _ | apply Plus.plus | apply Plus.alloc | apply Plus.drew))))⟩
end Go.Proofs.Ytjfjecjigakdnaa
