/- codec: CodecTakes: walk. -/
import Derived.Test.YtjfjecjigakdnaaCodTD
import Derived.Test.YtjfjecjigakdnaaCodB
import Derived.Test.YtjfjecjigakdnaaGh
set_option linter.unusedSimpArgs false
set_option linter.unusedVariables false
namespace Go.Proofs.Ytjfjecjigakdnaa
open Go.RowKit
theorem Own.newRd {W wx : World} {l : List Asn} (h : Own W wx l) (s : ByteArray) (t : TypeId) : Own W (wx.alloc (.cells #[.string s, .bool false] t)) (Octs.rdA wx.heap.size s false :: l) :=
  Own.add (Q := Octs.rdA wx.heap.size s false) (A := fun k => k = wx.heap.size) h (Chg.of_alloc _ (.cells #[.string s, .bool false] t) _) ⟨fun k => Iff.rfl, by simp, by simp [go_sem], by simp [go_sem], by simp [go_sem], by simp [go_sem]⟩ (fun k hk => by omega)
set_option maxHeartbeats 1000000
set_option maxRecDepth 100000
theorem codecTakes_any (s : ByteArray) (W : World) (h47 : s.size ≤ 281474976710656) : Calls Try.prog 4 #[.string s] W fun e w' => e = .returned (.bool true) ∧ W.Plus w' := by
  have kA := Lib.hid (fun w => awake_any w)
  by_cases hl : 3000 < s.size
  · have hi : (3000 : Int) < s.size := by omega
    clear h47 hl
    go_enter Try.func4, Try.ntmps4
    go_wp2_with (go_at_call 17; (with_reducible refine (kA.out _).mono ?_); rintro e w' ⟨rfl, e1, rfl⟩)
    go_ret
    exact ⟨rfl, by (repeat (first | exact Plus.refl _ | apply Plus.plus | apply Plus.alloc | apply Plus.drew))⟩
  have hi : ¬ (3000 : Int) < s.size := by omega
  have hs : s.size ≤ 281474976710656 := by omega
  have kO := Lib.hid (fun w l (O : Own W w l) => Octs.of_O (s := s) O hs)
  have h0 : inv (s, false) := by intro h; cases h
  have zI := tkI_size s false
  have vI := tkI_inv s false
  have kI := fun w N l (O : Own W w (Octs.rdA N s false :: l)) => takeID_O O hs h0
  have qI := fun w N l (O : Own W w (Octs.rdA N s false :: l)) => refTakeID_O O hs h0
  rcases hI : tkI s false with ⟨⟨a0, a1, a2⟩, sI, eI⟩
  rw [hI] at zI vI kI qI
  simp only at zI vI kI qI
  have AI := Lib.hid (fun w N M h h' => as_any w N M sI eI (by omega) vI h h')
  replace kI := Lib.hid kI
  replace qI := Lib.hid qI
  have zB := tkB_size s false
  have vB := tkB_inv s false
  have kB := fun w N l (O : Own W w (Octs.rdA N s false :: l)) => takeBundle_O O hs h0
  have qB := fun w N l (O : Own W w (Octs.rdA N s false :: l)) => refTakeBundle_O O hs h0
  rcases hB : tkB s false with ⟨⟨⟨b0, b1, b2⟩, b3, b4, b5, b6, b7, b8, b9, b10⟩, sB, eB⟩
  rw [hB] at zB vB kB qB
  simp only at zB vB kB qB
  have AB := Lib.hid (fun w N M h h' => as_any w N M sB eB (by omega) vB h h')
  replace kB := Lib.hid kB
  replace qB := Lib.hid qB
  have zC := tkC_size s false
  have vC := tkC_inv s false
  have kC := fun w N l (O : Own W w (Octs.rdA N s false :: l)) => takeCmd_O O hs h0
  have qC := fun w N l (O : Own W w (Octs.rdA N s false :: l)) => refTakeCmd_O O hs h0
  rcases hC : tkC s false with ⟨⟨c0, ⟨c1, c2, c3⟩, ⟨⟨c4, c5, c6⟩, c7, c8, c9, c10, c11, c12, c13, c14⟩, c15⟩, sC, eC⟩
  rw [hC] at zC vC kC qC
  simp only at zC vC kC qC
  have AC := Lib.hid (fun w N M h h' => as_any w N M sC eC (by omega) vC h h')
  replace kC := Lib.hid kC
  replace qC := Lib.hid qC
  clear hI hB hC zI zB zC vI vB vC hs h0 hl
  go_enter Try.func4, Try.ntmps4
  go_upto_region 4 with (go_at_call 18; (with_reducible refine (kO.out _ _ (Own.start W)).mono ?_); rintro e p01 ⟨N0, rfl, O01⟩)
  have O02 := (Own.newRd O01 s 37).rot1
  obtain ⟨p02, hw⟩ : ∃ q, p01.alloc (.cells #[.string s, .bool false] 37) = q := ⟨_, rfl⟩
  rw [hw] at O02 ⊢
  clear hw O01
  generalize p01.heap.size = M0 at *
  have j1 := Lib.hid (kI.out _ _ _ O02)
  go_upto_region 6 with (first
    | (go_at_call 19; (with_reducible refine j1.out.mono ?_); clear j1; rintro e p03 ⟨rfl, O03⟩; have j2 := Lib.hid (qI.out _ _ _ O03.rot1))
    | (go_at_call 20; (with_reducible refine j2.out.mono ?_); clear j2; rintro e p04 ⟨rfl, O04⟩; have j3 := Lib.hid (AI.out _ _ _ (Octs.Own.rd 1 O04 rfl) (Octs.Own.rd 0 O04 rfl)))
    | (go_at_call 21; (with_reducible refine j3.out.mono ?_); clear j3; rintro e w' ⟨rfl, e10, rfl⟩))
  have O05 : Own W (p04.plus e10) [] := O04.drop.drop.plus e10
  generalize p04.plus e10 = p05 at *
  clear kI qI AI
  go_upto_region 7 with (go_at_call 18; (with_reducible refine (kO.out _ _ (O05)).mono ?_); rintro e p11 ⟨N1, rfl, O11⟩)
  have O12 := (Own.newRd O11 s 37).rot1
  obtain ⟨p12, hw⟩ : ∃ q, p11.alloc (.cells #[.string s, .bool false] 37) = q := ⟨_, rfl⟩
  rw [hw] at O12 ⊢
  clear hw O11
  generalize p11.heap.size = M1 at *
  have j1 := Lib.hid (kB.out _ _ _ O12)
  go_upto_region 9 with (first
    | (go_at_call 22; (with_reducible refine j1.out.mono ?_); clear j1; rintro e p13 ⟨rfl, O13⟩; have j2 := Lib.hid (qB.out _ _ _ O13.rot1))
    | (go_at_call 23; (with_reducible refine j2.out.mono ?_); clear j2; rintro e p14 ⟨rfl, O14⟩; have j3 := Lib.hid (AB.out _ _ _ (Octs.Own.rd 1 O14 rfl) (Octs.Own.rd 0 O14 rfl)))
    | (go_at_call 21; (with_reducible refine j3.out.mono ?_); clear j3; rintro e w' ⟨rfl, e11, rfl⟩))
  have O15 : Own W (p14.plus e11) [] := O14.drop.drop.plus e11
  generalize p14.plus e11 = p15 at *
  clear kB qB AB
  go_upto_region 10 with (go_at_call 18; (with_reducible refine (kO.out _ _ (O15)).mono ?_); rintro e p21 ⟨N2, rfl, O21⟩)
  have O22 := (Own.newRd O21 s 37).rot1
  obtain ⟨p22, hw⟩ : ∃ q, p21.alloc (.cells #[.string s, .bool false] 37) = q := ⟨_, rfl⟩
  rw [hw] at O22 ⊢
  clear hw O21
  generalize p21.heap.size = M2 at *
  have j1 := Lib.hid (kC.out _ _ _ O22)
  go_wp2_with (first
    | (go_at_call 24; (with_reducible refine j1.out.mono ?_); clear j1; rintro e p23 ⟨rfl, O23⟩; have j2 := Lib.hid (qC.out _ _ _ O23.rot1))
    | (go_at_call 25; (with_reducible refine j2.out.mono ?_); clear j2; rintro e p24 ⟨rfl, O24⟩; have j3 := Lib.hid (AC.out _ _ _ (Octs.Own.rd 1 O24 rfl) (Octs.Own.rd 0 O24 rfl)))
    | (go_at_call 21; (with_reducible refine j3.out.mono ?_); clear j3; rintro e w' ⟨rfl, e12, rfl⟩)
    | (go_at_call 17; (with_reducible refine (kA.out _).mono ?_); rintro e w' ⟨rfl, e20, rfl⟩))
  have P := O24.p
  go_ret
  exact ⟨rfl, by (repeat (first | exact P | apply Plus.plus | apply Plus.alloc | apply Plus.drew))⟩
end Go.Proofs.Ytjfjecjigakdnaa
