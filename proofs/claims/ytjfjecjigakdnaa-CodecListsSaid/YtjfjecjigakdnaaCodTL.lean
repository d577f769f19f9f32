/- codec: CodecLists: walk. -/
import Derived.Test.YtjfjecjigakdnaaCodTE
import Derived.Test.YtjfjecjigakdnaaCodMr
import Derived.Test.YtjfjecjigakdnaaCodLr
import Derived.Test.YtjfjecjigakdnaaCodS
import Derived.Test.YtjfjecjigakdnaaCodOp
set_option linter.unusedSimpArgs false
set_option linter.unusedVariables false
namespace Go.Proofs.Ytjfjecjigakdnaa
open Go.RowKit
theorem readL_most {α : Type} (tk : ByteArray → Bool → α × ByteArray × Bool) (s : ByteArray) (b : Bool) (most : Int) (m : Nat) (h : most ≤ m) : (readL tk s b most).1.length ≤ m := by
  unfold readL
  split
  · exact Nat.zero_le _
  · have h1 := tkL_len tk (Octs.rCount s b most).1.toNat [] (Octs.rCount s b most).2.1
    have h2 := rCount_most s b most m (by omega) h
    rw [List.length_nil] at h1
    omega
set_option maxHeartbeats 1000000
set_option maxRecDepth 100000
theorem codecLists_any (xs : List BdR) (A : Option Addr) (cp : Nat) (s : ByteArray) (most : Int) (W : World) (hI : ∀ x ∈ xs, BdI x) (hr : RowsAt W A 11 xs.length (rowFB xs)) (h47 : s.size ≤ 281474976710656) (hx47 : xs.length ≤ 9223372036854775807) : Calls Try.prog 5 #[.slice A xs.length cp, .string s, nI most] W fun e w' => e = .returned (.bool true) ∧ W.Plus w' := by
  have kA := Lib.hid (fun w => awake_any w)
  by_cases hg : 50 < xs.length ∨ 3000 < s.size ∨ 1048576 < most
  · have arms : True := trivial
    clear hr hI
    generalize xs.length = n at *
    by_cases h1 : 50 < n
    · have hi : (50 : Int) < n := by omega
      clear h47 hg
      go_enter Try.func5, Try.ntmps5
      go_wp2_with (go_at_call 17; (with_reducible refine (kA.out _).mono ?_); rintro e w' ⟨rfl, e1, rfl⟩)
      go_ret
      exact ⟨rfl, by (repeat (first | exact Plus.refl _ | apply Plus.plus | apply Plus.alloc | apply Plus.drew))⟩
    · have hi : ¬ (50 : Int) < n := by omega
      by_cases h2 : 3000 < s.size
      · have hi2 : (3000 : Int) < s.size := by omega
        clear h47 hg
        go_enter Try.func5, Try.ntmps5
        go_wp2_with (go_at_call 17; (with_reducible refine (kA.out _).mono ?_); rintro e w' ⟨rfl, e1, rfl⟩)
        go_ret
        exact ⟨rfl, by (repeat (first | exact Plus.refl _ | apply Plus.plus | apply Plus.alloc | apply Plus.drew))⟩
      · have hi2 : ¬ (3000 : Int) < s.size := by omega
        have hi3 : (1048576 : Int) < most := by omega
        clear h47 hg
        go_enter Try.func5, Try.ntmps5
        go_wp2_with (go_at_call 17; (with_reducible refine (kA.out _).mono ?_); rintro e w' ⟨rfl, e1, rfl⟩)
        go_ret
        exact ⟨rfl, by (repeat (first | exact Plus.refl _ | apply Plus.plus | apply Plus.alloc | apply Plus.drew))⟩
  have hi : ¬ (50 : Int) < xs.length := by omega
  have hi2 : ¬ (3000 : Int) < s.size := by omega
  have hi3 : ¬ (1048576 : Int) < most := by omega
  have hs : s.size ≤ 281474976710656 := by omega
  have hmo : most ≤ 1048576 := by omega
  have hxl : xs.length ≤ 1100 := by omega
  have kO := Lib.hid (fun w l (O : Own W w l) => Octs.of_O (s := s) O hs)
  have kL := Lib.hid (fun w (p : W.Plus w) => listB_any xs hI hxl A cp w (hr.plus p))
  have qL := Lib.hid (fun w (p : W.Plus w) => refListB_any xs hI hxl A cp w (hr.plus p))
  generalize Octs.txt (encL encB xs) = TB at kL qL
  have h0 : inv (s, false) := by intro h; cases h
  have zB := readL_size tkB tkB_size s false most
  have vB := readL_inv tkB s false most
  have nB := readL_most tkB s false most 1048576 hmo
  have kB := fun w N l (O : Own W w (Octs.rdA N s false :: l)) => takeListB_O O hs h0 most hmo
  have qB := fun w N l (O : Own W w (Octs.rdA N s false :: l)) => refListB_O O hs h0 most hmo
  rcases hB : readL tkB s false most with ⟨xB, sB, eB⟩
  rw [hB] at zB vB kB qB nB
  simp only at zB vB kB qB nB
  have AB := Lib.hid (fun w N M h h' => as_any w N M sB eB (by omega) vB h h')
  have SB := Lib.hid (fun w A B c d (h : Sl w 11 (.slice A xB.length c) xB.length (xB.flatMap BdR.cs)) (h' : Sl w 11 (.slice B xB.length d) xB.length (xB.flatMap BdR.cs)) => sameB_any w A B c d xB (slRowsB rfl h) (slRowsB rfl h') (by omega))
  replace kB := Lib.hid kB
  replace qB := Lib.hid qB
  have zC := readL_size tkC tkC_size s false most
  have vC := readL_inv tkC s false most
  have nC := readL_most tkC s false most 1048576 hmo
  have kC := fun w N l (O : Own W w (Octs.rdA N s false :: l)) => takeListC_O O hs h0 most hmo
  have qC := fun w N l (O : Own W w (Octs.rdA N s false :: l)) => refListC_O O hs h0 most hmo
  rcases hC : readL tkC s false most with ⟨xC, sC, eC⟩
  rw [hC] at zC vC kC qC nC
  simp only at zC vC kC qC nC
  have AC := Lib.hid (fun w N M h h' => as_any w N M sC eC (by omega) vC h h')
  have SC := Lib.hid (fun w A B c d (h : Sl w 16 (.slice A xC.length c) xC.length (xC.flatMap CmdR.cs)) (h' : Sl w 16 (.slice B xC.length d) xC.length (xC.flatMap CmdR.cs)) => sameC_any w A B c d xC (slRowsC rfl h) (slRowsC rfl h') (by omega))
  replace kC := Lib.hid kC
  replace qC := Lib.hid qC
  have zI := readL_size tkI tkI_size s false most
  have vI := readL_inv tkI s false most
  have nI := readL_most tkI s false most 1048576 hmo
  have kI := fun w N l (O : Own W w (Octs.rdA N s false :: l)) => takeListI_O O hs h0 most hmo
  have qI := fun w N l (O : Own W w (Octs.rdA N s false :: l)) => refListI_O O hs h0 most hmo
  rcases hI : readL tkI s false most with ⟨xI, sI, eI⟩
  rw [hI] at zI vI kI qI nI
  simp only at zI vI kI qI nI
  have AI := Lib.hid (fun w N M h h' => as_any w N M sI eI (by omega) vI h h')
  have SI := Lib.hid (fun w A B c d (h : Sl w 3 (.slice A xI.length c) xI.length (xI.flatMap IdR.cs)) (h' : Sl w 3 (.slice B xI.length d) xI.length (xI.flatMap IdR.cs)) => sameI_any w A B c d xI (slRowsI rfl h) (slRowsI rfl h') (by omega))
  replace kI := Lib.hid kI
  replace qI := Lib.hid qI
  clear hB hC zI zB zC vI vB vC nB nC hs h0 hg hr hmo hxl h47 hx47
  generalize xs.length = n at *
  go_enter Try.func5, Try.ntmps5
  go_upto_region 6 with (first
    | (go_at_call 26; (with_reducible refine (kL.out _ (by (repeat (first | exact Plus.refl _ | apply Plus.plus | apply Plus.alloc | apply Plus.drew)))).mono ?_); rintro e w' ⟨rfl, f1, rfl⟩)
    | (go_at_call 27; (with_reducible refine (qL.out _ (by (repeat (first | exact Plus.refl _ | apply Plus.plus | apply Plus.alloc | apply Plus.drew)))).mono ?_); rintro e w' ⟨rfl, f2, rfl⟩)
    | (go_at_call 18; (with_reducible refine (kO.out _ _ (Own.atP (Own.start W) _ (by (repeat (first | exact Plus.refl _ | apply Plus.plus | apply Plus.alloc | apply Plus.drew))))).mono ?_); rintro e p01 ⟨N0, rfl, O01⟩))
  have O02 := (Own.newRd O01 s 37).rot1
  obtain ⟨p02, hw⟩ : ∃ q, p01.alloc (.cells #[.string s, .bool false] 37) = q := ⟨_, rfl⟩
  rw [hw] at O02 ⊢
  clear hw O01
  generalize p01.heap.size = M0 at *
  have j1 := Lib.hid (kB.out _ _ _ O02)
  go_upto_region 8 with (first
    | (go_at_call 29; (with_reducible refine j1.out.mono ?_); clear j1; rintro e p03 ⟨Aa, ca, rfl, O03⟩; have j2 := Lib.hid (qB.out _ _ _ (O03.pull 2 rfl)))
    | (go_at_call 30; (with_reducible refine j2.out.mono ?_); clear j2; rintro e p04 ⟨Ab, cb, rfl, O04⟩; have j3 := Lib.hid (SB.out _ _ _ _ _ (O04.sl 2 rfl) (O04.sl 0 rfl)))
    | (go_at_call 28; (with_reducible refine j3.out.mono ?_); clear j3; rintro e w' ⟨rfl, g0, rfl⟩; have j4 := Lib.hid (AB.out _ _ _ (Octs.Own.rd 3 (O04.plus g0) rfl) (Octs.Own.rd 1 (O04.plus g0) rfl)))
    | (go_at_call 21; (with_reducible refine j4.out.mono ?_); clear j4; rintro e w' ⟨rfl, e0, rfl⟩))
  have O05 : Own W ((p04.plus g0).plus e0) [] := ((Own.nil (O04.p)).plus g0).plus e0
  generalize (p04.plus g0).plus e0 = p05 at *
  clear kB qB AB SB O02 O03 O04
  go_upto_region 9 with (first
    | (go_at_call 18; (with_reducible refine (kO.out _ _ (O05)).mono ?_); rintro e p11 ⟨N1, rfl, O11⟩))
  have O12 := (Own.newRd O11 s 37).rot1
  obtain ⟨p12, hw⟩ : ∃ q, p11.alloc (.cells #[.string s, .bool false] 37) = q := ⟨_, rfl⟩
  rw [hw] at O12 ⊢
  clear hw O11
  generalize p11.heap.size = M1 at *
  have j1 := Lib.hid (kC.out _ _ _ O12)
  go_upto_region 11 with (first
    | (go_at_call 32; (with_reducible refine j1.out.mono ?_); clear j1; rintro e p13 ⟨Aa, ca, rfl, O13⟩; have j2 := Lib.hid (qC.out _ _ _ (O13.pull 2 rfl)))
    | (go_at_call 33; (with_reducible refine j2.out.mono ?_); clear j2; rintro e p14 ⟨Ab, cb, rfl, O14⟩; have j3 := Lib.hid (SC.out _ _ _ _ _ (O14.sl 2 rfl) (O14.sl 0 rfl)))
    | (go_at_call 31; (with_reducible refine j3.out.mono ?_); clear j3; rintro e w' ⟨rfl, g1, rfl⟩; have j4 := Lib.hid (AC.out _ _ _ (Octs.Own.rd 3 (O14.plus g1) rfl) (Octs.Own.rd 1 (O14.plus g1) rfl)))
    | (go_at_call 21; (with_reducible refine j4.out.mono ?_); clear j4; rintro e w' ⟨rfl, e1, rfl⟩))
  have O15 : Own W ((p14.plus g1).plus e1) [] := ((Own.nil (O14.p)).plus g1).plus e1
  generalize (p14.plus g1).plus e1 = p15 at *
  clear kC qC AC SC O12 O13 O14
  go_upto_region 12 with (first
    | (go_at_call 18; (with_reducible refine (kO.out _ _ (O15)).mono ?_); rintro e p21 ⟨N2, rfl, O21⟩))
  have O22 := (Own.newRd O21 s 37).rot1
  obtain ⟨p22, hw⟩ : ∃ q, p21.alloc (.cells #[.string s, .bool false] 37) = q := ⟨_, rfl⟩
  rw [hw] at O22 ⊢
  clear hw O21
  generalize p21.heap.size = M2 at *
  have j1 := Lib.hid (kI.out _ _ _ O22)
  go_wp2_with (first
    | (go_at_call 35; (with_reducible refine j1.out.mono ?_); clear j1; rintro e p23 ⟨Aa, ca, rfl, O23⟩; have j2 := Lib.hid (qI.out _ _ _ (O23.pull 2 rfl)))
    | (go_at_call 36; (with_reducible refine j2.out.mono ?_); clear j2; rintro e p24 ⟨Ab, cb, rfl, O24⟩; have j3 := Lib.hid (SI.out _ _ _ _ _ (O24.sl 2 rfl) (O24.sl 0 rfl)))
    | (go_at_call 34; (with_reducible refine j3.out.mono ?_); clear j3; rintro e w' ⟨rfl, g2, rfl⟩; have j4 := Lib.hid (AI.out _ _ _ (Octs.Own.rd 3 (O24.plus g2) rfl) (Octs.Own.rd 1 (O24.plus g2) rfl)))
    | (go_at_call 21; (with_reducible refine j4.out.mono ?_); clear j4; rintro e w' ⟨rfl, e2, rfl⟩)
    | (go_at_call 17; (with_reducible refine (kA.out _).mono ?_); rintro e w' ⟨rfl, e20, rfl⟩))
  have P := O24.p
  go_ret
  exact ⟨rfl, by (repeat (first | exact P | apply Plus.plus | apply Plus.alloc | apply Plus.drew))⟩
end Go.Proofs.Ytjfjecjigakdnaa
