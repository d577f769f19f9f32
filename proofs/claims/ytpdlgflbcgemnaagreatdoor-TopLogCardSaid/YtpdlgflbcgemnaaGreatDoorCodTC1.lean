/- codec: TakeCmd by kinds: walk. -/
import Derived.Test.YtpdlgflbcgemnaaGreatDoorGi
import Derived.Test.YtpdlgflbcgemnaaGreatDoorGa
set_option linter.unusedSimpArgs false
set_option linter.unusedVariables false
namespace Go.Proofs.YtpdlgflbcgemnaaGreatDoor
open Go.RowKit
set_option maxRecDepth 100000
set_option maxHeartbeats 2000000
section
variable {W wx : World} {N : Nat} {s : ByteArray} {b : Bool} {l : List Asn}
theorem takeCmd_1 (h : Own W wx (Octs.rdA N s b :: l)) (hs : s.size ≤ 281474976710656) (hb : inv (s, b)) (b0 b1 b2 b3 b4 b5 b6 b7 b8 b9 b10 : Int) (s1 s2 : ByteArray) (e1 e2 : Bool) (h1 : Octs.rInt s b = (1, s1, e1)) (h2 : tkB s1 e1 = (⟨⟨b0, b1, b2⟩, b3, b4, b5, b6, b7, b8, b9, b10⟩, s2, e2)) : Calls Tryz.prog 42 #[Octs.rdV N] wx (OwnTo W (fin (⟨1, ⟨0, 0, 0⟩, ⟨⟨b0, b1, b2⟩, b3, b4, b5, b6, b7, b8, b9, b10⟩, 0⟩ : CmdR) s2 e2).1.v (Octs.rdA N (fin (⟨1, ⟨0, 0, 0⟩, ⟨⟨b0, b1, b2⟩, b3, b4, b5, b6, b7, b8, b9, b10⟩, 0⟩ : CmdR) s2 e2).2.1 (fin (⟨1, ⟨0, 0, 0⟩, ⟨⟨b0, b1, b2⟩, b3, b4, b5, b6, b7, b8, b9, b10⟩, 0⟩ : CmdR) s2 e2).2.2 :: l)) := by
  have z1 := Octs.rInt_size s b
  have v1 := rInt_inv2 s b hb
  rw [h1] at z1 v1
  simp only at z1 v1
  have O0 := h.newCells [nI 0, nI 0, nI 0, nI 0, nI 0, nI 0, nI 0, nI 0, nI 0, nI 0, nI 0, nI 0, nI 0, nI 0, nI 0, nI 0] 77
  obtain ⟨w0, hw0⟩ : ∃ q, wx.alloc (.cells #[nI 0, nI 0, nI 0, nI 0, nI 0, nI 0, nI 0, nI 0, nI 0, nI 0, nI 0, nI 0, nI 0, nI 0, nI 0, nI 0] 77) = q := ⟨_, rfl⟩
  rw [hw0] at O0
  have k1 := Octs.rdInt_O O0.rot1 hs
  rw [h1] at k1
  replace k1 := Lib.hid k1
  have z2 := tkB_size s1 e1
  have v2 := tkB_inv s1 e1
  rw [h2] at z2 v2
  simp only at z2 v2
  have k2 := fun wz l' (O : Own W wz (Octs.rdA N s1 e1 :: l')) => takeBundle_O O (by omega) v1
  rw [h2] at k2
  replace k2 := Lib.hid k2
  have kC := fun w' => checkCmd_any (⟨1, ⟨0, 0, 0⟩, ⟨⟨b0, b1, b2⟩, b3, b4, b5, b6, b7, b8, b9, b10⟩, 0⟩ : CmdR) w'
  have kS := fun wz l' (O : Own W wz (Octs.rdA N s2 e2 :: l')) => soundC_any O (by omega) v2 (⟨1, ⟨0, 0, 0⟩, ⟨⟨b0, b1, b2⟩, b3, b4, b5, b6, b7, b8, b9, b10⟩, 0⟩ : CmdR) (okC (⟨1, ⟨0, 0, 0⟩, ⟨⟨b0, b1, b2⟩, b3, b4, b5, b6, b7, b8, b9, b10⟩, 0⟩ : CmdR))
  unfold fin
  generalize snd (okC (⟨1, ⟨0, 0, 0⟩, ⟨⟨b0, b1, b2⟩, b3, b4, b5, b6, b7, b8, b9, b10⟩, 0⟩ : CmdR)) cmZ (⟨1, ⟨0, 0, 0⟩, ⟨⟨b0, b1, b2⟩, b3, b4, b5, b6, b7, b8, b9, b10⟩, 0⟩ : CmdR) s2 e2 = t at kS ⊢
  generalize (if okC (⟨1, ⟨0, 0, 0⟩, ⟨⟨b0, b1, b2⟩, b3, b4, b5, b6, b7, b8, b9, b10⟩, 0⟩ : CmdR) = true then (0 : Int) else 1) = E at kC kS
  obtain ⟨⟨u0, ⟨u1, u2, u3⟩, ⟨⟨u4, u5, u6⟩, u7, u8, u9, u10, u11, u12, u13, u14⟩, u15⟩, sz, bz⟩ := t
  simp only at kS
  replace kC := Lib.hid kC
  replace kS := Lib.hid kS
  replace hw0 := Lib.hid hw0
  clear h1 hs hb O0 h z1 v1 z2 v2
  clear h2
  go_enter Tryz.func42, Tryz.ntmps42
  go_upto_region 1 with fail
  rw [hw0.out]
  clear hw0
  generalize wx.heap.size = R0 at *
  go_upto_region 2 with (go_at_call 40; (with_reducible refine k1.out.mono ?_); clear k1; rintro e w1 ⟨rfl, P1⟩)
  have O1 := (P1.newCells [nI 1, nI 0, nI 0, nI 0, nI 0, nI 0, nI 0, nI 0, nI 0, nI 0, nI 0, nI 0, nI 0, nI 0, nI 0, nI 0] 77).rot1
  obtain ⟨g1, hg1⟩ : ∃ q, w1.alloc (.cells #[nI 1, nI 0, nI 0, nI 0, nI 0, nI 0, nI 0, nI 0, nI 0, nI 0, nI 0, nI 0, nI 0, nI 0, nI 0, nI 0] 77) = q := ⟨_, rfl⟩
  rw [hg1] at O1
  rw [hg1]
  clear hg1 P1
  generalize w1.heap.size = C at *
  have x0 := (O1.cells 1 rfl).2.1 0 (by simp)
  simp only [List.getElem?_cons_zero] at x0
  haveI : InW C g1 := ⟨(O1.cells 1 rfl).1⟩
  replace O1 := Lib.hid O1
  go_upto_region 3 with fail
  clear x0
  have j2 := Lib.hid (k2.out _ _ O1.out)
  clear k2 O1
  go_upto_region 13 with (first
    | (go_at_call 44; (with_reducible refine j2.out.mono ?_); clear j2; rintro e f2 ⟨rfl, P2⟩; replace P2 := Lib.hid P2)
    | (refine wpList_store_O 75 _ _ rfl rfl rfl 1 4 [nI b0, nI b1, nI b2, nI b3, nI b4, nI b5, nI b6, nI b7, nI b8, nI b9, nI b10] [nI 1, nI 0, nI 0, nI 0, nI b0, nI b1, nI b2, nI b3, nI b4, nI b5, nI b6, nI b7, nI b8, nI b9, nI b10, nI 0] P2.out rfl rfl rfl (by simp) rfl (by kernel_rfl) rfl ?_; intro g2 O2; replace O2 := Lib.hid O2))
  clear P2
  refine wp_region_grow_tail 4 (by kernel_rfl) (by kernel_rfl) ?_
  simp only [List.take_succ_cons, List.take_zero, List.drop_succ_cons, List.drop_zero]
  repeat (first
    | (go_big_quiet_want; refine quiet_load_O 77 _ rfl 1 0 [nI 1, nI 0, nI 0, nI 0, nI b0, nI b1, nI b2, nI b3, nI b4, nI b5, nI b6, nI b7, nI b8, nI b9, nI b10, nI 0] (fun w hw => Own.atP O2.out w hw) rfl rfl (by simp) rfl Tryz.underlying77 rfl (by kernel_rfl) ?_; go_big_quiet_on; simp only [Act.put, List.setIfInBounds_toArray, List.set_cons_succ, List.set_cons_zero])
    | go_big_quiet_step ((go_at_call 62; exact Calls.plus_of (kC.out _))))
  refine wpQuiet_nil ?_
  intro ex
  have OE := O2.out.plus ex
  have kT := Lib.hid (kS.out _ _ OE)
  clear kS kC O2
  go_wp2_with (first
    | (go_at_call 80; (with_reducible refine kT.out.mono ?_); clear kT; rintro e w6 ⟨rfl, O6⟩; replace O6 := Lib.hid O6)
    | (refine wpList_store_O 77 _ _ rfl rfl rfl 2 0 [nI u0, nI u1, nI u2, nI u3, nI u4, nI u5, nI u6, nI u7, nI u8, nI u9, nI u10, nI u11, nI u12, nI u13, nI u14, nI u15] [nI u0, nI u1, nI u2, nI u3, nI u4, nI u5, nI u6, nI u7, nI u8, nI u9, nI u10, nI u11, nI u12, nI u13, nI u14, nI u15] O6.out rfl rfl rfl (by simp) rfl (by kernel_rfl) rfl ?_; intro wf OZ; replace OZ := Lib.hid OZ))
  exact bodyPost_ret (v := .agg #[nI u0, nI u1, nI u2, nI u3, nI u4, nI u5, nI u6, nI u7, nI u8, nI u9, nI u10, nI u11, nI u12, nI u13, nI u14, nI u15]) (results_O Tryz.results42 _ 2 OZ.out rfl rfl Tryz.underlying77 rfl (by kernel_rfl)) rfl ⟨rfl, OZ.out.rot1.drop.rot1.drop⟩
theorem takeCmd_o (h : Own W wx (Octs.rdA N s b :: l)) (hs : s.size ≤ 281474976710656) (hb : inv (s, b)) (k : Int) (n1 : k ≠ 1) (n2 : k ≠ 2) (n3 : k ≠ 3) (n4 : k ≠ 4) (s1 : ByteArray) (e1 : Bool) (h1 : Octs.rInt s b = (k, s1, e1)) : Calls Tryz.prog 42 #[Octs.rdV N] wx (OwnTo W (fin (⟨k, ⟨0, 0, 0⟩, ⟨⟨0, 0, 0⟩, 0, 0, 0, 0, 0, 0, 0, 0⟩, 0⟩ : CmdR) s1 e1).1.v (Octs.rdA N (fin (⟨k, ⟨0, 0, 0⟩, ⟨⟨0, 0, 0⟩, 0, 0, 0, 0, 0, 0, 0, 0⟩, 0⟩ : CmdR) s1 e1).2.1 (fin (⟨k, ⟨0, 0, 0⟩, ⟨⟨0, 0, 0⟩, 0, 0, 0, 0, 0, 0, 0, 0⟩, 0⟩ : CmdR) s1 e1).2.2 :: l)) := by
  have z1 := Octs.rInt_size s b
  have v1 := rInt_inv2 s b hb
  rw [h1] at z1 v1
  simp only at z1 v1
  have O0 := h.newCells [nI 0, nI 0, nI 0, nI 0, nI 0, nI 0, nI 0, nI 0, nI 0, nI 0, nI 0, nI 0, nI 0, nI 0, nI 0, nI 0] 77
  obtain ⟨w0, hw0⟩ : ∃ q, wx.alloc (.cells #[nI 0, nI 0, nI 0, nI 0, nI 0, nI 0, nI 0, nI 0, nI 0, nI 0, nI 0, nI 0, nI 0, nI 0, nI 0, nI 0] 77) = q := ⟨_, rfl⟩
  rw [hw0] at O0
  have k1 := Octs.rdInt_O O0.rot1 hs
  rw [h1] at k1
  replace k1 := Lib.hid k1
  have kC := fun w' => checkCmd_any (⟨k, ⟨0, 0, 0⟩, ⟨⟨0, 0, 0⟩, 0, 0, 0, 0, 0, 0, 0, 0⟩, 0⟩ : CmdR) w'
  have kS := fun wz l' (O : Own W wz (Octs.rdA N s1 e1 :: l')) => soundC_any O (by omega) v1 (⟨k, ⟨0, 0, 0⟩, ⟨⟨0, 0, 0⟩, 0, 0, 0, 0, 0, 0, 0, 0⟩, 0⟩ : CmdR) (okC (⟨k, ⟨0, 0, 0⟩, ⟨⟨0, 0, 0⟩, 0, 0, 0, 0, 0, 0, 0, 0⟩, 0⟩ : CmdR))
  unfold fin
  generalize snd (okC (⟨k, ⟨0, 0, 0⟩, ⟨⟨0, 0, 0⟩, 0, 0, 0, 0, 0, 0, 0, 0⟩, 0⟩ : CmdR)) cmZ (⟨k, ⟨0, 0, 0⟩, ⟨⟨0, 0, 0⟩, 0, 0, 0, 0, 0, 0, 0, 0⟩, 0⟩ : CmdR) s1 e1 = t at kS ⊢
  generalize (if okC (⟨k, ⟨0, 0, 0⟩, ⟨⟨0, 0, 0⟩, 0, 0, 0, 0, 0, 0, 0, 0⟩, 0⟩ : CmdR) = true then (0 : Int) else 1) = E at kC kS
  obtain ⟨⟨u0, ⟨u1, u2, u3⟩, ⟨⟨u4, u5, u6⟩, u7, u8, u9, u10, u11, u12, u13, u14⟩, u15⟩, sz, bz⟩ := t
  simp only at kS
  replace kC := Lib.hid kC
  replace kS := Lib.hid kS
  replace hw0 := Lib.hid hw0
  have m1 : (k == 1) = false := by simpa using n1
  have m2 : (k == 2) = false := by simpa using n2
  have m3 : (k == 3) = false := by simpa using n3
  have m4 : (k == 4) = false := by simpa using n4
  clear n1 n2 n3 n4
  clear h1 hs hb O0 h z1 v1
  go_enter Tryz.func42, Tryz.ntmps42
  go_upto_region 1 with fail
  rw [hw0.out]
  clear hw0
  generalize wx.heap.size = R0 at *
  go_upto_region 2 with (go_at_call 40; (with_reducible refine k1.out.mono ?_); clear k1; rintro e w1 ⟨rfl, P1⟩)
  have O1 := (P1.newCells [nI k, nI 0, nI 0, nI 0, nI 0, nI 0, nI 0, nI 0, nI 0, nI 0, nI 0, nI 0, nI 0, nI 0, nI 0, nI 0] 77).rot1
  obtain ⟨g1, hg1⟩ : ∃ q, w1.alloc (.cells #[nI k, nI 0, nI 0, nI 0, nI 0, nI 0, nI 0, nI 0, nI 0, nI 0, nI 0, nI 0, nI 0, nI 0, nI 0, nI 0] 77) = q := ⟨_, rfl⟩
  rw [hg1] at O1
  rw [hg1]
  clear hg1 P1
  generalize w1.heap.size = C at *
  have x0 := (O1.cells 1 rfl).2.1 0 (by simp)
  simp only [List.getElem?_cons_zero] at x0
  haveI : InW C g1 := ⟨(O1.cells 1 rfl).1⟩
  replace O1 := Lib.hid O1
  go_upto_region 3 with fail
  clear x0
  go_upto_region 13 with fail
  refine wp_region_grow_tail 4 (by kernel_rfl) (by kernel_rfl) ?_
  simp only [List.take_succ_cons, List.take_zero, List.drop_succ_cons, List.drop_zero]
  repeat (first
    | (go_big_quiet_want; refine quiet_load_O 77 _ rfl 1 0 [nI k, nI 0, nI 0, nI 0, nI 0, nI 0, nI 0, nI 0, nI 0, nI 0, nI 0, nI 0, nI 0, nI 0, nI 0, nI 0] (fun w hw => Own.atP O1.out w hw) rfl rfl (by simp) rfl Tryz.underlying77 rfl (by kernel_rfl) ?_; go_big_quiet_on; simp only [Act.put, List.setIfInBounds_toArray, List.set_cons_succ, List.set_cons_zero])
    | go_big_quiet_step ((go_at_call 62; exact Calls.plus_of (kC.out _))))
  refine wpQuiet_nil ?_
  intro ex
  have OE := O1.out.plus ex
  have kT := Lib.hid (kS.out _ _ OE)
  clear kS kC O1
  go_wp2_with (first
    | (go_at_call 80; (with_reducible refine kT.out.mono ?_); clear kT; rintro e w6 ⟨rfl, O6⟩; replace O6 := Lib.hid O6)
    | (refine wpList_store_O 77 _ _ rfl rfl rfl 2 0 [nI u0, nI u1, nI u2, nI u3, nI u4, nI u5, nI u6, nI u7, nI u8, nI u9, nI u10, nI u11, nI u12, nI u13, nI u14, nI u15] [nI u0, nI u1, nI u2, nI u3, nI u4, nI u5, nI u6, nI u7, nI u8, nI u9, nI u10, nI u11, nI u12, nI u13, nI u14, nI u15] O6.out rfl rfl rfl (by simp) rfl (by kernel_rfl) rfl ?_; intro wf OZ; replace OZ := Lib.hid OZ))
  exact bodyPost_ret (v := .agg #[nI u0, nI u1, nI u2, nI u3, nI u4, nI u5, nI u6, nI u7, nI u8, nI u9, nI u10, nI u11, nI u12, nI u13, nI u14, nI u15]) (results_O Tryz.results42 _ 2 OZ.out rfl rfl Tryz.underlying77 rfl (by kernel_rfl)) rfl ⟨rfl, OZ.out.rot1.drop.rot1.drop⟩
end
end Go.Proofs.YtpdlgflbcgemnaaGreatDoor
