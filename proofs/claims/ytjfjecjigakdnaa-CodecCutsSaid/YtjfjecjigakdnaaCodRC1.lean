/- codec: the reference's TakeCmd by kinds: walk. -/
import Derived.Test.YtjfjecjigakdnaaGi
import Derived.Test.YtjfjecjigakdnaaGa
set_option linter.unusedSimpArgs false
set_option linter.unusedVariables false
namespace Go.Proofs.Ytjfjecjigakdnaa
open Go.RowKit
set_option maxRecDepth 100000
set_option maxHeartbeats 2000000
section
variable {W wx : World} {N : Nat} {s : ByteArray} {b : Bool} {l : List Asn}
theorem rtCmd_1 (h : Own W wx (Octs.rdA N s b :: l)) (hs : s.size ≤ 281474976710656) (hb : inv (s, b)) (b0 b1 b2 b3 b4 b5 b6 b7 b8 b9 b10 : Int) (s1 s2 : ByteArray) (e1 e2 : Bool) (h1 : Octs.rInt s b = (1, s1, e1)) (h2 : tkB s1 e1 = (⟨⟨b0, b1, b2⟩, b3, b4, b5, b6, b7, b8, b9, b10⟩, s2, e2)) : Calls Try.prog 25 #[Octs.rdV N] wx (OwnTo W (fin (⟨1, ⟨0, 0, 0⟩, ⟨⟨b0, b1, b2⟩, b3, b4, b5, b6, b7, b8, b9, b10⟩, 0⟩ : CmdR) s2 e2).1.v (Octs.rdA N (fin (⟨1, ⟨0, 0, 0⟩, ⟨⟨b0, b1, b2⟩, b3, b4, b5, b6, b7, b8, b9, b10⟩, 0⟩ : CmdR) s2 e2).2.1 (fin (⟨1, ⟨0, 0, 0⟩, ⟨⟨b0, b1, b2⟩, b3, b4, b5, b6, b7, b8, b9, b10⟩, 0⟩ : CmdR) s2 e2).2.2 :: l)) := by
  have z1 := Octs.rInt_size s b
  have v1 := rInt_inv2 s b hb
  rw [h1] at z1 v1
  simp only at z1 v1
  have O0 := h.newCells [nI 0, nI 0, nI 0, nI 0, nI 0, nI 0, nI 0, nI 0, nI 0, nI 0, nI 0, nI 0, nI 0, nI 0, nI 0, nI 0] 27
  obtain ⟨w0, hw0⟩ : ∃ q, wx.alloc (.cells #[nI 0, nI 0, nI 0, nI 0, nI 0, nI 0, nI 0, nI 0, nI 0, nI 0, nI 0, nI 0, nI 0, nI 0, nI 0, nI 0] 27) = q := ⟨_, rfl⟩
  rw [hw0] at O0
  have k1 := Octs.refRdInt_O O0.rot1 hs hb
  rw [h1] at k1
  replace k1 := Lib.hid k1
  have z2 := tkB_size s1 e1
  have v2 := tkB_inv s1 e1
  rw [h2] at z2 v2
  simp only at z2 v2
  have k2 := fun wz l' (O : Own W wz (Octs.rdA N s1 e1 :: l')) => refTakeBundle_O O (by omega) v1
  rw [h2] at k2
  replace k2 := Lib.hid k2
  have kC := fun w' => mayCmd_any (⟨1, ⟨0, 0, 0⟩, ⟨⟨b0, b1, b2⟩, b3, b4, b5, b6, b7, b8, b9, b10⟩, 0⟩ : CmdR) w'
  unfold fin snd
  generalize okC (⟨1, ⟨0, 0, 0⟩, ⟨⟨b0, b1, b2⟩, b3, b4, b5, b6, b7, b8, b9, b10⟩, 0⟩ : CmdR) = ok at kC ⊢
  obtain ⟨V, hV⟩ : ∃ V : CmdR × ByteArray × Bool, V = if (e2 || !ok) = true then (cmZ, ⟨#[]⟩, true) else ((⟨1, ⟨0, 0, 0⟩, ⟨⟨b0, b1, b2⟩, b3, b4, b5, b6, b7, b8, b9, b10⟩, 0⟩ : CmdR), s2, false) := ⟨_, rfl⟩
  rw [← hV]
  replace hV := Lib.hid hV
  replace kC := Lib.hid kC
  replace hw0 := Lib.hid hw0
  clear h1 hs hb O0 h z1 v1 z2 v2
  clear h2
  go_enter Try.func25, Try.ntmps25
  go_upto_region 1 with fail
  rw [hw0.out]
  clear hw0
  generalize wx.heap.size = R0 at *
  go_upto_region 2 with (go_at_call 56; (with_reducible refine k1.out.mono ?_); clear k1; rintro e w1 ⟨rfl, P1⟩)
  have O1 := (P1.newCells [nI 1, nI 0, nI 0, nI 0, nI 0, nI 0, nI 0, nI 0, nI 0, nI 0, nI 0, nI 0, nI 0, nI 0, nI 0, nI 0] 27).rot1
  obtain ⟨g1, hg1⟩ : ∃ q, w1.alloc (.cells #[nI 1, nI 0, nI 0, nI 0, nI 0, nI 0, nI 0, nI 0, nI 0, nI 0, nI 0, nI 0, nI 0, nI 0, nI 0, nI 0] 27) = q := ⟨_, rfl⟩
  rw [hg1] at O1
  rw [hg1]
  clear hg1 P1
  generalize w1.heap.size = C at *
  have x0 := (O1.cells 1 rfl).2.1 0 (by simp)
  simp only [List.getElem?_cons_zero] at x0
  haveI : InW C g1 := ⟨(O1.cells 1 rfl).1⟩
  replace O1 := Lib.hid O1
  go_upto_region 3 with fail
  clear x0
  have j2 := Lib.hid (k2.out _ _ O1.out)
  clear k2 O1
  go_upto_region 13 with (first
    | (go_at_call 23; (with_reducible refine j2.out.mono ?_); clear j2; rintro e f2 ⟨rfl, P2⟩; replace P2 := Lib.hid P2)
    | (refine wpList_store_O 25 _ _ rfl rfl rfl 1 4 [nI b0, nI b1, nI b2, nI b3, nI b4, nI b5, nI b6, nI b7, nI b8, nI b9, nI b10] [nI 1, nI 0, nI 0, nI 0, nI b0, nI b1, nI b2, nI b3, nI b4, nI b5, nI b6, nI b7, nI b8, nI b9, nI b10, nI 0] P2.out rfl rfl rfl (by simp) rfl (by kernel_rfl) rfl ?_; intro g2 O2; replace O2 := Lib.hid O2))
  clear P2
  obtain ⟨lt, c0', c1', f0', f1'⟩ := Octs.Own.rd 0 O2.out rfl
  haveI : InW N g2 := ⟨lt⟩
  clear lt f0' f1' c0'
  have kB := Lib.hid (fun wz (p : g2.Plus wz) => refBad_O (Own.atP O2.out wz p))
  cases e2 with
  | true =>
    obtain rfl : V = (cmZ, ⟨#[]⟩, true) := hV.out
    clear hV
    simp only
    go_wp2_with (first
      | (go_at_call 57; (with_reducible refine (kB.out _ (by (repeat (first | exact Plus.refl _ | apply Plus.plus | apply Plus.alloc | apply Plus.drew)))).mono ?_); rintro e w6 ⟨rfl, O6⟩; clear kB O2 c1'; replace O6 := Lib.hid O6)
      | (refine wpList_store_O 27 _ _ rfl rfl rfl 2 0 [nI 0, nI 0, nI 0, nI 0, nI 0, nI 0, nI 0, nI 0, nI 0, nI 0, nI 0, nI 0, nI 0, nI 0, nI 0, nI 0] [nI 0, nI 0, nI 0, nI 0, nI 0, nI 0, nI 0, nI 0, nI 0, nI 0, nI 0, nI 0, nI 0, nI 0, nI 0, nI 0] O6.out rfl rfl rfl (by simp) rfl (by kernel_rfl) rfl ?_; intro wf OZ; replace OZ := Lib.hid OZ))
    exact bodyPost_ret (v := .agg #[nI 0, nI 0, nI 0, nI 0, nI 0, nI 0, nI 0, nI 0, nI 0, nI 0, nI 0, nI 0, nI 0, nI 0, nI 0, nI 0]) (results_O Try.results25 _ 2 OZ.out rfl rfl Try.underlying27 rfl (by kernel_rfl)) rfl ⟨rfl, OZ.out.rot1.drop.rot1.drop⟩
  | false =>
    cases ok with
    | false =>
      obtain rfl : V = (cmZ, ⟨#[]⟩, true) := hV.out
      clear hV
      simp only
      go_wp2_with (first
        | (refine wpList_load_O 27 _ rfl rfl 1 0 [nI 1, nI 0, nI 0, nI 0, nI b0, nI b1, nI b2, nI b3, nI b4, nI b5, nI b6, nI b7, nI b8, nI b9, nI b10, nI 0] O2.out rfl rfl (by simp) rfl Try.underlying27 rfl (by kernel_rfl) ?_)
        | (go_at_call 53; (with_reducible refine (kC.out _).mono ?_); rintro e w' ⟨rfl, e1', rfl⟩)
        | (go_at_call 57; (with_reducible refine (kB.out _ (by (repeat (first | exact Plus.refl _ | apply Plus.plus | apply Plus.alloc | apply Plus.drew)))).mono ?_); rintro e w6 ⟨rfl, O6⟩; clear kB O2 c1'; replace O6 := Lib.hid O6)
        | (refine wpList_store_O 27 _ _ rfl rfl rfl 2 0 [nI 0, nI 0, nI 0, nI 0, nI 0, nI 0, nI 0, nI 0, nI 0, nI 0, nI 0, nI 0, nI 0, nI 0, nI 0, nI 0] [nI 0, nI 0, nI 0, nI 0, nI 0, nI 0, nI 0, nI 0, nI 0, nI 0, nI 0, nI 0, nI 0, nI 0, nI 0, nI 0] O6.out rfl rfl rfl (by simp) rfl (by kernel_rfl) rfl ?_; intro wf OZ; replace OZ := Lib.hid OZ))
      exact bodyPost_ret (v := .agg #[nI 0, nI 0, nI 0, nI 0, nI 0, nI 0, nI 0, nI 0, nI 0, nI 0, nI 0, nI 0, nI 0, nI 0, nI 0, nI 0]) (results_O Try.results25 _ 2 OZ.out rfl rfl Try.underlying27 rfl (by kernel_rfl)) rfl ⟨rfl, OZ.out.rot1.drop.rot1.drop⟩
    | true =>
      obtain rfl : V = ((⟨1, ⟨0, 0, 0⟩, ⟨⟨b0, b1, b2⟩, b3, b4, b5, b6, b7, b8, b9, b10⟩, 0⟩ : CmdR), s2, false) := hV.out
      clear hV
      simp only
      go_upto_region 16 with (first
        | (refine wpList_load_O 27 _ rfl rfl 1 0 [nI 1, nI 0, nI 0, nI 0, nI b0, nI b1, nI b2, nI b3, nI b4, nI b5, nI b6, nI b7, nI b8, nI b9, nI b10, nI 0] O2.out rfl rfl (by simp) rfl Try.underlying27 rfl (by kernel_rfl) ?_)
        | (go_at_call 53; (with_reducible refine (kC.out _).mono ?_); rintro e w' ⟨rfl, e1', rfl⟩))
      have O6 := O2.out.plus e1'
      obtain ⟨w6, hw6⟩ : ∃ q, g2.plus e1' = q := ⟨_, rfl⟩
      rw [hw6] at O6
      try rw [hw6]
      clear hw6 O2 c1'
      replace O6 := Lib.hid O6
      go_wp2_with (first
        | (refine wpList_load_O 27 _ rfl rfl 1 0 [nI 1, nI 0, nI 0, nI 0, nI b0, nI b1, nI b2, nI b3, nI b4, nI b5, nI b6, nI b7, nI b8, nI b9, nI b10, nI 0] O6.out rfl rfl (by simp) rfl Try.underlying27 rfl (by kernel_rfl) ?_)
        | (refine wpList_store_O 27 _ _ rfl rfl rfl 2 0 [nI 1, nI 0, nI 0, nI 0, nI b0, nI b1, nI b2, nI b3, nI b4, nI b5, nI b6, nI b7, nI b8, nI b9, nI b10, nI 0] [nI 1, nI 0, nI 0, nI 0, nI b0, nI b1, nI b2, nI b3, nI b4, nI b5, nI b6, nI b7, nI b8, nI b9, nI b10, nI 0] O6.out rfl rfl rfl (by simp) rfl (by kernel_rfl) rfl ?_; intro wf OZ; replace OZ := Lib.hid OZ))
      exact bodyPost_ret (v := .agg #[nI 1, nI 0, nI 0, nI 0, nI b0, nI b1, nI b2, nI b3, nI b4, nI b5, nI b6, nI b7, nI b8, nI b9, nI b10, nI 0]) (results_O Try.results25 _ 2 OZ.out rfl rfl Try.underlying27 rfl (by kernel_rfl)) rfl ⟨rfl, OZ.out.rot1.drop.rot1.drop⟩
theorem rtCmd_o (h : Own W wx (Octs.rdA N s b :: l)) (hs : s.size ≤ 281474976710656) (hb : inv (s, b)) (k : Int) (n1 : k ≠ 1) (n2 : k ≠ 2) (n3 : k ≠ 3) (n4 : k ≠ 4) (s1 : ByteArray) (e1 : Bool) (h1 : Octs.rInt s b = (k, s1, e1)) : Calls Try.prog 25 #[Octs.rdV N] wx (OwnTo W (fin (⟨k, ⟨0, 0, 0⟩, ⟨⟨0, 0, 0⟩, 0, 0, 0, 0, 0, 0, 0, 0⟩, 0⟩ : CmdR) s1 e1).1.v (Octs.rdA N (fin (⟨k, ⟨0, 0, 0⟩, ⟨⟨0, 0, 0⟩, 0, 0, 0, 0, 0, 0, 0, 0⟩, 0⟩ : CmdR) s1 e1).2.1 (fin (⟨k, ⟨0, 0, 0⟩, ⟨⟨0, 0, 0⟩, 0, 0, 0, 0, 0, 0, 0, 0⟩, 0⟩ : CmdR) s1 e1).2.2 :: l)) := by
  have z1 := Octs.rInt_size s b
  have v1 := rInt_inv2 s b hb
  rw [h1] at z1 v1
  simp only at z1 v1
  have O0 := h.newCells [nI 0, nI 0, nI 0, nI 0, nI 0, nI 0, nI 0, nI 0, nI 0, nI 0, nI 0, nI 0, nI 0, nI 0, nI 0, nI 0] 27
  obtain ⟨w0, hw0⟩ : ∃ q, wx.alloc (.cells #[nI 0, nI 0, nI 0, nI 0, nI 0, nI 0, nI 0, nI 0, nI 0, nI 0, nI 0, nI 0, nI 0, nI 0, nI 0, nI 0] 27) = q := ⟨_, rfl⟩
  rw [hw0] at O0
  have k1 := Octs.refRdInt_O O0.rot1 hs hb
  rw [h1] at k1
  replace k1 := Lib.hid k1
  have kC := fun w' => mayCmd_any (⟨k, ⟨0, 0, 0⟩, ⟨⟨0, 0, 0⟩, 0, 0, 0, 0, 0, 0, 0, 0⟩, 0⟩ : CmdR) w'
  unfold fin snd
  generalize okC (⟨k, ⟨0, 0, 0⟩, ⟨⟨0, 0, 0⟩, 0, 0, 0, 0, 0, 0, 0, 0⟩, 0⟩ : CmdR) = ok at kC ⊢
  obtain ⟨V, hV⟩ : ∃ V : CmdR × ByteArray × Bool, V = if (e1 || !ok) = true then (cmZ, ⟨#[]⟩, true) else ((⟨k, ⟨0, 0, 0⟩, ⟨⟨0, 0, 0⟩, 0, 0, 0, 0, 0, 0, 0, 0⟩, 0⟩ : CmdR), s1, false) := ⟨_, rfl⟩
  rw [← hV]
  replace hV := Lib.hid hV
  replace kC := Lib.hid kC
  replace hw0 := Lib.hid hw0
  have m1 : (k == 1) = false := by simpa using n1
  have m2 : (k == 2) = false := by simpa using n2
  have m3 : (k == 3) = false := by simpa using n3
  have m4 : (k == 4) = false := by simpa using n4
  clear n1 n2 n3 n4
  clear h1 hs hb O0 h z1 v1
  go_enter Try.func25, Try.ntmps25
  go_upto_region 1 with fail
  rw [hw0.out]
  clear hw0
  generalize wx.heap.size = R0 at *
  go_upto_region 2 with (go_at_call 56; (with_reducible refine k1.out.mono ?_); clear k1; rintro e w1 ⟨rfl, P1⟩)
  have O1 := (P1.newCells [nI k, nI 0, nI 0, nI 0, nI 0, nI 0, nI 0, nI 0, nI 0, nI 0, nI 0, nI 0, nI 0, nI 0, nI 0, nI 0] 27).rot1
  obtain ⟨g1, hg1⟩ : ∃ q, w1.alloc (.cells #[nI k, nI 0, nI 0, nI 0, nI 0, nI 0, nI 0, nI 0, nI 0, nI 0, nI 0, nI 0, nI 0, nI 0, nI 0, nI 0] 27) = q := ⟨_, rfl⟩
  rw [hg1] at O1
  rw [hg1]
  clear hg1 P1
  generalize w1.heap.size = C at *
  have x0 := (O1.cells 1 rfl).2.1 0 (by simp)
  simp only [List.getElem?_cons_zero] at x0
  haveI : InW C g1 := ⟨(O1.cells 1 rfl).1⟩
  replace O1 := Lib.hid O1
  go_upto_region 3 with fail
  clear x0
  go_upto_region 13 with fail
  obtain ⟨lt, c0', c1', f0', f1'⟩ := Octs.Own.rd 0 O1.out rfl
  haveI : InW N g1 := ⟨lt⟩
  clear lt f0' f1' c0'
  have kB := Lib.hid (fun wz (p : g1.Plus wz) => refBad_O (Own.atP O1.out wz p))
  cases e1 with
  | true =>
    obtain rfl : V = (cmZ, ⟨#[]⟩, true) := hV.out
    clear hV
    simp only
    go_wp2_with (first
      | (go_at_call 57; (with_reducible refine (kB.out _ (by (repeat (first | exact Plus.refl _ | apply Plus.plus | apply Plus.alloc | apply Plus.drew)))).mono ?_); rintro e w6 ⟨rfl, O6⟩; clear kB O1 c1'; replace O6 := Lib.hid O6)
      | (refine wpList_store_O 27 _ _ rfl rfl rfl 2 0 [nI 0, nI 0, nI 0, nI 0, nI 0, nI 0, nI 0, nI 0, nI 0, nI 0, nI 0, nI 0, nI 0, nI 0, nI 0, nI 0] [nI 0, nI 0, nI 0, nI 0, nI 0, nI 0, nI 0, nI 0, nI 0, nI 0, nI 0, nI 0, nI 0, nI 0, nI 0, nI 0] O6.out rfl rfl rfl (by simp) rfl (by kernel_rfl) rfl ?_; intro wf OZ; replace OZ := Lib.hid OZ))
    exact bodyPost_ret (v := .agg #[nI 0, nI 0, nI 0, nI 0, nI 0, nI 0, nI 0, nI 0, nI 0, nI 0, nI 0, nI 0, nI 0, nI 0, nI 0, nI 0]) (results_O Try.results25 _ 2 OZ.out rfl rfl Try.underlying27 rfl (by kernel_rfl)) rfl ⟨rfl, OZ.out.rot1.drop.rot1.drop⟩
  | false =>
    cases ok with
    | false =>
      obtain rfl : V = (cmZ, ⟨#[]⟩, true) := hV.out
      clear hV
      simp only
      go_wp2_with (first
        | (refine wpList_load_O 27 _ rfl rfl 1 0 [nI k, nI 0, nI 0, nI 0, nI 0, nI 0, nI 0, nI 0, nI 0, nI 0, nI 0, nI 0, nI 0, nI 0, nI 0, nI 0] O1.out rfl rfl (by simp) rfl Try.underlying27 rfl (by kernel_rfl) ?_)
        | (go_at_call 53; (with_reducible refine (kC.out _).mono ?_); rintro e w' ⟨rfl, e1', rfl⟩)
        | (go_at_call 57; (with_reducible refine (kB.out _ (by (repeat (first | exact Plus.refl _ | apply Plus.plus | apply Plus.alloc | apply Plus.drew)))).mono ?_); rintro e w6 ⟨rfl, O6⟩; clear kB O1 c1'; replace O6 := Lib.hid O6)
        | (refine wpList_store_O 27 _ _ rfl rfl rfl 2 0 [nI 0, nI 0, nI 0, nI 0, nI 0, nI 0, nI 0, nI 0, nI 0, nI 0, nI 0, nI 0, nI 0, nI 0, nI 0, nI 0] [nI 0, nI 0, nI 0, nI 0, nI 0, nI 0, nI 0, nI 0, nI 0, nI 0, nI 0, nI 0, nI 0, nI 0, nI 0, nI 0] O6.out rfl rfl rfl (by simp) rfl (by kernel_rfl) rfl ?_; intro wf OZ; replace OZ := Lib.hid OZ))
      exact bodyPost_ret (v := .agg #[nI 0, nI 0, nI 0, nI 0, nI 0, nI 0, nI 0, nI 0, nI 0, nI 0, nI 0, nI 0, nI 0, nI 0, nI 0, nI 0]) (results_O Try.results25 _ 2 OZ.out rfl rfl Try.underlying27 rfl (by kernel_rfl)) rfl ⟨rfl, OZ.out.rot1.drop.rot1.drop⟩
    | true =>
      obtain rfl : V = ((⟨k, ⟨0, 0, 0⟩, ⟨⟨0, 0, 0⟩, 0, 0, 0, 0, 0, 0, 0, 0⟩, 0⟩ : CmdR), s1, false) := hV.out
      clear hV
      simp only
      go_upto_region 16 with (first
        | (refine wpList_load_O 27 _ rfl rfl 1 0 [nI k, nI 0, nI 0, nI 0, nI 0, nI 0, nI 0, nI 0, nI 0, nI 0, nI 0, nI 0, nI 0, nI 0, nI 0, nI 0] O1.out rfl rfl (by simp) rfl Try.underlying27 rfl (by kernel_rfl) ?_)
        | (go_at_call 53; (with_reducible refine (kC.out _).mono ?_); rintro e w' ⟨rfl, e1', rfl⟩))
      have O6 := O1.out.plus e1'
      obtain ⟨w6, hw6⟩ : ∃ q, g1.plus e1' = q := ⟨_, rfl⟩
      rw [hw6] at O6
      try rw [hw6]
      clear hw6 O1 c1'
      replace O6 := Lib.hid O6
      go_wp2_with (first
        | (refine wpList_load_O 27 _ rfl rfl 1 0 [nI k, nI 0, nI 0, nI 0, nI 0, nI 0, nI 0, nI 0, nI 0, nI 0, nI 0, nI 0, nI 0, nI 0, nI 0, nI 0] O6.out rfl rfl (by simp) rfl Try.underlying27 rfl (by kernel_rfl) ?_)
        | (refine wpList_store_O 27 _ _ rfl rfl rfl 2 0 [nI k, nI 0, nI 0, nI 0, nI 0, nI 0, nI 0, nI 0, nI 0, nI 0, nI 0, nI 0, nI 0, nI 0, nI 0, nI 0] [nI k, nI 0, nI 0, nI 0, nI 0, nI 0, nI 0, nI 0, nI 0, nI 0, nI 0, nI 0, nI 0, nI 0, nI 0, nI 0] O6.out rfl rfl rfl (by simp) rfl (by kernel_rfl) rfl ?_; intro wf OZ; replace OZ := Lib.hid OZ))
      exact bodyPost_ret (v := .agg #[nI k, nI 0, nI 0, nI 0, nI 0, nI 0, nI 0, nI 0, nI 0, nI 0, nI 0, nI 0, nI 0, nI 0, nI 0, nI 0]) (results_O Try.results25 _ 2 OZ.out rfl rfl Try.underlying27 rfl (by kernel_rfl)) rfl ⟨rfl, OZ.out.rot1.drop.rot1.drop⟩
end
end Go.Proofs.Ytjfjecjigakdnaa
